/-
  Texts that the proof stands on.
-/
import Derived.Test.YtkfjghcojgmemaaKRwOpenFol2
import Derived.Shelf.Small.Bits
import Derived.Shelf.Strconv.Itoa0
import Derived.Shelf.Sort.Plain
import Derived.Shelf.Slices.Equal
import Derived.Ground.Names2Prog
import Derived.Shelf.Slices.Clone
import Derived.Shelf.Slices.SearchI
import Derived.Shelf.Slices.Cells
import Derived.Shelf.Slices.In.SortNone
import Derived.Shelf.Slices.Empties
import Derived.Ground.SlgnProg
import Derived.Shelf.SlicesE.Clone
import Derived.Ground.SlsfProg
import Derived.Shelf.SlSortCmp.Insertion
import Derived.Shelf.SlSortCmp.SiftDown1
import Derived.Shelf.SlSortCmp.HeapSort1
import Derived.Shelf.SlSortCmp.Insertion1
import Derived.Shelf.SlSortCmp.Median1
import Derived.Shelf.SlSortCmp.Pivot1
import Derived.Shelf.SlSortCmp.ReverseRange1
import Derived.Shelf.SlSortCmp.PartialInsertion1
import Derived.Shelf.SlSortCmp.PartitionEqual1
import Derived.Shelf.SlSortCmp.Partition1
import Derived.Shelf.SlSortCmp.Pdq1
import Derived.Shelf.SlSortCmp.NoneTotal
import Derived.Test.YtkfjghcojgmemaaProg
set_option linter.all false
section
namespace Go.Proofs
open Go.Shelf
def Try.lays189_ren : Go.Shelf.Ren := ⟨fun | 189 => 44 | 125 => 58 | 257 => 57 | 128 => 73 | 129 => 74 | 294 => 65 | 295 => 66 | 296 => 67 | 297 => 68 | 298 => 69 | 299 => 70 | 216 => 55 | 300 => 71 | 301 => 72 | 328 => 78 | 329 => 79 | 330 => 80 | 331 => 81 | 332 => 82 | 215 => 60 | 343 => 92 | n => n, fun | 28 => 22 | 3 => 3 | 46 => 87 | 0 => 0 | 51 => 103 | 53 => 105 | 4 => 4 | 183 => 97 | 182 => 96 | 131 => 77 | 5 => 5 | 9 => 9 | 218 => 108 | 222 => 112 | 228 => 120 | 229 => 121 | n => n, fun | n => n⟩
theorem Try.lays189 : Go.Proofs.Lays.n189 Try.prog Try.lays189_ren := {
  mixed := by kernel_rfl
  f125 := Try.func58.trans (congrArg some (by kernel_rfl))
  f128 := Try.func73.trans (congrArg some (by kernel_rfl))
  f129 := Try.func74.trans (congrArg some (by kernel_rfl))
  f189 := Try.func44.trans (congrArg some (by kernel_rfl))
  f215 := Try.func60.trans (congrArg some (by kernel_rfl))
  f216 := Try.func55.trans (congrArg some (by kernel_rfl))
  f257 := Try.func57.trans (congrArg some (by kernel_rfl))
  f294 := Try.func65.trans (congrArg some (by kernel_rfl))
  f295 := Try.func66.trans (congrArg some (by kernel_rfl))
  f296 := Try.func67.trans (congrArg some (by kernel_rfl))
  f297 := Try.func68.trans (congrArg some (by kernel_rfl))
  f298 := Try.func69.trans (congrArg some (by kernel_rfl))
  f299 := Try.func70.trans (congrArg some (by kernel_rfl))
  f300 := Try.func71.trans (congrArg some (by kernel_rfl))
  f301 := Try.func72.trans (congrArg some (by kernel_rfl))
  f328 := Try.func78.trans (congrArg some (by kernel_rfl))
  f329 := Try.func79.trans (congrArg some (by kernel_rfl))
  f330 := Try.func80.trans (congrArg some (by kernel_rfl))
  f331 := Try.func81.trans (congrArg some (by kernel_rfl))
  f332 := Try.func82.trans (congrArg some (by kernel_rfl))
  f343 := Try.func92.trans (congrArg some (by kernel_rfl))
  t0 := Try.underlying0
  a0 := Try.isAgg0
  z0 := Try.sizeOf0
  v0 := Try.zeroValue0
  t3 := Try.underlying3
  a3 := Try.isAgg3
  z3 := Try.sizeOf3
  v3 := Try.zeroValue3
  t4 := Try.underlying4
  a4 := Try.isAgg4
  z4 := Try.sizeOf4
  v4 := Try.zeroValue4
  t5 := Try.underlying5
  a5 := Try.isAgg5
  z5 := Try.sizeOf5
  v5 := Try.zeroValue5
  t9 := Try.underlying9
  a9 := Try.isAgg9
  z9 := Try.sizeOf9
  v9 := Try.zeroValue9
  t28 := Try.underlying22
  a28 := Try.isAgg22
  z28 := Try.sizeOf22
  v28 := Try.zeroValue22
  t46 := Try.underlying87
  a46 := Try.isAgg87
  z46 := Try.sizeOf87
  v46 := Try.zeroValue87
  t51 := Try.underlying103
  a51 := Try.isAgg103
  z51 := Try.sizeOf103
  v51 := Try.zeroValue103
  t53 := Try.underlying105
  a53 := Try.isAgg105
  z53 := Try.sizeOf105
  v53 := Try.zeroValue105
  t131 := Try.underlying77
  a131 := Try.isAgg77
  z131 := Try.sizeOf77
  v131 := Try.zeroValue77
  t182 := Try.underlying96
  a182 := Try.isAgg96
  z182 := Try.sizeOf96
  v182 := Try.zeroValue96
  t183 := Try.underlying97
  a183 := Try.isAgg97
  z183 := Try.sizeOf97
  v183 := Try.zeroValue97
  t218 := Try.underlying108
  a218 := Try.isAgg108
  z218 := Try.sizeOf108
  v218 := Try.zeroValue108
  t222 := Try.underlying112
  a222 := Try.isAgg112
  z222 := Try.sizeOf112
  v222 := Try.zeroValue112
  t228 := Try.underlying120
  a228 := Try.isAgg120
  z228 := Try.sizeOf120
  v228 := Try.zeroValue120
  t229 := Try.underlying121
  a229 := Try.isAgg121
  z229 := Try.sizeOf121
  v229 := Try.zeroValue121 }
open Go.Sort Go.RowKit in
theorem Try.slices_Sort_int (blk off cap : Nat) (zs : List Int) (w : World) (hH : Holds (Value.int .i64) w blk off zs.toArray) (hblk : blk < w.heap.size) (hsz : zs.length < 4611686018427387904) :
    Calls Try.prog 44 #[.slice (some ⟨blk, off, none⟩) zs.length cap] w fun e w' =>
      e = .returned (.tuple #[]) ∧ ∃ n os, w' = grow (putRow (Value.int .i64) (Sort.ahead w n) blk off (zs.mergeSort fun x y => decide (x ≤ y)).toArray) os := Any.slices_Sort_int Try.lays189 blk off cap zs w hH hblk hsz
def Try.laysNm220_ren : Go.Shelf.Ren := ⟨fun | 20 => 45 | n => n, fun | 22 => 22 | 3 => 3 | 4 => 4 | 0 => 0 | n => n, fun | n => n⟩
theorem Try.laysNm220 : Go.Proofs.Lays2.n20 Try.prog Try.laysNm220_ren := {
  mixed := by kernel_rfl
  f20 := Try.func45.trans (congrArg some (by kernel_rfl))
  t0 := Try.underlying0
  a0 := Try.isAgg0
  z0 := Try.sizeOf0
  v0 := Try.zeroValue0
  t3 := Try.underlying3
  a3 := Try.isAgg3
  z3 := Try.sizeOf3
  v3 := Try.zeroValue3
  t4 := Try.underlying4
  a4 := Try.isAgg4
  z4 := Try.sizeOf4
  v4 := Try.zeroValue4
  t22 := Try.underlying22
  a22 := Try.isAgg22
  z22 := Try.sizeOf22
  v22 := Try.zeroValue22
  i3 := by kernel_rfl }
open Go.RowKit Go.Lib Go.Sort in
/-- slices.Compact at []int: "Compact replaces consecutive runs of equal elements with a single copy. This is like the uniq command found on Unix. Compact modifies the contents of the slice s and returns the modified slice, which may have a smaller length. Compact zeroes the elements between the new length and the original length. The result preserves the nilness of s.": IT RETURNS THE SLICE CUT TO 'Lib.compact zs'; ITS CELLS HOLD 'Lib.compact zs', THEN ZERO VALUES up to the old length; all else is as' it was, but for the count of draws. IN THE WORDS OF slices.Sort's CONTRACT ('Holds', 'putRow'): so the everyday 'slices.Sort(xs); xs = slices.Compact(xs)' goes from the one contract to the other. It asks 'zs.length ≤ cap' (every slice's: the reslicing 's[:k]' looks at it). Length 0, nil: '.._empty'. (LAID: no walk: one application.) -/
theorem Try.slices_Compact_int (blk off cap : Nat) (zs : List Int) (w : World) (hH : Holds (Value.int .i64) w blk off zs.toArray) (hsz : zs.length ≤ 9223372036854775807) (hcap : zs.length ≤ cap) :
    Calls Try.prog 45 #[.slice (some ⟨blk, off, none⟩) zs.length cap] w fun e w' => e = .returned (.slice (some ⟨blk, off, none⟩) (Lib.compact zs).length cap) ∧ ∃ q, w' = putRow (Value.int .i64) (Sort.ahead w q) blk off (Lib.compact zs ++ List.replicate (zs.length - (Lib.compact zs).length) 0).toArray := Any.slices_Compact_int Try.laysNm220 blk off cap zs w hH hsz hcap
open Go.RowKit Go.Lib Go.Sort in
/-- The same at a slice of length 0, a nil one too: it comes back as' it is. (LAID: no walk: one application.) -/
theorem Try.slices_Compact_int_empty (a : Option Addr) (cap : Nat) (w : World) :
    Calls Try.prog 45 #[.slice a 0 cap] w fun e w' => e = .returned (.slice a 0 cap) ∧ w' = w := Any.slices_Compact_int_empty Try.laysNm220 a cap w
open Go.RowKit Go.Sort in
/-- .. and plain. (LAID: no walk: one application.) -/
theorem Try.slices_Sort_int_none (p : Option Addr) (cap : Nat) (w : World) :
    Calls Try.prog 44 #[.slice p 0 cap] w fun e w' => e = .returned (.tuple #[]) ∧ w' = w := Any.slices_Sort_int_none Try.lays189 p cap w
def Try.laysSlF6_f61_ren : Go.Shelf.Ren := ⟨fun | 6 => 61 | 15 => 58 | 14 => 77 | 28 => 73 | 29 => 74 | 20 => 84 | 21 => 85 | 22 => 86 | 23 => 87 | 24 => 88 | 25 => 89 | 26 => 90 | 27 => 91 | 46 => 93 | 47 => 79 | 48 => 80 | 49 => 94 | 50 => 95 | 57 => 96 | n => n, fun | 22 => 27 | 24 => 22 | 25 => 66 | 3 => 3 | 39 => 87 | 0 => 0 | 53 => 103 | 55 => 105 | 4 => 4 | 46 => 97 | 45 => 96 | 50 => 77 | 5 => 5 | 9 => 9 | 66 => 108 | 70 => 112 | 76 => 120 | 77 => 121 | n => n, fun | n => n⟩
theorem Try.laysSlF6_f61 : Go.Proofs.SlLaysF.n6 Try.prog Try.laysSlF6_f61_ren := {
  mixed := by kernel_rfl
  f6 := ⟨Try.f61.name, by decide, Try.func61.trans (congrArg some (by kernel_rfl))⟩
  f14 := ⟨Try.f77.name, by decide, Try.func77.trans (congrArg some (by kernel_rfl))⟩
  f15 := Try.func58.trans (congrArg some (by kernel_rfl))
  f20 := ⟨Try.f84.name, by decide, Try.func84.trans (congrArg some (by kernel_rfl))⟩
  f21 := ⟨Try.f85.name, by decide, Try.func85.trans (congrArg some (by kernel_rfl))⟩
  f22 := ⟨Try.f86.name, by decide, Try.func86.trans (congrArg some (by kernel_rfl))⟩
  f23 := ⟨Try.f87.name, by decide, Try.func87.trans (congrArg some (by kernel_rfl))⟩
  f24 := ⟨Try.f88.name, by decide, Try.func88.trans (congrArg some (by kernel_rfl))⟩
  f25 := ⟨Try.f89.name, by decide, Try.func89.trans (congrArg some (by kernel_rfl))⟩
  f26 := ⟨Try.f90.name, by decide, Try.func90.trans (congrArg some (by kernel_rfl))⟩
  f27 := ⟨Try.f91.name, by decide, Try.func91.trans (congrArg some (by kernel_rfl))⟩
  f28 := Try.func73.trans (congrArg some (by kernel_rfl))
  f29 := Try.func74.trans (congrArg some (by kernel_rfl))
  f46 := ⟨Try.f93.name, by decide, Try.func93.trans (congrArg some (by kernel_rfl))⟩
  f47 := Try.func79.trans (congrArg some (by kernel_rfl))
  f48 := Try.func80.trans (congrArg some (by kernel_rfl))
  f49 := ⟨Try.f94.name, by decide, Try.func94.trans (congrArg some (by kernel_rfl))⟩
  f50 := ⟨Try.f95.name, by decide, Try.func95.trans (congrArg some (by kernel_rfl))⟩
  f57 := ⟨Try.f96.name, by decide, Try.func96.trans (congrArg some (by kernel_rfl))⟩
  t0 := Try.underlying0
  a0 := Try.isAgg0
  z0 := Try.sizeOf0
  v0 := Try.zeroValue0
  t3 := Try.underlying3
  a3 := Try.isAgg3
  z3 := Try.sizeOf3
  v3 := Try.zeroValue3
  t4 := Try.underlying4
  a4 := Try.isAgg4
  z4 := Try.sizeOf4
  v4 := Try.zeroValue4
  t5 := Try.underlying5
  a5 := Try.isAgg5
  z5 := Try.sizeOf5
  v5 := Try.zeroValue5
  t9 := Try.underlying9
  a9 := Try.isAgg9
  z9 := Try.sizeOf9
  v9 := Try.zeroValue9
  t22 := Try.underlying27
  a22 := Try.isAgg27
  z22 := Try.sizeOf27
  v22 := Try.zeroValue27
  a24 := Try.isAgg22
  z24 := Try.sizeOf22
  t25 := Try.underlying66
  a25 := Try.isAgg66
  z25 := Try.sizeOf66
  v25 := Try.zeroValue66
  t39 := Try.underlying87
  a39 := Try.isAgg87
  z39 := Try.sizeOf87
  v39 := Try.zeroValue87
  t45 := Try.underlying96
  a45 := Try.isAgg96
  z45 := Try.sizeOf96
  v45 := Try.zeroValue96
  t46 := Try.underlying97
  a46 := Try.isAgg97
  z46 := Try.sizeOf97
  v46 := Try.zeroValue97
  t50 := Try.underlying77
  a50 := Try.isAgg77
  z50 := Try.sizeOf77
  v50 := Try.zeroValue77
  t53 := Try.underlying103
  a53 := Try.isAgg103
  z53 := Try.sizeOf103
  v53 := Try.zeroValue103
  t55 := Try.underlying105
  a55 := Try.isAgg105
  z55 := Try.sizeOf105
  v55 := Try.zeroValue105
  t66 := Try.underlying108
  a66 := Try.isAgg108
  z66 := Try.sizeOf108
  v66 := Try.zeroValue108
  t70 := Try.underlying112
  a70 := Try.isAgg112
  z70 := Try.sizeOf112
  v70 := Try.zeroValue112
  t76 := Try.underlying120
  a76 := Try.isAgg120
  z76 := Try.sizeOf120
  v76 := Try.zeroValue120
  t77 := Try.underlying121
  a77 := Try.isAgg121
  z77 := Try.sizeOf121
  v77 := Try.zeroValue121 }
open Go.RowKit Go.Lib Go.Sort in
/-- **slices.SortFunc, IN THE DOCUMENTATION's OWN TERMS: A PERMUTATION OF WHAT THE ROW HELD, SORTED BY 'cmp(a, b) < 0'.** Which of two equals comes first is left open ("The sort is not guaranteed to be stable"). (LAID AT THE INSTANCE 'slices.SortFunc[[][]int,[]int]': no walk: one application.) -/
theorem Try.slices_SortFunc {α : Type} [Inhabited α] (enc : α → Value) (h1 : OneCell enc) (cf : α → α → Int) (hO : SWO (ltOf cf)) (g : Nat) (cb : Array Value) (blk off cap : Nat) (d : Array α) (w : World) (eg : ∀ args w, (callFunc g args).run Try.prog w = .ok (.enter g args) w) (hcmp : CmpLays1 Try.prog g cb enc cf blk off d.size w) (hH : Holds enc w blk off d) (hblk : blk < w.heap.size) (hsz : d.size < 4611686018427387904) :
    Calls Try.prog 61 #[.slice (some ⟨blk, off, none⟩) d.size cap, .func (.func g) #[] cb] w fun e w' =>
      e = .returned (.tuple #[]) ∧ ∃ d' n os, PermIn 0 d.size d d' ∧ SortedIn (ltOf cf) 0 d.size d' ∧ w' = sortWorld enc w blk off n d' os := Any.slices_SortFunc Try.laysSlF6_f61 enc h1 cf hO g cb blk off cap d w eg hcmp hH hblk hsz
def Try.laysSlF06_f61_ren : Go.Shelf.Ren := ⟨fun | 6 => 61 | 15 => 58 | 14 => 77 | 28 => 73 | 29 => 74 | 20 => 84 | 21 => 85 | 22 => 86 | 23 => 87 | 24 => 88 | 25 => 89 | 26 => 90 | 27 => 91 | 46 => 93 | 47 => 79 | 48 => 80 | 49 => 94 | 50 => 95 | 57 => 96 | n => n, fun | 22 => 27 | 24 => 22 | 25 => 66 | 3 => 3 | 39 => 87 | 0 => 0 | 53 => 103 | 55 => 105 | 4 => 4 | 46 => 97 | 45 => 96 | 50 => 77 | 5 => 5 | 9 => 9 | 66 => 108 | 70 => 112 | 76 => 120 | 77 => 121 | n => n, fun | n => n⟩
theorem Try.laysSlF06_f61 : Go.Proofs.SlLaysF0.n6 Try.prog Try.laysSlF06_f61_ren := {
  mixed := by kernel_rfl
  f6 := ⟨Try.f61.name, by decide, Try.func61.trans (congrArg some (by kernel_rfl))⟩
  f14 := ⟨Try.f77.name, by decide, Try.func77.trans (congrArg some (by kernel_rfl))⟩
  f15 := Try.func58.trans (congrArg some (by kernel_rfl))
  f20 := ⟨Try.f84.name, by decide, Try.func84.trans (congrArg some (by kernel_rfl))⟩
  f21 := ⟨Try.f85.name, by decide, Try.func85.trans (congrArg some (by kernel_rfl))⟩
  f22 := ⟨Try.f86.name, by decide, Try.func86.trans (congrArg some (by kernel_rfl))⟩
  f23 := ⟨Try.f87.name, by decide, Try.func87.trans (congrArg some (by kernel_rfl))⟩
  f24 := ⟨Try.f88.name, by decide, Try.func88.trans (congrArg some (by kernel_rfl))⟩
  f25 := ⟨Try.f89.name, by decide, Try.func89.trans (congrArg some (by kernel_rfl))⟩
  f26 := ⟨Try.f90.name, by decide, Try.func90.trans (congrArg some (by kernel_rfl))⟩
  f27 := ⟨Try.f91.name, by decide, Try.func91.trans (congrArg some (by kernel_rfl))⟩
  f28 := Try.func73.trans (congrArg some (by kernel_rfl))
  f29 := Try.func74.trans (congrArg some (by kernel_rfl))
  f46 := ⟨Try.f93.name, by decide, Try.func93.trans (congrArg some (by kernel_rfl))⟩
  f47 := Try.func79.trans (congrArg some (by kernel_rfl))
  f48 := Try.func80.trans (congrArg some (by kernel_rfl))
  f49 := ⟨Try.f94.name, by decide, Try.func94.trans (congrArg some (by kernel_rfl))⟩
  f50 := ⟨Try.f95.name, by decide, Try.func95.trans (congrArg some (by kernel_rfl))⟩
  f57 := ⟨Try.f96.name, by decide, Try.func96.trans (congrArg some (by kernel_rfl))⟩
  t0 := Try.underlying0
  a0 := Try.isAgg0
  z0 := Try.sizeOf0
  v0 := Try.zeroValue0
  t3 := Try.underlying3
  a3 := Try.isAgg3
  z3 := Try.sizeOf3
  v3 := Try.zeroValue3
  t4 := Try.underlying4
  a4 := Try.isAgg4
  z4 := Try.sizeOf4
  v4 := Try.zeroValue4
  t5 := Try.underlying5
  a5 := Try.isAgg5
  z5 := Try.sizeOf5
  v5 := Try.zeroValue5
  t9 := Try.underlying9
  a9 := Try.isAgg9
  z9 := Try.sizeOf9
  v9 := Try.zeroValue9
  t22 := Try.underlying27
  a22 := Try.isAgg27
  z22 := Try.sizeOf27
  v22 := Try.zeroValue27
  t25 := Try.underlying66
  a25 := Try.isAgg66
  z25 := Try.sizeOf66
  v25 := Try.zeroValue66
  t39 := Try.underlying87
  a39 := Try.isAgg87
  z39 := Try.sizeOf87
  v39 := Try.zeroValue87
  t45 := Try.underlying96
  a45 := Try.isAgg96
  z45 := Try.sizeOf96
  v45 := Try.zeroValue96
  t46 := Try.underlying97
  a46 := Try.isAgg97
  z46 := Try.sizeOf97
  v46 := Try.zeroValue97
  t50 := Try.underlying77
  a50 := Try.isAgg77
  z50 := Try.sizeOf77
  v50 := Try.zeroValue77
  t53 := Try.underlying103
  a53 := Try.isAgg103
  z53 := Try.sizeOf103
  v53 := Try.zeroValue103
  t55 := Try.underlying105
  a55 := Try.isAgg105
  z55 := Try.sizeOf105
  v55 := Try.zeroValue105
  t66 := Try.underlying108
  a66 := Try.isAgg108
  z66 := Try.sizeOf108
  v66 := Try.zeroValue108
  t70 := Try.underlying112
  a70 := Try.isAgg112
  z70 := Try.sizeOf112
  v70 := Try.zeroValue112
  t76 := Try.underlying120
  a76 := Try.isAgg120
  z76 := Try.sizeOf120
  v76 := Try.zeroValue120
  t77 := Try.underlying121
  a77 := Try.isAgg121
  z77 := Try.sizeOf121
  v77 := Try.zeroValue121 }
open Go.RowKit Go.Lib Go.Sort in
/-- **slices.SortFunc AT NO ELEMENT, A nil SLICE TOO: nothing turns.** (LAID AT THE INSTANCE 'slices.SortFunc[[][]int,[]int]': no walk: one application.) -/
theorem Try.slices_SortFunc_none {α : Type} [Inhabited α] (p : Option Addr) (cap : Nat) (fv : Value) (w : World) :
    Calls Try.prog 61 #[.slice p 0 cap, fv] w fun e w' => e = .returned (.tuple #[]) ∧ w' = w := AnyF.slices_SortFunc_none Try.laysSlF06_f61 p cap fv w
end Go.Proofs
end
section
namespace Ab
open Go Go.Proofs
theorem sort_facts : fnFacts Try.prog 44 := ⟨_, Try.func44, rfl, rfl⟩
theorem compact_facts : fnFacts Try.prog 45 := ⟨_, Try.func45, rfl, rfl⟩
theorem sortL_ok : SortOk Try.prog 44 := fun hσ hl => sort_fn sort_facts (fun blk off cap zs w hH hb hs => Try.slices_Sort_int blk off cap zs w hH hb hs) (fun p cap w => Try.slices_Sort_int_none p cap w) hσ hl
theorem compactL_ok : CompactOk Try.prog 45 := fun hσ => compact_fn compact_facts (fun blk off cap zs w hH hs hc => Try.slices_Compact_int blk off cap zs w hH hs hc) (fun a cap w => Try.slices_Compact_int_empty a cap w) hσ
end Ab
end
section
namespace Ab
open Go Go.Proofs
theorem sortF_facts : fnFacts Try.prog 61 := ⟨_, Try.func61, rfl, rfl⟩
theorem sortF_LLi64_ok : SortFOk Try.prog 61 := fun hgn hO hT hg _ _ _ hσ hl => sortF_fn sortF_facts hgn hO hT hg (fun β _ enc h1 cf hO g cb blk off cap d w eg hcmp hH hblk hsz => Try.slices_SortFunc enc h1 cf hO g cb blk off cap d w eg hcmp hH hblk hsz) (fun p cap fv w => Try.slices_SortFunc_none (α := Unit) p cap fv w) hσ hl
end Ab
end
section
namespace Ab
open Go Go.Proofs
set_option maxHeartbeats 4000000
set_option linter.all false
attribute [local irreducible] AWP AOps thn inB Done PureOk FreshOk Sub
theorem strips_IsSet_ok {l : List Int} {nv : Int} {r : Bool} (h : strips_IsSet l nv = some r) : PureOk Try.prog 29 [.c (row 1 intI l), .c (int nv)] (.c (bool r)) := by
 unfold PureOk
 refine FnOk.enter (rs := [.t 4]) Try.func29 rfl Try.ntmps29 Try.results29 rfl ⟨trivial, trivial⟩ (by kernel_rfl) rfl ?_
 unfold strips_IsSet at h
 refine AWP.seq (.region (.assign rfl rfl (.nil (thn_normal (.seq (.seq (.region (.move rfl rfl (S.len rfl rfl (fun hl8 => .move rfl rfl (.nil (thn_normal (.block ?_)))))))))))))
 obtain ⟨oo, ho1, h⟩ := bind_some h
 refine AWP.rngS ho1 (fun t3 _ => ⟨[(0, .c (row 1 intI l)), (1, .c (int nv)), (7, .c (row 1 intI l)), (8, .c (int (l.length : Int))), (9, .c (int t3))], []⟩) (fun o e st => match o with | .inl _ => e = .exit 0 ∧ Sub [] st ⟨[], []⟩ | .inr x => e = .ret ∧ Done [.t 4] (fun t _ => t = .c (bool x)) .ret st) ?_ ?_ ?_ ?_
 ·try dsimp only
  exact Sub.env ⟨rfl, rfl, rfl, rfl, rfl, trivial⟩
 ·intro t3 s hlot3 hltt3 _
  try dsimp only
  refine AWP.seq (.region (.lss rfl rfl rfl (.nil (thn_normal (.seq (.condNP rfl hltt3 (.exit (thn_exit (thn_exit ⟨rfl, ?_⟩)))))))))
  exact Sub.env trivial
 ·intro t3 s o hlot3 hltt3 h
  unfold strips_IsSet_l1 at h
  try dsimp only at h ⊢
  refine AWP.seq (.region (.lss rfl rfl rfl (.nil (thn_normal (.seq (.condP rfl hltt3 (.skip (thn_normal (.seq (.block (.seq ?_)))))))))))
  obtain ⟨a12, ha12, h⟩ := bind_some h
  refine AWP.region (.move rfl rfl (S.idx ha12 rfl rfl rfl rfl (.loadI rfl rfl rfl rfl (.assign rfl rfl (.assign rfl rfl (.nil (thn_normal ?_)))))))
  obtain ⟨t4, hx5, h⟩ := bind_some h
  refine AWP.seqJ (⟨[(0, .c (row 1 intI l)), (1, .c (int nv)), (7, .c (row 1 intI l)), (8, .c (int (l.length : Int))), (9, .c (int t3)), (33, .c (bool t4))], []⟩) ?_ ?_
  ·rcases Bool.eq_false_or_eq_true (decide (a12 < 0)) with hb6 | hb6
   ·replace hx5 := iteDT hb6 hx5
    refine AWP.region (.move rfl rfl (.lss rfl rfl rfl (.move rfl rfl (.guardF rfl rfl rfl hb6 (.guardF rfl rfl rfl hb6 (.guardF rfl rfl rfl hb6 (.pickT rfl hb6 rfl rfl (.move rfl rfl (.guardF rfl rfl rfl rfl (.guardF rfl rfl rfl rfl (.guardF rfl rfl rfl rfl (.guardSkip rfl rfl rfl (.guardSkip rfl rfl rfl (.guardSkip rfl rfl rfl (.guardSkip rfl rfl rfl (.guardSkip rfl rfl rfl (.guardSkip rfl rfl rfl (.guardSkip rfl rfl rfl (.guardF rfl rfl rfl rfl (.pickT rfl rfl rfl rfl (.nil ?_)))))))))))))))))))))
    have ej := Option.some.inj hx5
    subst ej
    refine thn_normal (Sub.env ⟨rfl, rfl, rfl, rfl, rfl, rfl, trivial⟩)
   ·replace hx5 := iteDF hb6 hx5
    rcases Bool.eq_false_or_eq_true (decide (nv ≤ a12)) with hb7 | hb7
    ·replace hx5 := iteDT hb7 hx5
     refine AWP.region (.move rfl rfl (.lss rfl rfl rfl (.move rfl rfl (.guardT rfl rfl rfl hb6 (.move rfl rfl (.guardT rfl rfl rfl hb6 (.move rfl rfl (.guardT rfl rfl rfl hb6 (.geq rfl rfl rfl (.pickF rfl hb6 rfl rfl (.move rfl rfl (.guardF rfl rfl rfl hb7 (.guardF rfl rfl rfl hb7 (.guardF rfl rfl rfl hb7 (.guardSkip rfl rfl rfl (.guardSkip rfl rfl rfl (.guardSkip rfl rfl rfl (.guardSkip rfl rfl rfl (.guardSkip rfl rfl rfl (.guardSkip rfl rfl rfl (.guardSkip rfl rfl rfl (.guardF rfl rfl rfl hb7 (.pickT rfl hb7 rfl rfl (.nil ?_))))))))))))))))))))))))
     have ej := Option.some.inj hx5
     subst ej
     refine thn_normal (Sub.env ⟨rfl, rfl, rfl, rfl, rfl, rfl, trivial⟩)
    ·replace hx5 := iteDF hb7 hx5
     rcases Bool.eq_false_or_eq_true (decide (0 < t3)) with hb8 | hb8
     ·replace hx5 := iteDT hb8 hx5
      obtain ⟨a29, ha29, hx5⟩ := bind_some hx5
      refine AWP.region (.move rfl rfl (.lss rfl rfl rfl (.move rfl rfl (.guardT rfl rfl rfl hb6 (.move rfl rfl (.guardT rfl rfl rfl hb6 (.move rfl rfl (.guardT rfl rfl rfl hb6 (.geq rfl rfl rfl (.pickF rfl hb6 rfl rfl (.move rfl rfl (.guardT rfl rfl rfl hb7 (.move rfl rfl (.guardT rfl rfl rfl hb7 (.gtr rfl rfl rfl (.guardT rfl rfl rfl hb7 (.move rfl rfl (.guardT rfl rfl rfl hb8 (.move rfl rfl (.guardT rfl rfl rfl hb8 (.move rfl rfl (.guardT rfl rfl rfl hb8 (.move rfl rfl (.guardT rfl rfl rfl hb8 (.sub' rfl rfl rfl (by omega) (.guardT rfl rfl rfl hb8 (S.idx ha29 rfl rfl rfl rfl (.guardT rfl rfl rfl hb8 (.loadI rfl rfl rfl rfl (.guardT rfl rfl rfl hb8 (.leq rfl rfl rfl (.guardT rfl rfl rfl hb7 (.pickT rfl hb8 rfl rfl (.pickF rfl hb7 rfl rfl (.nil ?_)))))))))))))))))))))))))))))))))))
      have ej := Option.some.inj hx5
      subst ej
      refine thn_normal (Sub.env ⟨rfl, rfl, rfl, rfl, rfl, rfl, trivial⟩)
     ·replace hx5 := iteDF hb8 hx5
      refine AWP.region (.move rfl rfl (.lss rfl rfl rfl (.move rfl rfl (.guardT rfl rfl rfl hb6 (.move rfl rfl (.guardT rfl rfl rfl hb6 (.move rfl rfl (.guardT rfl rfl rfl hb6 (.geq rfl rfl rfl (.pickF rfl hb6 rfl rfl (.move rfl rfl (.guardT rfl rfl rfl hb7 (.move rfl rfl (.guardT rfl rfl rfl hb7 (.gtr rfl rfl rfl (.guardT rfl rfl rfl hb7 (.move rfl rfl (.guardF rfl rfl rfl hb8 (.guardF rfl rfl rfl hb8 (.guardF rfl rfl rfl hb8 (.guardF rfl rfl rfl hb8 (.guardF rfl rfl rfl hb8 (.guardF rfl rfl rfl hb8 (.guardF rfl rfl rfl hb8 (.guardT rfl rfl rfl hb7 (.pickF rfl hb8 rfl rfl (.pickF rfl hb7 rfl rfl (.nil ?_))))))))))))))))))))))))))))
      have ej := Option.some.inj hx5
      subst ej
      refine thn_normal (Sub.env ⟨rfl, rfl, rfl, rfl, rfl, rfl, trivial⟩)
  ·refine AWP.iteB rfl h (fun hc9 h => ?_) (fun hc9 h => ?_)
   ·refine AWP.seq (.region (.assign rfl rfl (.nil (thn_normal (.ret (inB_ret (thn_ret ?_)))))))
    have ej := Option.some.inj h
    subst ej
    refine thn_ret ⟨_, rfl, rfl, ?_⟩
    exact Done.ret rfl rfl
   ·refine AWP.skip (inB_normal (thn_normal (.region (.add rfl rfl rfl (by omega) (.move rfl rfl (.nil ?_))))))
    have ej := Option.some.inj h
    subst ej
    refine thn_normal ⟨_, rfl, ?_⟩
    exact Sub.env ⟨rfl, rfl, rfl, rfl, rfl, trivial⟩
 ·intro e s hq
  rcases oo with u | x
  ·try dsimp only at h hq
   obtain ⟨rfl, hs⟩ := hq
   refine ⟨_, hs, ?_⟩
   refine inB_exit (thn_normal (.seq (.region (.assign rfl rfl (.nil (thn_normal (.ret ?_)))))))
   have ej := Option.some.inj h
   subst ej
   exact Done.ret rfl rfl
  ·try dsimp only at h hq
   obtain ⟨rfl, hs⟩ := hq
   refine ⟨_, Sub.refl _ _, ?_⟩
   refine inB_ret (thn_ret ?_)
   have ej := Option.some.inj h
   subst ej
   exact hs
theorem cmp_isNaN_int_ok {xv : Int} {r : Bool} (h : cmp_isNaN_int xv = some r) : PureOk Try.prog 60 [.c (int xv)] (.c (bool r)) := by
 unfold PureOk
 refine FnOk.enter (rs := [.t 2]) Try.func60 rfl Try.ntmps60 Try.results60 rfl ⟨trivial, trivial⟩ (by kernel_rfl) rfl ?_
 unfold cmp_isNaN_int at h
 refine AWP.seq (.region (.assign rfl rfl (.nil (thn_normal (.seq (.region (.move rfl rfl (.move rfl rfl (.neq rfl rfl rfl (.assign rfl rfl (.nil (thn_normal (.ret ?_)))))))))))))
 have ej := Option.some.inj h
 subst ej
 exact Done.ret rfl rfl
theorem cmp_Less_int_ok {xv : Int} {yv : Int} {r : Bool} (h : cmp_Less_int xv yv = some r) : PureOk Try.prog 55 [.c (int xv), .c (int yv)] (.c (bool r)) := by
 unfold PureOk
 refine FnOk.enter (rs := [.t 4]) Try.func55 rfl Try.ntmps55 Try.results55 rfl ⟨trivial, trivial⟩ (by kernel_rfl) rfl ?_
 unfold cmp_Less_int at h
 refine AWP.seq (.region (.assign rfl rfl (.nil (thn_normal ?_))))
 obtain ⟨t3, hx4, h⟩ := bind_some h
 refine AWP.seqJ (⟨[(4, .c (bool t3))], []⟩) ?_ ?_
 ·obtain ⟨a6, ha6, hx4⟩ := bind_some hx4
  rcases Bool.eq_false_or_eq_true (a6) with hb5 | hb5
  ·replace hx4 := iteBT hb5 hx4
   obtain ⟨a9, ha9, hx4⟩ := bind_some hx4
   rcases Bool.eq_false_or_eq_true (!a9) with hb6 | hb6
   ·replace hx4 := iteBT hb6 hx4
    refine AWP.region (.move rfl rfl (.callR rfl rfl rfl rfl (cmp_isNaN_int_ok ha6) rfl (.move rfl rfl (.guardT rfl rfl rfl hb5 (.move rfl rfl (.guardT rfl rfl rfl hb5 (.callR rfl rfl rfl rfl (cmp_isNaN_int_ok ha9) rfl (.guardT rfl rfl rfl hb5 (.not rfl rfl (.pickT rfl hb5 rfl rfl (.move rfl rfl (.guardF rfl rfl rfl hb6 (.guardF rfl rfl rfl hb6 (.guardF rfl rfl rfl hb6 (.pickT rfl hb6 rfl rfl (.assign rfl rfl (.nil ?_)))))))))))))))))
    have ej := Option.some.inj hx4
    subst ej
    refine thn_normal (Sub.env ⟨rfl, trivial⟩)
   ·replace hx4 := iteBF hb6 hx4
    refine AWP.region (.move rfl rfl (.callR rfl rfl rfl rfl (cmp_isNaN_int_ok ha6) rfl (.move rfl rfl (.guardT rfl rfl rfl hb5 (.move rfl rfl (.guardT rfl rfl rfl hb5 (.callR rfl rfl rfl rfl (cmp_isNaN_int_ok ha9) rfl (.guardT rfl rfl rfl hb5 (.not rfl rfl (.pickT rfl hb5 rfl rfl (.move rfl rfl (.guardT rfl rfl rfl hb6 (.move rfl rfl (.guardT rfl rfl rfl hb6 (.move rfl rfl (.guardT rfl rfl rfl hb6 (.lss rfl rfl rfl (.pickF rfl hb6 rfl rfl (.assign rfl rfl (.nil ?_))))))))))))))))))))
    have ej := Option.some.inj hx4
    subst ej
    refine thn_normal (Sub.env ⟨rfl, trivial⟩)
  ·replace hx4 := iteBF hb5 hx4
   refine AWP.region (.move rfl rfl (.callR rfl rfl rfl rfl (cmp_isNaN_int_ok ha6) rfl (.move rfl rfl (.guardF rfl rfl rfl hb5 (.guardF rfl rfl rfl hb5 (.guardF rfl rfl rfl hb5 (.pickF rfl hb5 rfl rfl (.move rfl rfl (.guardT rfl rfl rfl rfl (.move rfl rfl (.guardT rfl rfl rfl rfl (.move rfl rfl (.guardT rfl rfl rfl rfl (.lss rfl rfl rfl (.pickF rfl rfl rfl rfl (.assign rfl rfl (.nil ?_)))))))))))))))))
   have ej := Option.some.inj hx4
   subst ej
   refine thn_normal (Sub.env ⟨rfl, trivial⟩)
 ·refine AWP.ret ?_
  have ej := Option.some.inj h
  subst ej
  exact Done.ret rfl rfl
theorem slices_isNaN_int_ok {xv : Int} {r : Bool} (h : slices_isNaN_int xv = some r) : PureOk Try.prog 56 [.c (int xv)] (.c (bool r)) := by
 unfold PureOk
 refine FnOk.enter (rs := [.t 2]) Try.func56 rfl Try.ntmps56 Try.results56 rfl ⟨trivial, trivial⟩ (by kernel_rfl) rfl ?_
 unfold slices_isNaN_int at h
 refine AWP.seq (.region (.assign rfl rfl (.nil (thn_normal (.seq (.region (.move rfl rfl (.move rfl rfl (.neq rfl rfl rfl (.assign rfl rfl (.nil (thn_normal (.ret ?_)))))))))))))
 have ej := Option.some.inj h
 subst ej
 exact Done.ret rfl rfl
theorem slices_BinarySearch_int_int_ok {xv : List Int} {target : Int} {r : Int × Bool} (h : slices_BinarySearch_int_int xv target = some r) : PureOk Try.prog 43 [.c (row 1 intI xv), .c (int target)] (.tup [.c (int r.1), .c (bool r.2)]) := by
 unfold PureOk
 refine FnOk.enter (rs := [.t 4, .t 5]) Try.func43 rfl Try.ntmps43 Try.results43 rfl ⟨trivial, trivial, trivial⟩ (by kernel_rfl) rfl ?_
 unfold slices_BinarySearch_int_int at h
 refine AWP.seq (.region (.assign rfl rfl (.assign rfl rfl (.nil (thn_normal (.seq (.region (.move rfl rfl (S.len rfl rfl (fun hl11 => .assign rfl rfl (.nil (thn_normal (.seq (.region (.move rfl rfl (.assign rfl rfl (.assign rfl rfl (.nil (thn_normal (.seq (.block ?_)))))))))))))))))))))
 obtain ⟨iv5, ho1, h⟩ := bind_some h
 refine AWP.loopS ho1 (fun (iv3, j4) => ⟨[(0, .c (row 1 intI xv)), (1, .c (int target)), (6, .c (int (xv.length : Int))), (7, .c (int iv3)), (8, .c (int j4))], []⟩) (fun iv5 e st => e = .exit 0 ∧ Sub [] st ⟨[(0, .c (row 1 intI xv)), (1, .c (int target)), (6, .c (int (xv.length : Int))), (7, .c (int iv5))], []⟩) ?_ ?_ ?_
 ·try dsimp only
  exact Sub.env ⟨rfl, rfl, rfl, rfl, rfl, trivial⟩
 ·intro s o h
  obtain ⟨iv3, j4⟩ := s
  unfold slices_BinarySearch_int_int_l1 at h
  try dsimp only at h ⊢
  refine AWP.seq (.seq (.region (.move rfl rfl (.move rfl rfl (.lss rfl rfl rfl (.nil (thn_normal (.ite rfl h (fun hc6 h => ?_) (fun hc6 h => ?_)))))))))
  ·refine AWP.skip (thn_normal (.block (.seq (.region (.move rfl rfl (.move rfl rfl (S.add rfl rfl rfl (.convInt rfl rfl (.shr rfl rfl rfl (by decide) rfl (.convInt rfl rfl (.assign rfl rfl (.nil (thn_normal (.seq ?_))))))))))))))
   obtain ⟨a24, ha24, h⟩ := bind_some h
   obtain ⟨a27, ha27, h⟩ := bind_some h
   refine AWP.region (.move rfl rfl (.move rfl rfl (S.idx ha24 rfl rfl rfl rfl (.loadI rfl rfl rfl rfl (.move rfl rfl (.callR rfl rfl rfl rfl (cmp_Less_int_ok ha27) rfl (.nil (thn_normal (.iteB rfl h (fun hc7 h => ?_) (fun hc7 h => ?_))))))))))
   ·refine AWP.region (.move rfl rfl (S.add rfl rfl rfl (.assign rfl rfl (.nil (inB_normal ?_)))))
    have ej := Option.some.inj h
    subst ej
    refine thn_normal ⟨_, rfl, ?_⟩
    exact Sub.env ⟨rfl, rfl, rfl, rfl, rfl, trivial⟩
   ·refine AWP.region (.move rfl rfl (.assign rfl rfl (.nil (inB_normal ?_))))
    have ej := Option.some.inj h
    subst ej
    refine thn_normal ⟨_, rfl, ?_⟩
    exact Sub.env ⟨rfl, rfl, rfl, rfl, rfl, trivial⟩
  ·refine AWP.exit (thn_exit ?_)
   have ej := Option.some.inj h
   subst ej
   refine thn_exit ⟨_, rfl, rfl, ?_⟩
   exact Sub.env ⟨rfl, rfl, rfl, rfl, trivial⟩
 ·intro e s hq
  obtain ⟨rfl, hs⟩ := hq
  refine ⟨_, hs, ?_⟩
  refine inB_exit (thn_normal ?_)
  obtain ⟨t8, hx9, h⟩ := bind_some h
  refine AWP.seqJ (⟨[(4, .c (int iv5)), (5, .c (bool t8))], []⟩) ?_ ?_
  ·rcases Bool.eq_false_or_eq_true (decide (iv5 < (xv.length : Int))) with hb10 | hb10
   ·replace hx9 := iteDT hb10 hx9
    obtain ⟨a38, ha38, hx9⟩ := bind_some hx9
    rcases Bool.eq_false_or_eq_true (decide (a38 = target)) with hb11 | hb11
    ·replace hx9 := iteDT hb11 hx9
     refine AWP.region (.move rfl rfl (.move rfl rfl (.move rfl rfl (.lss rfl rfl rfl (.move rfl rfl (.guardT rfl rfl rfl hb10 (.move rfl rfl (.guardT rfl rfl rfl hb10 (.move rfl rfl (.guardT rfl rfl rfl hb10 (S.idx ha38 rfl rfl rfl rfl (.guardT rfl rfl rfl hb10 (.loadI rfl rfl rfl rfl (.guardT rfl rfl rfl hb10 (.move rfl rfl (.guardT rfl rfl rfl hb10 (.eql rfl rfl rfl (.guardT rfl rfl rfl hb10 (.move rfl rfl (.guardF rfl rfl rfl hb11 (.guardF rfl rfl rfl hb11 (.guardF rfl rfl rfl hb11 (.guardF rfl rfl rfl hb11 (.guardF rfl rfl rfl hb11 (.guardF rfl rfl rfl hb11 (.guardSkip rfl rfl rfl (.guardSkip rfl rfl rfl (.guardF rfl rfl rfl hb11 (.guardT rfl rfl rfl hb10 (.pickT rfl hb11 rfl rfl (.pickT rfl hb10 rfl rfl (.assign rfl rfl (.assign rfl rfl (.nil ?_))))))))))))))))))))))))))))))))))
     have ej := Option.some.inj hx9
     subst ej
     refine thn_normal (Sub.env ⟨rfl, rfl, trivial⟩)
    ·replace hx9 := iteDF hb11 hx9
     obtain ⟨a45, ha45, hx9⟩ := bind_some hx9
     obtain ⟨a47, ha47, hx9⟩ := bind_some hx9
     rcases Bool.eq_false_or_eq_true (a47) with hb12 | hb12
     ·replace hx9 := iteBT hb12 hx9
      obtain ⟨a50, ha50, hx9⟩ := bind_some hx9
      refine AWP.region (.move rfl rfl (.move rfl rfl (.move rfl rfl (.lss rfl rfl rfl (.move rfl rfl (.guardT rfl rfl rfl hb10 (.move rfl rfl (.guardT rfl rfl rfl hb10 (.move rfl rfl (.guardT rfl rfl rfl hb10 (S.idx ha38 rfl rfl rfl rfl (.guardT rfl rfl rfl hb10 (.loadI rfl rfl rfl rfl (.guardT rfl rfl rfl hb10 (.move rfl rfl (.guardT rfl rfl rfl hb10 (.eql rfl rfl rfl (.guardT rfl rfl rfl hb10 (.move rfl rfl (.guardT rfl rfl rfl hb11 (.move rfl rfl (.guardT rfl rfl rfl hb11 (.move rfl rfl (.guardT rfl rfl rfl hb11 (S.idx ha45 rfl rfl rfl rfl (.guardT rfl rfl rfl hb11 (.loadI rfl rfl rfl rfl (.guardT rfl rfl rfl hb11 (.callR rfl rfl rfl rfl (slices_isNaN_int_ok ha47) rfl (.guardT rfl rfl rfl hb11 (.move rfl rfl (.guardT rfl rfl rfl hb12 (.move rfl rfl (.guardT rfl rfl rfl hb12 (.callR rfl rfl rfl rfl (slices_isNaN_int_ok ha50) rfl (.guardT rfl rfl rfl hb11 (.pickT rfl hb12 rfl rfl (.guardT rfl rfl rfl hb10 (.pickF rfl hb11 rfl rfl (.pickT rfl hb10 rfl rfl (.assign rfl rfl (.assign rfl rfl (.nil ?_)))))))))))))))))))))))))))))))))))))))))))
      have ej := Option.some.inj hx9
      subst ej
      refine thn_normal (Sub.env ⟨rfl, rfl, trivial⟩)
     ·replace hx9 := iteBF hb12 hx9
      refine AWP.region (.move rfl rfl (.move rfl rfl (.move rfl rfl (.lss rfl rfl rfl (.move rfl rfl (.guardT rfl rfl rfl hb10 (.move rfl rfl (.guardT rfl rfl rfl hb10 (.move rfl rfl (.guardT rfl rfl rfl hb10 (S.idx ha38 rfl rfl rfl rfl (.guardT rfl rfl rfl hb10 (.loadI rfl rfl rfl rfl (.guardT rfl rfl rfl hb10 (.move rfl rfl (.guardT rfl rfl rfl hb10 (.eql rfl rfl rfl (.guardT rfl rfl rfl hb10 (.move rfl rfl (.guardT rfl rfl rfl hb11 (.move rfl rfl (.guardT rfl rfl rfl hb11 (.move rfl rfl (.guardT rfl rfl rfl hb11 (S.idx ha45 rfl rfl rfl rfl (.guardT rfl rfl rfl hb11 (.loadI rfl rfl rfl rfl (.guardT rfl rfl rfl hb11 (.callR rfl rfl rfl rfl (slices_isNaN_int_ok ha47) rfl (.guardT rfl rfl rfl hb11 (.move rfl rfl (.guardF rfl rfl rfl hb12 (.guardF rfl rfl rfl hb12 (.guardT rfl rfl rfl hb11 (.pickF rfl hb12 rfl rfl (.guardT rfl rfl rfl hb10 (.pickF rfl hb11 rfl rfl (.pickT rfl hb10 rfl rfl (.assign rfl rfl (.assign rfl rfl (.nil ?_)))))))))))))))))))))))))))))))))))))))))
      have ej := Option.some.inj hx9
      subst ej
      refine thn_normal (Sub.env ⟨rfl, rfl, trivial⟩)
   ·replace hx9 := iteDF hb10 hx9
    refine AWP.region (.move rfl rfl (.move rfl rfl (.move rfl rfl (.lss rfl rfl rfl (.move rfl rfl (.guardF rfl rfl rfl hb10 (.guardF rfl rfl rfl hb10 (.guardF rfl rfl rfl hb10 (.guardF rfl rfl rfl hb10 (.guardF rfl rfl rfl hb10 (.guardF rfl rfl rfl hb10 (.guardF rfl rfl rfl hb10 (.guardSkip rfl rfl rfl (.guardSkip rfl rfl rfl (.guardSkip rfl rfl rfl (.guardSkip rfl rfl rfl (.guardSkip rfl rfl rfl (.guardSkip rfl rfl rfl (.guardSkip rfl rfl rfl (.guardSkip rfl rfl rfl (.guardSkip rfl rfl rfl (.guardF rfl rfl rfl hb10 (.pickF rfl hb10 rfl rfl (.assign rfl rfl (.assign rfl rfl (.nil ?_))))))))))))))))))))))))))
    have ej := Option.some.inj hx9
    subst ej
    refine thn_normal (Sub.env ⟨rfl, rfl, trivial⟩)
  ·refine AWP.ret ?_
   have ej := Option.some.inj h
   subst ej
   exact Done.ret rfl rfl
theorem strips_Meets_1_ok {xv : Int} {c2 : List Int} {r : Bool} (h : strips_Meets_1 xv c2 = some r) : PureOk Try.prog 76 [.c (int xv), .c (.imm (.ipt [.sl 1 (List.map intI c2)]))] (.c (bool r)) := by
 unfold PureOk
 refine FnOk.enter (rs := [.t 3]) Try.func76 rfl Try.ntmps76 Try.results76 rfl ⟨trivial, trivial⟩ (by kernel_rfl) rfl ?_
 unfold strips_Meets_1 at h
 refine AWP.seq (.region (.assign rfl rfl (.nil (thn_normal (.seq ?_)))))
 obtain ⟨a9, ha9, h⟩ := bind_some h
 refine AWP.region (.loadI rfl rfl rfl rfl (.move rfl rfl (.callR rfl rfl rfl rfl (slices_BinarySearch_int_int_ok ha9) rfl (.move rfl rfl (.extract rfl rfl rfl (.extract rfl rfl rfl (.assign rfl rfl (.assign rfl rfl (.nil (thn_normal (.seq (.region (.move rfl rfl (.assign rfl rfl (.nil (thn_normal (.ret ?_)))))))))))))))))
 have ej := Option.some.inj h
 subst ej
 exact Done.ret rfl rfl
theorem slices_IndexFunc_int_int_ok {sv : List Int} {fv : Int → Option Bool} {r : Int} {fvfv : FuncId} {cvfv : List C} (hcvfv : C.okL 0 cvfv = true) (hfv : ∀ {y1 : Int} {z : Bool}, fv y1 = some z → PureOk Try.prog fvfv ([.c (int y1)] ++ cvfv.map T.c) (.c (bool z))) (h : slices_IndexFunc_int_int sv fv = some r) : PureOk Try.prog 83 [.c (row 1 intI sv), .c (.fn fvfv cvfv)] (.c (int r)) := by
 unfold PureOk
 refine FnOk.enter (rs := [.t 4]) Try.func83 rfl Try.ntmps83 Try.results83 rfl ⟨trivial, trivial⟩ (by kernel_rfl) rfl ?_
 unfold slices_IndexFunc_int_int at h
 refine AWP.seq (.region (.assign rfl rfl (.nil (thn_normal (.seq (.seq (.region (.move rfl rfl (S.len rfl rfl (fun hl7 => .move rfl rfl (.nil (thn_normal (.block ?_)))))))))))))
 obtain ⟨oo, ho1, h⟩ := bind_some h
 refine AWP.rngS ho1 (fun t3 _ => ⟨[(0, .c (row 1 intI sv)), (1, .c (.fn fvfv cvfv)), (7, .c (int (sv.length : Int))), (8, .c (int t3))], []⟩) (fun o e st => match o with | .inl _ => e = .exit 0 ∧ Sub [] st ⟨[], []⟩ | .inr x => e = .ret ∧ Done [.t 4] (fun t _ => t = .c (int x)) .ret st) ?_ ?_ ?_ ?_
 ·try dsimp only
  exact Sub.env ⟨rfl, rfl, rfl, rfl, trivial⟩
 ·intro t3 s hlot3 hltt3 _
  try dsimp only
  refine AWP.seq (.region (.lss rfl rfl rfl (.nil (thn_normal (.seq (.condNP rfl hltt3 (.exit (thn_exit (thn_exit ⟨rfl, ?_⟩)))))))))
  exact Sub.env trivial
 ·intro t3 s o hlot3 hltt3 h
  unfold slices_IndexFunc_int_int_l1 at h
  try dsimp only at h ⊢
  refine AWP.seq (.region (.lss rfl rfl rfl (.nil (thn_normal (.seq (.condP rfl hltt3 (.skip (thn_normal (.seq (.block (.seq (.region (.move rfl rfl (.assign rfl rfl (.nil (thn_normal (.seq ?_)))))))))))))))))
  obtain ⟨a14, ha14, h⟩ := bind_some h
  obtain ⟨a16, ha16, h⟩ := bind_some h
  refine AWP.region (.move rfl rfl (.move rfl rfl (.move rfl rfl (S.idx ha14 rfl rfl rfl rfl (.loadI rfl rfl rfl rfl (.callR rfl rfl (okL_app rfl hcvfv) rfl (hfv ha16) rfl (.nil (thn_normal (.iteB rfl h (fun hc4 h => ?_) (fun hc4 h => ?_))))))))))
  ·refine AWP.seq (.region (.move rfl rfl (.assign rfl rfl (.nil (thn_normal (.ret (inB_ret (thn_ret ?_))))))))
   have ej := Option.some.inj h
   subst ej
   refine thn_ret ⟨_, rfl, rfl, ?_⟩
   exact Done.ret rfl rfl
  ·refine AWP.skip (inB_normal (thn_normal (.region (.add rfl rfl rfl (by omega) (.move rfl rfl (.nil ?_))))))
   have ej := Option.some.inj h
   subst ej
   refine thn_normal ⟨_, rfl, ?_⟩
   exact Sub.env ⟨rfl, rfl, rfl, rfl, trivial⟩
 ·intro e s hq
  rcases oo with u | x
  ·try dsimp only at h hq
   obtain ⟨rfl, hs⟩ := hq
   refine ⟨_, hs, ?_⟩
   refine inB_exit (thn_normal (.seq (.region (.assign rfl rfl (.nil (thn_normal (.ret ?_)))))))
   have ej := Option.some.inj h
   subst ej
   exact Done.ret rfl rfl
  ·try dsimp only at h hq
   obtain ⟨rfl, hs⟩ := hq
   refine ⟨_, Sub.refl _ _, ?_⟩
   refine inB_ret (thn_ret ?_)
   have ej := Option.some.inj h
   subst ej
   exact hs
theorem slices_ContainsFunc_int_int_ok {sv : List Int} {fv : Int → Option Bool} {r : Bool} {fvfv : FuncId} {cvfv : List C} (hcvfv : C.okL 0 cvfv = true) (hfv : ∀ {y1 : Int} {z : Bool}, fv y1 = some z → PureOk Try.prog fvfv ([.c (int y1)] ++ cvfv.map T.c) (.c (bool z))) (h : slices_ContainsFunc_int_int sv fv = some r) : PureOk Try.prog 75 [.c (row 1 intI sv), .c (.fn fvfv cvfv)] (.c (bool r)) := by
 unfold PureOk
 refine FnOk.enter (rs := [.t 4]) Try.func75 rfl Try.ntmps75 Try.results75 rfl ⟨trivial, trivial⟩ (by kernel_rfl) rfl ?_
 unfold slices_ContainsFunc_int_int at h
 refine AWP.seq (.region (.assign rfl rfl (.nil (thn_normal (.seq ?_)))))
 obtain ⟨a7, ha7, h⟩ := bind_some h
 refine AWP.region (.move rfl rfl (.move rfl rfl (.callR rfl rfl (by simp [T.okL, T.ok, C.ok, C.okL, hcvfv]) rfl (slices_IndexFunc_int_int_ok hcvfv hfv ha7) rfl (.geq rfl rfl rfl (.assign rfl rfl (.nil (thn_normal (.ret ?_))))))))
 have ej := Option.some.inj h
 subst ej
 exact Done.ret rfl rfl
theorem strips_Meets_ok {av : List Int} {bv : List Int} {r : Bool} (h : strips_Meets av bv = some r) : PureOk Try.prog 59 [.c (row 1 intI av), .c (row 1 intI bv)] (.c (bool r)) := by
 unfold PureOk
 refine FnOk.enter (rs := [.t 4]) Try.func59 rfl Try.ntmps59 Try.results59 rfl ⟨trivial, trivial⟩ (by kernel_rfl) rfl ?_
 unfold strips_Meets at h
 refine AWP.seq (.region (W.box rfl rfl rfl rfl rfl rfl (.assign rfl rfl (.nil (thn_normal (.seq ?_))))))
 obtain ⟨a7, ha7, h⟩ := bind_some h
 refine AWP.region (.move rfl rfl (.makeFunc rfl rfl (.callL rfl rfl (.cons (.c .imm) (.cons (.c (.fn (.cons (.ptr (es := [.sl 1 (List.map intI bv)]) rfl rfl (.cons .imm .nil)) .nil))) .nil)) rfl (slices_ContainsFunc_int_int_ok rfl (fun hy => strips_Meets_1_ok hy) ha7) rfl ?_)))
 refine AOps.assign rfl rfl (.nil (thn_normal (.ret ?_)))
 have ej := Option.some.inj h
 subst ej
 exact Done.ret rfl rfl
theorem open_operatorCode_ok {ov : TOpenOperator} {facts : Int} {r : Int} (h : open_operatorCode ov facts = some r) : PureOk Try.prog 48 [.agg [row 1 intI ov.pre, row 3 eTOutcome ov.outcomes, int ov.cost], .c (int facts)] (.c (int r)) := by
 unfold PureOk
 refine FnOk.enter (rs := [.t 4]) Try.func48 rfl Try.ntmps48 Try.results48 rfl ⟨trivial, trivial⟩ (by kernel_rfl) rfl ?_
 unfold open_operatorCode at h
 refine AWP.seq (.region (W.box rfl rfl rfl rfl rfl rfl (.assign rfl rfl (.nil (thn_normal (.seq (.block (.seq ?_))))))))
 obtain ⟨a11, ha11, h⟩ := bind_some h
 refine AWP.region (W.fieldAddr rfl rfl rfl rfl (.load rfl rfl rfl rfl rfl rfl (.move rfl rfl (.callR rfl rfl rfl rfl (strips_IsSet_ok ha11) rfl (.not rfl rfl (.assign rfl rfl (.nil (thn_normal (.iteB rfl h (fun hc3 h => ?_) (fun hc3 h => ?_))))))))))
 ·refine AWP.seq (.region (.assign rfl rfl (.nil (thn_normal (.ret (inB_ret (thn_ret ?_)))))))
  have ej := Option.some.inj h
  subst ej
  exact Done.ret rfl rfl
 ·refine AWP.seqJ (⟨[(1, .c (int facts)), (2, .c (.ptr 0 0 0)), (13, .c (bool ((decide (ov.cost < 0)) || (decide (100 < ov.cost)))))], [.one (.cells 3 [[row 1 intI ov.pre, row 3 eTOutcome ov.outcomes, int ov.cost]])]⟩) ?_ ?_
  ·rcases Bool.eq_false_or_eq_true (decide (ov.cost < 0)) with hb1 | hb1
   ·refine AWP.region (W.fieldAddr rfl rfl rfl rfl (.load rfl rfl rfl rfl rfl rfl (.lss rfl rfl rfl (.move rfl rfl (.guardF rfl rfl rfl hb1 (.guardF rfl rfl rfl hb1 (.guardF rfl rfl rfl hb1 (.pickT rfl hb1 rfl rfl (.assign rfl rfl (.nil (thn_normal ?_)))))))))))
    simp only [and_t hb1, or_t hb1, Bool.false_or, Bool.true_or, Bool.false_and, Bool.true_and]
    exact Sub.env ⟨rfl, rfl, rfl, trivial⟩
   ·refine AWP.region (W.fieldAddr rfl rfl rfl rfl (.load rfl rfl rfl rfl rfl rfl (.lss rfl rfl rfl (.move rfl rfl (.guardT rfl rfl rfl hb1 (W.fieldAddr rfl rfl rfl rfl (.guardT rfl rfl rfl hb1 (.load rfl rfl rfl rfl rfl rfl (.guardT rfl rfl rfl hb1 (.gtr rfl rfl rfl (.pickF rfl hb1 rfl rfl (.assign rfl rfl (.nil (thn_normal ?_))))))))))))))
    simp only [and_f hb1, or_f hb1, Bool.false_or, Bool.true_or, Bool.false_and, Bool.true_and]
    exact Sub.env ⟨rfl, rfl, rfl, trivial⟩
  ·refine AWP.iteB rfl h (fun hc4 h => ?_) (fun hc4 h => ?_)
   ·refine AWP.seq (.region (.assign rfl rfl (.nil (thn_normal (.ret (inB_ret (thn_ret ?_)))))))
    have ej := Option.some.inj h
    subst ej
    exact Done.ret rfl rfl
   ·refine AWP.seqJ (⟨[(1, .c (int facts)), (2, .c (.ptr 0 0 0)), (22, .c (bool ((decide ((ov.outcomes.length : Int) = 0)) || (decide (4 < (ov.outcomes.length : Int))))))], [.one (.cells 3 [[row 1 intI ov.pre, row 3 eTOutcome ov.outcomes, int ov.cost]])]⟩) ?_ ?_
    ·rcases Bool.eq_false_or_eq_true (decide ((ov.outcomes.length : Int) = 0)) with hb1 | hb1
     ·refine AWP.region (W.fieldAddr rfl rfl rfl rfl (.load rfl rfl rfl rfl rfl rfl (S.len rfl rfl (fun hl25 => .eql rfl rfl rfl (.move rfl rfl (.guardF rfl rfl rfl hb1 (.guardF rfl rfl rfl hb1 (.guardF rfl rfl rfl hb1 (.guardF rfl rfl rfl hb1 (.pickT rfl hb1 rfl rfl (.assign rfl rfl (.nil (thn_normal ?_)))))))))))))
      simp only [and_t hb1, or_t hb1, Bool.false_or, Bool.true_or, Bool.false_and, Bool.true_and]
      exact Sub.env ⟨rfl, rfl, rfl, trivial⟩
     ·refine AWP.region (W.fieldAddr rfl rfl rfl rfl (.load rfl rfl rfl rfl rfl rfl (S.len rfl rfl (fun hl25 => .eql rfl rfl rfl (.move rfl rfl (.guardT rfl rfl rfl hb1 (W.fieldAddr rfl rfl rfl rfl (.guardT rfl rfl rfl hb1 (.load rfl rfl rfl rfl rfl rfl ?_)))))))))
      refine AOps.guardT rfl rfl rfl hb1 ?_; refine S.len rfl rfl (fun hl30 => ?_)
      refine AOps.guardT rfl rfl rfl hb1 (.gtr rfl rfl rfl (.pickF rfl hb1 rfl rfl (.assign rfl rfl (.nil (thn_normal ?_)))))
      simp only [and_f hb1, or_f hb1, Bool.false_or, Bool.true_or, Bool.false_and, Bool.true_and]
      exact Sub.env ⟨rfl, rfl, rfl, trivial⟩
    ·refine AWP.iteB rfl h (fun hc5 h => ?_) (fun hc5 h => ?_)
     ·refine AWP.seq (.region (.assign rfl rfl (.nil (thn_normal (.ret (inB_ret (thn_ret ?_)))))))
      have ej := Option.some.inj h
      subst ej
      exact Done.ret rfl rfl
     ·refine AWP.skip (inB_normal (thn_normal (.seq (.seq (.region (W.fieldAddr rfl rfl rfl rfl (.load rfl rfl rfl rfl rfl rfl (S.len rfl rfl (fun hl35 => .move rfl rfl (.nil (thn_normal (.block ?_))))))))))))
      obtain ⟨oo, ho1, h⟩ := bind_some h
      refine AWP.rngS ho1 (fun t6 _ => ⟨[(1, .c (int facts)), (34, .c (row 3 eTOutcome ov.outcomes)), (35, .c (int (ov.outcomes.length : Int))), (36, .c (int t6))], []⟩) (fun o e st => match o with | .inl _ => e = .exit 1 ∧ Sub [] st ⟨[], []⟩ | .inr x => e = .ret ∧ Done [.t 4] (fun t _ => t = .c (int x)) .ret st) ?_ ?_ ?_ ?_
      ·try dsimp only
       exact Sub.cut ⟨rfl, rfl, rfl, rfl, trivial⟩ rfl trivial rfl
      ·intro t6 s hlot6 hltt6 _
       try dsimp only
       refine AWP.seq (.region (.lss rfl rfl rfl (.nil (thn_normal (.seq (.condNP rfl hltt6 (.exit (thn_exit (thn_exit ⟨rfl, ?_⟩)))))))))
       exact Sub.env trivial
      ·intro t6 s o hlot6 hltt6 h
       unfold open_operatorCode_l1 at h
       try dsimp only at h ⊢
       refine AWP.seq (.region (.lss rfl rfl rfl (.nil (thn_normal (.seq (.condP rfl hltt6 (.skip (thn_normal (.seq (.block (.seq ?_)))))))))))
       obtain ⟨a38, ha38, h⟩ := bind_some h
       refine AWP.region (S.idx ha38 rfl rfl rfl rfl (W.loadIAgg rfl rfl rfl rfl rfl (W.alloc rfl rfl rfl rfl (W.storeAgg rfl rfl rfl rfl rfl rfl rfl (.nil (thn_normal (.block ?_)))))))
       obtain ⟨t7, hx8, h⟩ := bind_some h
       refine AWP.seqJ (⟨[(1, .c (int facts)), (6, .c (.ptr 0 0 0)), (34, .c (row 3 eTOutcome ov.outcomes)), (35, .c (int (ov.outcomes.length : Int))), (36, .c (int t6)), (40, .c (bool t7))], [.one (.cells 3 [[row 1 intI a38.add, row 1 intI a38.del, int a38.weight]])]⟩) ?_ ?_
       ·obtain ⟨a44, ha44, hx8⟩ := bind_some hx8
        rcases Bool.eq_false_or_eq_true (!a44) with hb9 | hb9
        ·replace hx8 := iteBT hb9 hx8
         refine AWP.region (W.fieldAddr rfl rfl rfl rfl (.load rfl rfl rfl rfl rfl rfl (.move rfl rfl (.callR rfl rfl rfl rfl (strips_IsSet_ok ha44) rfl (.not rfl rfl (.move rfl rfl (.guardF rfl rfl rfl hb9 (.guardF rfl rfl rfl hb9 (.guardF rfl rfl rfl hb9 (.guardF rfl rfl rfl hb9 (.guardF rfl rfl rfl hb9 (.pickT rfl hb9 rfl rfl (.move rfl rfl (.guardF rfl rfl rfl rfl (.guardF rfl rfl rfl rfl (.guardF rfl rfl rfl rfl (.guardF rfl rfl rfl rfl (.guardF rfl rfl rfl rfl (.pickT rfl rfl rfl rfl (.assign rfl rfl (.nil ?_)))))))))))))))))))))
         have ej := Option.some.inj hx8
         subst ej
         refine thn_normal (Sub.env ⟨rfl, rfl, rfl, rfl, rfl, rfl, trivial⟩)
        ·replace hx8 := iteBF hb9 hx8
         obtain ⟨a50, ha50, hx8⟩ := bind_some hx8
         rcases Bool.eq_false_or_eq_true (!a50) with hb10 | hb10
         ·replace hx8 := iteBT hb10 hx8
          refine AWP.region (W.fieldAddr rfl rfl rfl rfl (.load rfl rfl rfl rfl rfl rfl (.move rfl rfl (.callR rfl rfl rfl rfl (strips_IsSet_ok ha44) rfl (.not rfl rfl (.move rfl rfl (.guardT rfl rfl rfl hb9 (W.fieldAddr rfl rfl rfl rfl (.guardT rfl rfl rfl hb9 (.load rfl rfl rfl rfl rfl rfl (.guardT rfl rfl rfl hb9 (.move rfl rfl (.guardT rfl rfl rfl hb9 (.callR rfl rfl rfl rfl (strips_IsSet_ok ha50) rfl (.guardT rfl rfl rfl hb9 (.not rfl rfl (.pickF rfl hb9 rfl rfl (.move rfl rfl (.guardF rfl rfl rfl hb10 (.guardF rfl rfl rfl hb10 (.guardF rfl rfl rfl hb10 (.guardF rfl rfl rfl hb10 (.guardF rfl rfl rfl hb10 (.pickT rfl hb10 rfl rfl (.assign rfl rfl (.nil ?_))))))))))))))))))))))))))
          have ej := Option.some.inj hx8
          subst ej
          refine thn_normal (Sub.env ⟨rfl, rfl, rfl, rfl, rfl, rfl, trivial⟩)
         ·replace hx8 := iteBF hb10 hx8
          obtain ⟨a58, ha58, hx8⟩ := bind_some hx8
          refine AWP.region (W.fieldAddr rfl rfl rfl rfl (.load rfl rfl rfl rfl rfl rfl (.move rfl rfl (.callR rfl rfl rfl rfl (strips_IsSet_ok ha44) rfl (.not rfl rfl (.move rfl rfl (.guardT rfl rfl rfl hb9 (W.fieldAddr rfl rfl rfl rfl (.guardT rfl rfl rfl hb9 (.load rfl rfl rfl rfl rfl rfl (.guardT rfl rfl rfl hb9 (.move rfl rfl (.guardT rfl rfl rfl hb9 (.callR rfl rfl rfl rfl (strips_IsSet_ok ha50) rfl (.guardT rfl rfl rfl hb9 (.not rfl rfl (.pickF rfl hb9 rfl rfl (.move rfl rfl (.guardT rfl rfl rfl hb10 (W.fieldAddr rfl rfl rfl rfl (.guardT rfl rfl rfl hb10 (.load rfl rfl rfl rfl rfl rfl (.guardT rfl rfl rfl hb10 (W.fieldAddr rfl rfl rfl rfl (.guardT rfl rfl rfl hb10 (.load rfl rfl rfl rfl rfl rfl (.guardT rfl rfl rfl hb10 (.callR rfl rfl rfl rfl (strips_Meets_ok ha58) rfl (.pickF rfl hb10 rfl rfl (.assign rfl rfl (.nil ?_)))))))))))))))))))))))))))))))
          have ej := Option.some.inj hx8
          subst ej
          refine thn_normal (Sub.env ⟨rfl, rfl, rfl, rfl, rfl, rfl, trivial⟩)
       ·refine AWP.iteB rfl h (fun hc11 h => ?_) (fun hc11 h => ?_)
        ·refine AWP.seq (.region (.assign rfl rfl (.nil (thn_normal (.ret (inB_ret (inB_ret (thn_ret ?_))))))))
         have ej := Option.some.inj h
         subst ej
         refine thn_ret ⟨_, rfl, rfl, ?_⟩
         exact Done.ret rfl rfl
        ·refine AWP.seqJ (⟨[(1, .c (int facts)), (34, .c (row 3 eTOutcome ov.outcomes)), (35, .c (int (ov.outcomes.length : Int))), (36, .c (int t6)), (60, .c (bool ((decide (a38.weight < 1)) || (decide (6 < a38.weight)))))], [.one (.cells 3 [[row 1 intI a38.add, row 1 intI a38.del, int a38.weight]])]⟩) ?_ ?_
         ·rcases Bool.eq_false_or_eq_true (decide (a38.weight < 1)) with hb1 | hb1
          ·refine AWP.region (W.fieldAddr rfl rfl rfl rfl (.load rfl rfl rfl rfl rfl rfl (.lss rfl rfl rfl (.move rfl rfl (.guardF rfl rfl rfl hb1 (.guardF rfl rfl rfl hb1 (.guardF rfl rfl rfl hb1 (.pickT rfl hb1 rfl rfl (.assign rfl rfl (.nil (thn_normal ?_)))))))))))
           simp only [and_t hb1, or_t hb1, Bool.false_or, Bool.true_or, Bool.false_and, Bool.true_and]
           exact Sub.env ⟨rfl, rfl, rfl, rfl, rfl, trivial⟩
          ·refine AWP.region (W.fieldAddr rfl rfl rfl rfl (.load rfl rfl rfl rfl rfl rfl (.lss rfl rfl rfl (.move rfl rfl (.guardT rfl rfl rfl hb1 (W.fieldAddr rfl rfl rfl rfl (.guardT rfl rfl rfl hb1 (.load rfl rfl rfl rfl rfl rfl (.guardT rfl rfl rfl hb1 (.gtr rfl rfl rfl (.pickF rfl hb1 rfl rfl (.assign rfl rfl (.nil (thn_normal ?_))))))))))))))
           simp only [and_f hb1, or_f hb1, Bool.false_or, Bool.true_or, Bool.false_and, Bool.true_and]
           exact Sub.env ⟨rfl, rfl, rfl, rfl, rfl, trivial⟩
         ·refine AWP.iteB rfl h (fun hc12 h => ?_) (fun hc12 h => ?_)
          ·refine AWP.seq (.region (.assign rfl rfl (.nil (thn_normal (.ret (inB_ret (inB_ret (thn_ret ?_))))))))
           have ej := Option.some.inj h
           subst ej
           refine thn_ret ⟨_, rfl, rfl, ?_⟩
           exact Done.ret rfl rfl
          ·refine AWP.skip (inB_normal (inB_normal (thn_normal (.region (.add rfl rfl rfl (by omega) (.move rfl rfl (.nil ?_)))))))
           have ej := Option.some.inj h
           subst ej
           refine thn_normal ⟨_, rfl, ?_⟩
           exact Sub.cut ⟨rfl, rfl, rfl, rfl, trivial⟩ rfl trivial rfl
      ·intro e s hq
       rcases oo with u | x
       ·try dsimp only at h hq
        obtain ⟨rfl, hs⟩ := hq
        refine ⟨_, hs, ?_⟩
        refine inB_exit (thn_normal (.seq (.region (.assign rfl rfl (.nil (thn_normal (.ret ?_)))))))
        have ej := Option.some.inj h
        subst ej
        exact Done.ret rfl rfl
       ·try dsimp only at h hq
        obtain ⟨rfl, hs⟩ := hq
        refine ⟨_, Sub.refl _ _, ?_⟩
        refine inB_ret (thn_ret ?_)
        have ej := Option.some.inj h
        subst ej
        exact hs
theorem open_Validate_ok {ov : TOpenTask} {r : TFault} (h : open_Validate ov = some r) : PureOk Try.prog 28 [.agg [int ov.facts, row 1 intI ov.init, row 1 intI ov.goal, row 3 eTOpenOperator ov.operators]] (.agg [int r.code, int r.index]) := by
 unfold PureOk
 refine FnOk.enter (rs := [.cell 2 29 2]) Try.func28 rfl Try.ntmps28 Try.results28 rfl ⟨rv _ rfl, trivial⟩ (by kernel_rfl) rfl ?_
 unfold open_Validate at h
 refine AWP.seq (.region (W.box rfl rfl rfl rfl rfl rfl (W.alloc rfl rfl rfl rfl (.nil (thn_normal (.seq (.block (.seqJ (⟨[(1, .c (.ptr 0 0 0)), (2, .c (.ptr 1 0 0)), (6, .c (bool ((decide (ov.facts < 0)) || (decide (24 < ov.facts)))))], [.one (.cells 4 [[int ov.facts, row 1 intI ov.init, row 1 intI ov.goal, row 3 eTOpenOperator ov.operators]]), .one (.cells 2 [[int 0, int 0]])]⟩) ?_ ?_))))))))
 ·rcases Bool.eq_false_or_eq_true (decide (ov.facts < 0)) with hb1 | hb1
  ·refine AWP.region (W.fieldAddr rfl rfl rfl rfl (.load rfl rfl rfl rfl rfl rfl (.lss rfl rfl rfl (.move rfl rfl (.guardF rfl rfl rfl hb1 (.guardF rfl rfl rfl hb1 (.guardF rfl rfl rfl hb1 (.pickT rfl hb1 rfl rfl (.assign rfl rfl (.nil (thn_normal ?_)))))))))))
   simp only [and_t hb1, or_t hb1, Bool.false_or, Bool.true_or, Bool.false_and, Bool.true_and]
   exact Sub.env ⟨rfl, rfl, rfl, trivial⟩
  ·refine AWP.region (W.fieldAddr rfl rfl rfl rfl (.load rfl rfl rfl rfl rfl rfl (.lss rfl rfl rfl (.move rfl rfl (.guardT rfl rfl rfl hb1 (W.fieldAddr rfl rfl rfl rfl (.guardT rfl rfl rfl hb1 (.load rfl rfl rfl rfl rfl rfl (.guardT rfl rfl rfl hb1 (.gtr rfl rfl rfl (.pickF rfl hb1 rfl rfl (.assign rfl rfl (.nil (thn_normal ?_))))))))))))))
   simp only [and_f hb1, or_f hb1, Bool.false_or, Bool.true_or, Bool.false_and, Bool.true_and]
   exact Sub.env ⟨rfl, rfl, rfl, trivial⟩
 ·refine AWP.iteB rfl h (fun hc2 h => ?_) (fun hc2 h => ?_)
  ·refine AWP.seq (.region (W.build rfl rfl rfl rfl (W.storeAgg rfl rfl rfl rfl rfl rfl rfl (.nil (thn_normal (.ret (inB_ret (thn_ret ?_))))))))
   have ej := Option.some.inj h
   subst ej
   exact Done.ret rfl rfl
  ·refine AWP.seq ?_
   obtain ⟨a21, ha21, h⟩ := bind_some h
   refine AWP.region (W.fieldAddr rfl rfl rfl rfl (.load rfl rfl rfl rfl rfl rfl (W.fieldAddr rfl rfl rfl rfl (.load rfl rfl rfl rfl rfl rfl (.callR rfl rfl rfl rfl (strips_IsSet_ok ha21) rfl (.not rfl rfl (.assign rfl rfl (.nil (thn_normal (.iteB rfl h (fun hc3 h => ?_) (fun hc3 h => ?_)))))))))))
   ·refine AWP.seq (.region (W.build rfl rfl rfl rfl (W.storeAgg rfl rfl rfl rfl rfl rfl rfl (.nil (thn_normal (.ret (inB_ret (thn_ret ?_))))))))
    have ej := Option.some.inj h
    subst ej
    exact Done.ret rfl rfl
   ·refine AWP.seq ?_
    obtain ⟨a29, ha29, h⟩ := bind_some h
    refine AWP.region (W.fieldAddr rfl rfl rfl rfl (.load rfl rfl rfl rfl rfl rfl (W.fieldAddr rfl rfl rfl rfl (.load rfl rfl rfl rfl rfl rfl (.callR rfl rfl rfl rfl (strips_IsSet_ok ha29) rfl (.not rfl rfl (.assign rfl rfl (.nil (thn_normal (.iteB rfl h (fun hc4 h => ?_) (fun hc4 h => ?_)))))))))))
    ·refine AWP.seq (.region (W.build rfl rfl rfl rfl (W.storeAgg rfl rfl rfl rfl rfl rfl rfl (.nil (thn_normal (.ret (inB_ret (thn_ret ?_))))))))
     have ej := Option.some.inj h
     subst ej
     exact Done.ret rfl rfl
    ·refine AWP.seq (.region (W.fieldAddr rfl rfl rfl rfl (.load rfl rfl rfl rfl rfl rfl (S.len rfl rfl (fun hl35 => .gtr rfl rfl rfl (.assign rfl rfl (.nil (thn_normal (.ite rfl h (fun hc5 h => ?_) (fun hc5 h => ?_))))))))))
     ·refine AWP.seq (.region (W.build rfl rfl rfl rfl (W.storeAgg rfl rfl rfl rfl rfl rfl rfl (.nil (thn_normal (.ret (inB_ret (thn_ret ?_))))))))
      have ej := Option.some.inj h
      subst ej
      exact Done.ret rfl rfl
     ·refine AWP.skip (inB_normal (thn_normal (.seq (.seq (.region (W.fieldAddr rfl rfl rfl rfl (.load rfl rfl rfl rfl rfl rfl (S.len rfl rfl (fun hl40 => .move rfl rfl (.nil (thn_normal (.block ?_))))))))))))
      obtain ⟨oo, ho1, h⟩ := bind_some h
      refine AWP.rngS ho1 (fun t6 _ => ⟨[(1, .c (.ptr 0 0 0)), (2, .c (.ptr 1 0 0)), (39, .c (row 3 eTOpenOperator ov.operators)), (40, .c (int (ov.operators.length : Int))), (41, .c (int t6))], [.one (.cells 4 [[int ov.facts, row 1 intI ov.init, row 1 intI ov.goal, row 3 eTOpenOperator ov.operators]]), .one (.cells 2 [[int 0, int 0]])]⟩) (fun o e st => match o with | .inl _ => e = .exit 1 ∧ Sub [] st ⟨[(2, .c (.ptr 1 0 0))], [.one (.cells 4 [[int ov.facts, row 1 intI ov.init, row 1 intI ov.goal, row 3 eTOpenOperator ov.operators]]), .one (.cells 2 [[int 0, int 0]])]⟩ | .inr x => e = .ret ∧ Done [.cell 2 29 2] (fun t _ => t = .agg [int x.code, int x.index]) .ret st) ?_ ?_ ?_ ?_
      ·try dsimp only
       exact Sub.env ⟨rfl, rfl, rfl, rfl, rfl, trivial⟩
      ·intro t6 s hlot6 hltt6 _
       try dsimp only
       refine AWP.seq (.region (.lss rfl rfl rfl (.nil (thn_normal (.seq (.condNP rfl hltt6 (.exit (thn_exit (thn_exit ⟨rfl, ?_⟩)))))))))
       exact Sub.env ⟨rfl, trivial⟩
      ·intro t6 s o hlot6 hltt6 h
       unfold open_Validate_l1 at h
       try dsimp only at h ⊢
       refine AWP.seq (.region (.lss rfl rfl rfl (.nil (thn_normal (.seq (.condP rfl hltt6 (.skip (thn_normal (.seq (.block (.seq ?_)))))))))))
       obtain ⟨a44, ha44, h⟩ := bind_some h
       refine AWP.region (.move rfl rfl (S.idx ha44 rfl rfl rfl rfl (W.loadIAgg rfl rfl rfl rfl rfl (W.alloc rfl rfl rfl rfl (.assign rfl rfl (W.storeAgg rfl rfl rfl rfl rfl rfl rfl (.nil (thn_normal (.seq ?_)))))))))
       obtain ⟨a49, ha49, h⟩ := bind_some h
       refine AWP.region (W.loadAgg rfl rfl rfl rfl rfl rfl rfl (W.fieldAddr rfl rfl rfl rfl (.load rfl rfl rfl rfl rfl rfl (.callR rfl rfl rfl rfl (open_operatorCode_ok ha49) rfl (.assign rfl rfl (.nil (thn_normal (.seq (.region (.move rfl rfl (.neq rfl rfl rfl (.nil (thn_normal (.iteN rfl h (fun hc7 h => ?_) (fun hc7 h => ?_)))))))))))))))
       ·refine AWP.seq (.region (.move rfl rfl (.move rfl rfl (W.build rfl rfl rfl rfl (W.storeAgg rfl rfl rfl rfl rfl rfl rfl (.nil (thn_normal (.ret (inB_ret (thn_ret ?_))))))))))
        have ej := Option.some.inj h
        subst ej
        refine thn_ret ⟨_, rfl, rfl, ?_⟩
        exact Done.ret rfl rfl
       ·refine AWP.skip (inB_normal (thn_normal (.region (.add rfl rfl rfl (by omega) (.move rfl rfl (.nil ?_))))))
        have ej := Option.some.inj h
        subst ej
        refine thn_normal ⟨_, rfl, ?_⟩
        exact Sub.cut ⟨rfl, rfl, rfl, rfl, rfl, trivial⟩ rfl ⟨.one rfl, .one rfl, trivial⟩ rfl
      ·intro e s hq
       rcases oo with u | x
       ·try dsimp only at h hq
        obtain ⟨rfl, hs⟩ := hq
        refine ⟨_, hs, ?_⟩
        refine inB_exit (thn_normal (.seq (.region (W.build rfl rfl rfl rfl (W.storeAgg rfl rfl rfl rfl rfl rfl rfl (.nil (thn_normal (.ret ?_))))))))
        have ej := Option.some.inj h
        subst ej
        exact Done.ret rfl rfl
       ·try dsimp only at h hq
        obtain ⟨rfl, hs⟩ := hq
        refine ⟨_, Sub.refl _ _, ?_⟩
        refine inB_ret (thn_ret ?_)
        have ej := Option.some.inj h
        subst ej
        exact hs
theorem cmp_Compare_int_ok {xv : Int} {yv : Int} {r : Int} (h : cmp_Compare_int xv yv = some r) : PureOk Try.prog 49 [.c (int xv), .c (int yv)] (.c (int r)) := by
 unfold PureOk
 refine FnOk.enter (rs := [.t 4]) Try.func49 rfl Try.ntmps49 Try.results49 rfl ⟨trivial, trivial⟩ (by kernel_rfl) rfl ?_
 unfold cmp_Compare_int at h
 refine AWP.seq (.region (.assign rfl rfl (.nil (thn_normal (.seq ?_)))))
 obtain ⟨a8, ha8, h⟩ := bind_some h
 refine AWP.region (.move rfl rfl (.callR rfl rfl rfl rfl (cmp_isNaN_int_ok ha8) rfl (.assign rfl rfl (.nil (thn_normal (.seq ?_))))))
 obtain ⟨a10, ha10, h⟩ := bind_some h
 refine AWP.region (.move rfl rfl (.callR rfl rfl rfl rfl (cmp_isNaN_int_ok ha10) rfl (.assign rfl rfl (.nil (thn_normal (.seq (.seq (.region (.move rfl rfl (.nil (thn_normal (.iteB rfl h (fun hc3 h => ?_) (fun hc3 h => ?_)))))))))))))
 ·refine AWP.seq (.seq (.region (.move rfl rfl (.nil (thn_normal (.iteB rfl h (fun hc4 h => ?_) (fun hc4 h => ?_)))))))
  ·refine AWP.seq (.region (.assign rfl rfl (.nil (thn_normal (.ret (thn_ret (thn_ret ?_)))))))
   have ej := Option.some.inj h
   subst ej
   exact Done.ret rfl rfl
  ·refine AWP.skip (thn_normal (.seq (.region (.assign rfl rfl (.nil (thn_normal (.ret (thn_ret ?_))))))))
   have ej := Option.some.inj h
   subst ej
   exact Done.ret rfl rfl
 ·refine AWP.skip (thn_normal (.seq (.seq (.region (.move rfl rfl (.nil (thn_normal (.iteB rfl h (fun hc5 h => ?_) (fun hc5 h => ?_)))))))))
  ·refine AWP.seq (.region (.assign rfl rfl (.nil (thn_normal (.ret (thn_ret ?_))))))
   have ej := Option.some.inj h
   subst ej
   exact Done.ret rfl rfl
  ·refine AWP.skip (thn_normal (.seq (.seq (.region (.move rfl rfl (.move rfl rfl (.lss rfl rfl rfl (.nil (thn_normal (.ite rfl h (fun hc6 h => ?_) (fun hc6 h => ?_)))))))))))
   ·refine AWP.seq (.region (.assign rfl rfl (.nil (thn_normal (.ret (thn_ret ?_))))))
    have ej := Option.some.inj h
    subst ej
    exact Done.ret rfl rfl
   ·refine AWP.skip (thn_normal (.seq (.seq (.region (.move rfl rfl (.move rfl rfl (.gtr rfl rfl rfl (.nil (thn_normal (.ite rfl h (fun hc7 h => ?_) (fun hc7 h => ?_)))))))))))
    ·refine AWP.seq (.region (.assign rfl rfl (.nil (thn_normal (.ret (thn_ret ?_))))))
     have ej := Option.some.inj h
     subst ej
     exact Done.ret rfl rfl
    ·refine AWP.skip (thn_normal (.seq (.region (.assign rfl rfl (.nil (thn_normal (.ret ?_)))))))
     have ej := Option.some.inj h
     subst ej
     exact Done.ret rfl rfl
theorem slices_Compare_int_int_ok {s11 : List Int} {s22 : List Int} {r : Int} (h : slices_Compare_int_int s11 s22 = some r) : PureOk Try.prog 30 [.c (row 1 intI s11), .c (row 1 intI s22)] (.c (int r)) := by
 unfold PureOk
 refine FnOk.enter (rs := [.t 4]) Try.func30 rfl Try.ntmps30 Try.results30 rfl ⟨trivial, trivial⟩ (by kernel_rfl) rfl ?_
 unfold slices_Compare_int_int at h
 refine AWP.seq (.region (.assign rfl rfl (.nil (thn_normal (.seq (.seq (.region (.move rfl rfl (S.len rfl rfl (fun hl10 => .move rfl rfl (.nil (thn_normal (.block ?_)))))))))))))
 obtain ⟨oo, ho1, h⟩ := bind_some h
 refine AWP.rngS ho1 (fun t3 _ => ⟨[(0, .c (row 1 intI s11)), (1, .c (row 1 intI s22)), (9, .c (row 1 intI s11)), (10, .c (int (s11.length : Int))), (11, .c (int t3))], []⟩) (fun o e st => match o with | .inl _ => e = .exit 0 ∧ Sub [] st ⟨[(0, .c (row 1 intI s11)), (1, .c (row 1 intI s22))], []⟩ | .inr x => e = .ret ∧ Done [.t 4] (fun t _ => t = .c (int x)) .ret st) ?_ ?_ ?_ ?_
 ·try dsimp only
  exact Sub.env ⟨rfl, rfl, rfl, rfl, rfl, trivial⟩
 ·intro t3 s hlot3 hltt3 _
  try dsimp only
  refine AWP.seq (.region (.lss rfl rfl rfl (.nil (thn_normal (.seq (.condNP rfl hltt3 (.exit (thn_exit (thn_exit ⟨rfl, ?_⟩)))))))))
  exact Sub.env ⟨rfl, rfl, trivial⟩
 ·intro t3 s o hlot3 hltt3 h
  unfold slices_Compare_int_int_l1 at h
  try dsimp only at h ⊢
  refine AWP.seq (.region (.lss rfl rfl rfl (.nil (thn_normal (.seq (.condP rfl hltt3 (.skip (thn_normal (.seq (.block (.seq ?_)))))))))))
  obtain ⟨a14, ha14, h⟩ := bind_some h
  refine AWP.region (.move rfl rfl (S.idx ha14 rfl rfl rfl rfl (.loadI rfl rfl rfl rfl (.assign rfl rfl (.assign rfl rfl (.nil (thn_normal (.seq (.seq (.region (.move rfl rfl (.move rfl rfl (S.len rfl rfl (fun hl18 => .geq rfl rfl rfl (.nil (thn_normal (.ite rfl h (fun hc4 h => ?_) (fun hc4 h => ?_))))))))))))))))))
  ·refine AWP.seq (.region (.assign rfl rfl (.nil (thn_normal (.ret (thn_ret (inB_ret (thn_ret ?_))))))))
   have ej := Option.some.inj h
   subst ej
   refine thn_ret ⟨_, rfl, rfl, ?_⟩
   exact Done.ret rfl rfl
  ·refine AWP.skip (thn_normal (.seq ?_))
   obtain ⟨a22, ha22, h⟩ := bind_some h
   refine AWP.region (.move rfl rfl (.move rfl rfl (S.idx ha22 rfl rfl rfl rfl (.loadI rfl rfl rfl rfl (.assign rfl rfl (.nil (thn_normal (.seq ?_))))))))
   obtain ⟨a26, ha26, h⟩ := bind_some h
   refine AWP.region (.move rfl rfl (.move rfl rfl (.callR rfl rfl rfl rfl (cmp_Compare_int_ok ha26) rfl (.assign rfl rfl (.nil (thn_normal (.seq (.region (.move rfl rfl (.neq rfl rfl rfl (.nil (thn_normal (.iteN rfl h (fun hc5 h => ?_) (fun hc5 h => ?_))))))))))))))
   ·refine AWP.seq (.region (.move rfl rfl (.assign rfl rfl (.nil (thn_normal (.ret (inB_ret (thn_ret ?_))))))))
    have ej := Option.some.inj h
    subst ej
    refine thn_ret ⟨_, rfl, rfl, ?_⟩
    exact Done.ret rfl rfl
   ·refine AWP.skip (inB_normal (thn_normal (.region (.add rfl rfl rfl (by omega) (.move rfl rfl (.nil ?_))))))
    have ej := Option.some.inj h
    subst ej
    refine thn_normal ⟨_, rfl, ?_⟩
    exact Sub.env ⟨rfl, rfl, rfl, rfl, rfl, trivial⟩
 ·intro e s hq
  rcases oo with u | x
  ·try dsimp only at h hq
   obtain ⟨rfl, hs⟩ := hq
   refine ⟨_, hs, ?_⟩
   refine inB_exit (thn_normal (.seq (.seq (.region (.move rfl rfl (S.len rfl rfl (fun hl32 => .move rfl rfl (S.len rfl rfl (fun hl34 => .lss rfl rfl rfl (.nil (thn_normal (.ite rfl h (fun hc6 h => ?_) (fun hc6 h => ?_)))))))))))))
   ·refine AWP.seq (.region (.assign rfl rfl (.nil (thn_normal (.ret (thn_ret ?_))))))
    have ej := Option.some.inj h
    subst ej
    exact Done.ret rfl rfl
   ·refine AWP.skip (thn_normal (.seq (.region (.assign rfl rfl (.nil (thn_normal (.ret ?_)))))))
    have ej := Option.some.inj h
    subst ej
    exact Done.ret rfl rfl
  ·try dsimp only at h hq
   obtain ⟨rfl, hs⟩ := hq
   refine ⟨_, Sub.refl _ _, ?_⟩
   refine inB_ret (thn_ret ?_)
   have ej := Option.some.inj h
   subst ej
   exact hs
theorem strips_Contains_ok {sv : List Int} {part : List Int} {r : Bool} (h : strips_Contains sv part = some r) : PureOk Try.prog 21 [.c (row 1 intI sv), .c (row 1 intI part)] (.c (bool r)) := by
 unfold PureOk
 refine FnOk.enter (rs := [.t 4]) Try.func21 rfl Try.ntmps21 Try.results21 rfl ⟨trivial, trivial⟩ (by kernel_rfl) rfl ?_
 unfold strips_Contains at h
 refine AWP.seq (.region (.assign rfl rfl (.nil (thn_normal (.seq (.region (.assign rfl rfl (.nil (thn_normal (.seq (.seq (.region (.move rfl rfl (S.len rfl rfl (fun hl9 => .move rfl rfl (.nil (thn_normal (.block ?_))))))))))))))))))
 obtain ⟨oo, ho1, h⟩ := bind_some h
 refine AWP.rngS ho1 (fun t4 iv3 => ⟨[(0, .c (row 1 intI sv)), (5, .c (int iv3)), (8, .c (row 1 intI part)), (9, .c (int (part.length : Int))), (10, .c (int t4))], []⟩) (fun o e st => match o with | .inl iv3 => e = .exit 0 ∧ Sub [] st ⟨[], []⟩ | .inr x => e = .ret ∧ Done [.t 4] (fun t _ => t = .c (bool x)) .ret st) ?_ ?_ ?_ ?_
 ·try dsimp only
  exact Sub.env ⟨rfl, rfl, rfl, rfl, rfl, trivial⟩
 ·intro t4 iv3 hlot4 hltt4 _
  try dsimp only
  refine AWP.seq (.region (.lss rfl rfl rfl (.nil (thn_normal (.seq (.condNP rfl hltt4 (.exit (thn_exit (thn_exit ⟨rfl, ?_⟩)))))))))
  exact Sub.env trivial
 ·intro t4 iv3 o hlot4 hltt4 h
  unfold strips_Contains_l1 at h
  try dsimp only at h ⊢
  refine AWP.seq (.region (.lss rfl rfl rfl (.nil (thn_normal (.seq (.condP rfl hltt4 (.skip (thn_normal (.seq (.block (.seq ?_)))))))))))
  obtain ⟨a12, ha12, h⟩ := bind_some h
  refine AWP.region (S.idx ha12 rfl rfl rfl rfl (.loadI rfl rfl rfl rfl (.assign rfl rfl (.nil (thn_normal (.seq (.block ?_)))))))
  obtain ⟨iv6, ho2, h⟩ := bind_some h
  refine AWP.loopS ho2 (fun iv5 => ⟨[(0, .c (row 1 intI sv)), (5, .c (int iv5)), (7, .c (int a12)), (8, .c (row 1 intI part)), (9, .c (int (part.length : Int))), (10, .c (int t4))], []⟩) (fun iv6 e st => e = .exit 2 ∧ Sub [] st ⟨[(0, .c (row 1 intI sv)), (5, .c (int iv6)), (7, .c (int a12)), (8, .c (row 1 intI part)), (9, .c (int (part.length : Int))), (10, .c (int t4))], []⟩) ?_ ?_ ?_
  ·try dsimp only
   exact Sub.env ⟨rfl, rfl, rfl, rfl, rfl, rfl, trivial⟩
  ·intro iv5 o h
   unfold strips_Contains_l2 at h
   try dsimp only at h ⊢
   refine AWP.seq ?_
   obtain ⟨t7, hx8, h⟩ := bind_some h
   refine AWP.seqJ (⟨[(0, .c (row 1 intI sv)), (5, .c (int iv5)), (7, .c (int a12)), (8, .c (row 1 intI part)), (9, .c (int (part.length : Int))), (10, .c (int t4)), (25, .c (bool t7))], []⟩) ?_ ?_
   ·rcases Bool.eq_false_or_eq_true (decide (iv5 < (sv.length : Int))) with hb9 | hb9
    ·replace hx8 := iteDT hb9 hx8
     obtain ⟨a21, ha21, hx8⟩ := bind_some hx8
     refine AWP.region (.move rfl rfl (.move rfl rfl (S.len rfl rfl (fun hl16 => .lss rfl rfl rfl (.move rfl rfl (.guardT rfl rfl rfl hb9 (.move rfl rfl (.guardT rfl rfl rfl hb9 (.move rfl rfl (.guardT rfl rfl rfl hb9 (S.idx ha21 rfl rfl rfl rfl (.guardT rfl rfl rfl hb9 (.loadI rfl rfl rfl rfl (.guardT rfl rfl rfl hb9 (.move rfl rfl (.guardT rfl rfl rfl hb9 (.lss rfl rfl rfl (.pickT rfl hb9 rfl rfl (.nil ?_)))))))))))))))))))
     have ej := Option.some.inj hx8
     subst ej
     refine thn_normal (Sub.env ⟨rfl, rfl, rfl, rfl, rfl, rfl, rfl, trivial⟩)
    ·replace hx8 := iteDF hb9 hx8
     refine AWP.region (.move rfl rfl (.move rfl rfl (S.len rfl rfl (fun hl16 => .lss rfl rfl rfl (.move rfl rfl (.guardF rfl rfl rfl hb9 (.guardF rfl rfl rfl hb9 (.guardF rfl rfl rfl hb9 (.guardF rfl rfl rfl hb9 (.guardF rfl rfl rfl hb9 (.guardF rfl rfl rfl hb9 (.pickF rfl hb9 rfl rfl (.nil ?_)))))))))))))
     have ej := Option.some.inj hx8
     subst ej
     refine thn_normal (Sub.env ⟨rfl, rfl, rfl, rfl, rfl, rfl, rfl, trivial⟩)
   ·refine AWP.iteB rfl h (fun hc10 h => ?_) (fun hc10 h => ?_)
    ·refine AWP.skip (thn_normal (.block (.region (.move rfl rfl (S.add rfl rfl rfl (.assign rfl rfl (.nil (inB_normal ?_))))))))
     have ej := Option.some.inj h
     subst ej
     refine thn_normal ⟨_, rfl, ?_⟩
     exact Sub.env ⟨rfl, rfl, rfl, rfl, rfl, rfl, trivial⟩
    ·refine AWP.exit (thn_exit ?_)
     have ej := Option.some.inj h
     subst ej
     refine thn_exit ⟨_, rfl, rfl, ?_⟩
     exact Sub.env ⟨rfl, rfl, rfl, rfl, rfl, rfl, trivial⟩
  ·intro e s hq
   obtain ⟨rfl, hs⟩ := hq
   refine ⟨_, hs, ?_⟩
   refine inB_exit (thn_normal ?_)
   obtain ⟨t11, hx12, h⟩ := bind_some h
   refine AWP.seqJ (⟨[(0, .c (row 1 intI sv)), (5, .c (int iv6)), (8, .c (row 1 intI part)), (9, .c (int (part.length : Int))), (10, .c (int t4)), (39, .c (bool t11))], []⟩) ?_ ?_
   ·rcases Bool.eq_false_or_eq_true (decide (iv6 = (sv.length : Int))) with hb13 | hb13
    ·replace hx12 := iteDT hb13 hx12
     refine AWP.region (.move rfl rfl (.move rfl rfl (S.len rfl rfl (fun hl30 => .eql rfl rfl rfl (.move rfl rfl (.guardF rfl rfl rfl hb13 (.guardF rfl rfl rfl hb13 (.guardF rfl rfl rfl hb13 (.guardF rfl rfl rfl hb13 (.guardF rfl rfl rfl hb13 (.guardF rfl rfl rfl hb13 (.pickT rfl hb13 rfl rfl (.nil ?_)))))))))))))
     have ej := Option.some.inj hx12
     subst ej
     refine thn_normal (Sub.env ⟨rfl, rfl, rfl, rfl, rfl, rfl, trivial⟩)
    ·replace hx12 := iteDF hb13 hx12
     obtain ⟨a35, ha35, hx12⟩ := bind_some hx12
     refine AWP.region (.move rfl rfl (.move rfl rfl (S.len rfl rfl (fun hl30 => .eql rfl rfl rfl (.move rfl rfl (.guardT rfl rfl rfl hb13 (.move rfl rfl (.guardT rfl rfl rfl hb13 (.move rfl rfl (.guardT rfl rfl rfl hb13 (S.idx ha35 rfl rfl rfl rfl (.guardT rfl rfl rfl hb13 (.loadI rfl rfl rfl rfl (.guardT rfl rfl rfl hb13 (.move rfl rfl (.guardT rfl rfl rfl hb13 (.neq rfl rfl rfl (.pickF rfl hb13 rfl rfl (.nil ?_)))))))))))))))))))
     have ej := Option.some.inj hx12
     subst ej
     refine thn_normal (Sub.env ⟨rfl, rfl, rfl, rfl, rfl, rfl, trivial⟩)
   ·refine AWP.iteB rfl h (fun hc14 h => ?_) (fun hc14 h => ?_)
    ·refine AWP.seq (.region (.assign rfl rfl (.nil (thn_normal (.ret (inB_ret (thn_ret ?_)))))))
     have ej := Option.some.inj h
     subst ej
     refine thn_ret ⟨_, rfl, rfl, ?_⟩
     exact Done.ret rfl rfl
    ·refine AWP.skip (inB_normal (thn_normal (.region (.add rfl rfl rfl (by omega) (.move rfl rfl (.nil ?_))))))
     have ej := Option.some.inj h
     subst ej
     refine thn_normal ⟨_, rfl, ?_⟩
     exact Sub.env ⟨rfl, rfl, rfl, rfl, rfl, trivial⟩
 ·intro e s hq
  rcases oo with iv3 | x
  ·try dsimp only at h hq
   obtain ⟨rfl, hs⟩ := hq
   refine ⟨_, hs, ?_⟩
   refine inB_exit (thn_normal (.seq (.region (.assign rfl rfl (.nil (thn_normal (.ret ?_)))))))
   have ej := Option.some.inj h
   subst ej
   exact Done.ret rfl rfl
  ·try dsimp only at h hq
   obtain ⟨rfl, hs⟩ := hq
   refine ⟨_, Sub.refl _ _, ?_⟩
   refine inB_ret (thn_ret ?_)
   have ej := Option.some.inj h
   subst ej
   exact hs
theorem open_Can_ok {ov : TOpenTask} {sv : List Int} {op : Int} {r : Bool} (h : open_Can ov sv op = some r) : PureOk Try.prog 31 [.agg [int ov.facts, row 1 intI ov.init, row 1 intI ov.goal, row 3 eTOpenOperator ov.operators], .c (row 1 intI sv), .c (int op)] (.c (bool r)) := by
 unfold PureOk
 refine FnOk.enter (rs := [.t 6]) Try.func31 rfl Try.ntmps31 Try.results31 rfl ⟨trivial, trivial⟩ (by kernel_rfl) rfl ?_
 unfold open_Can at h
 refine AWP.seq (.region (W.box rfl rfl rfl rfl rfl rfl (.assign rfl rfl (.nil (thn_normal (.seq ?_))))))
 obtain ⟨a11, ha11, h⟩ := bind_some h
 obtain ⟨a14, ha14, h⟩ := bind_some h
 refine AWP.region (.move rfl rfl (W.fieldAddr rfl rfl rfl rfl (.load rfl rfl rfl rfl rfl rfl (.move rfl rfl (S.idx ha11 rfl rfl rfl rfl (W.fieldAddrI rfl rfl rfl rfl (.loadI rfl rfl rfl rfl (.callR rfl rfl rfl rfl (strips_Contains_ok ha14) rfl (.assign rfl rfl (.nil (thn_normal (.ret ?_))))))))))))
 have ej := Option.some.inj h
 subst ej
 exact Done.ret rfl rfl
theorem open_ValidatePolicy_ok {ov : TOpenTask} {policy : List TChoice} {r : TFault} (h : open_ValidatePolicy ov policy = some r) : PureOk Try.prog 8 [.agg [int ov.facts, row 1 intI ov.init, row 1 intI ov.goal, row 3 eTOpenOperator ov.operators], .c (row 2 eTChoice policy)] (.agg [int r.code, int r.index]) := by
 unfold PureOk
 refine FnOk.enter (rs := [.cell 4 29 2]) Try.func8 rfl Try.ntmps8 Try.results8 rfl ⟨rv _ rfl, trivial⟩ (by kernel_rfl) rfl ?_
 unfold open_ValidatePolicy at h
 refine AWP.seq (.region (W.box rfl rfl rfl rfl rfl rfl (W.alloc rfl rfl rfl rfl (.nil (thn_normal (.seq (.seq ?_)))))))
 obtain ⟨a10, ha10, h⟩ := bind_some h
 refine AWP.region (W.loadAgg rfl rfl rfl rfl rfl rfl rfl (.callR rfl rfl rfl rfl (open_Validate_ok ha10) rfl (W.alloc rfl rfl rfl rfl (W.storeAgg rfl rfl rfl rfl rfl rfl rfl (.nil (thn_normal (.seq (.region (W.loadAgg rfl rfl rfl rfl rfl rfl rfl (W.build rfl rfl rfl rfl (.neqP rfl rfl rfl rfl rfl rfl rfl (.nil (thn_normal (.iteB rfl h (fun hc3 h => ?_) (fun hc3 h => ?_)))))))))))))))
 ·refine AWP.seq (.region (W.loadAgg rfl rfl rfl rfl rfl rfl rfl (W.storeAgg rfl rfl rfl rfl rfl rfl rfl (.nil (thn_normal (.ret (thn_ret ?_)))))))
  have ej := Option.some.inj h
  subst ej
  exact Done.ret rfl rfl
 ·refine AWP.skip (thn_normal (.seq (.seq (.region (.move rfl rfl (S.len rfl rfl (fun hl16 => .gtr rfl rfl rfl (.nil (thn_normal (.ite rfl h (fun hc4 h => ?_) (fun hc4 h => ?_)))))))))))
  ·refine AWP.seq (.region (W.build rfl rfl rfl rfl (W.storeAgg rfl rfl rfl rfl rfl rfl rfl (.nil (thn_normal (.ret (thn_ret ?_)))))))
   have ej := Option.some.inj h
   subst ej
   exact Done.ret rfl rfl
  ·refine AWP.skip (thn_normal (.seq (.seq (.region (.move rfl rfl (S.len rfl rfl (fun hl20 => .move rfl rfl (.nil (thn_normal (.block ?_))))))))))
   obtain ⟨oo, ho1, h⟩ := bind_some h
   refine AWP.rngS ho1 (fun t5 _ => ⟨[(1, .c (row 2 eTChoice policy)), (2, .c (.ptr 0 0 0)), (4, .c (.ptr 1 0 0)), (19, .c (row 2 eTChoice policy)), (20, .c (int (policy.length : Int))), (21, .c (int t5))], [.one (.cells 4 [[int ov.facts, row 1 intI ov.init, row 1 intI ov.goal, row 3 eTOpenOperator ov.operators]]), .one (.cells 2 [[int 0, int 0]])]⟩) (fun o e st => match o with | .inl _ => e = .exit 0 ∧ Sub [] st ⟨[(4, .c (.ptr 1 0 0))], [.one (.cells 4 [[int ov.facts, row 1 intI ov.init, row 1 intI ov.goal, row 3 eTOpenOperator ov.operators]]), .one (.cells 2 [[int 0, int 0]])]⟩ | .inr x => e = .ret ∧ Done [.cell 4 29 2] (fun t _ => t = .agg [int x.code, int x.index]) .ret st) ?_ ?_ ?_ ?_
   ·try dsimp only
    exact Sub.cut ⟨rfl, rfl, rfl, rfl, rfl, rfl, trivial⟩ rfl ⟨.one rfl, .one rfl, trivial⟩ rfl
   ·intro t5 s hlot5 hltt5 _
    try dsimp only
    refine AWP.seq (.region (.lss rfl rfl rfl (.nil (thn_normal (.seq (.condNP rfl hltt5 (.exit (thn_exit (thn_exit ⟨rfl, ?_⟩)))))))))
    exact Sub.env ⟨rfl, trivial⟩
   ·intro t5 s o hlot5 hltt5 h
    unfold open_ValidatePolicy_l1 at h
    try dsimp only at h ⊢
    refine AWP.seq (.region (.lss rfl rfl rfl (.nil (thn_normal (.seq (.condP rfl hltt5 (.skip (thn_normal (.seq (.block (.seq ?_)))))))))))
    obtain ⟨a24, ha24, h⟩ := bind_some h
    refine AWP.region (.move rfl rfl (S.idx ha24 rfl rfl rfl rfl (W.loadIAgg rfl rfl rfl rfl rfl (W.alloc rfl rfl rfl rfl (.assign rfl rfl (W.storeAgg rfl rfl rfl rfl rfl rfl rfl (.nil (thn_normal (.seq (.region (.assign rfl rfl (.nil (thn_normal ?_)))))))))))))
    obtain ⟨ev6, hx7, h⟩ := bind_some h
    refine AWP.seqJ (⟨[(1, .c (row 2 eTChoice policy)), (2, .c (.ptr 0 0 0)), (4, .c (.ptr 1 0 0)), (6, .c (int t5)), (8, .c (int ev6)), (19, .c (row 2 eTChoice policy)), (20, .c (int (policy.length : Int))), (21, .c (int t5))], [.one (.cells 4 [[int ov.facts, row 1 intI ov.init, row 1 intI ov.goal, row 3 eTOpenOperator ov.operators]]), .one (.cells 2 [[int 0, int 0]])]⟩) ?_ ?_
    ·refine AWP.block ?_
     obtain ⟨t8, hx9, hx7⟩ := bind_some hx7
     refine AWP.seqJ (⟨[(1, .c (row 2 eTChoice policy)), (2, .c (.ptr 0 0 0)), (4, .c (.ptr 1 0 0)), (6, .c (int t5)), (7, .c (.ptr 2 0 0)), (8, .c (int 0)), (19, .c (row 2 eTChoice policy)), (20, .c (int (policy.length : Int))), (21, .c (int t5)), (26, .c (bool t8))], [.one (.cells 4 [[int ov.facts, row 1 intI ov.init, row 1 intI ov.goal, row 3 eTOpenOperator ov.operators]]), .one (.cells 2 [[int 0, int 0]]), .one (.cells 2 [[row 1 intI a24.state, int a24.operator]])]⟩) ?_ ?_
     ·obtain ⟨a31, ha31, hx9⟩ := bind_some hx9
      rcases Bool.eq_false_or_eq_true (!a31) with hb10 | hb10
      ·replace hx9 := iteBT hb10 hx9
       refine AWP.drawI mixed rfl ?_
       apply DrawSeq.consF; exact rfl; intro E
       refine W.fieldAddr rfl rfl rfl rfl (.nil ⟨rfl, rfl⟩)
       exact rfl
       apply DrawSeq.consF; exact rfl; intro E
       refine AOps.load rfl rfl rfl rfl rfl rfl (.nil ⟨rfl, rfl⟩)
       exact rfl
       apply DrawSeq.consF; exact rfl; intro E
       refine W.fieldAddr rfl rfl rfl rfl (.nil ⟨rfl, rfl⟩)
       exact rfl
       apply DrawSeq.consF; exact rfl; intro E
       refine AOps.load rfl rfl rfl rfl rfl rfl (.nil ⟨rfl, rfl⟩)
       exact rfl
       apply DrawSeq.consF; exact rfl; intro E
       refine AOps.callR rfl rfl rfl rfl (strips_IsSet_ok ha31) rfl (.nil ⟨rfl, rfl⟩)
       exact rfl
       apply DrawSeq.consF; exact rfl; intro E
       refine AOps.not rfl rfl (.nil ⟨rfl, rfl⟩)
       exact rfl
       apply DrawSeq.consF; exact rfl; intro E
       refine AOps.move rfl rfl (.nil ⟨rfl, rfl⟩)
       exact rfl
       apply DrawSeq.consF; exact rfl; intro E
       refine AOps.guardF rfl rfl rfl hb10 (.nil ⟨rfl, rfl⟩)
       exact rfl
       apply DrawSeq.consF; exact rfl; intro E
       refine AOps.guardF rfl rfl rfl hb10 (.nil ⟨rfl, rfl⟩)
       exact rfl
       apply DrawSeq.consF; exact rfl; intro E
       refine AOps.guardF rfl rfl rfl hb10 (.nil ⟨rfl, rfl⟩)
       exact rfl
       apply DrawSeq.consF; exact rfl; intro E
       refine AOps.guardSkip rfl rfl rfl (.nil ⟨rfl, rfl⟩)
       exact rfl
       apply DrawSeq.consF; exact rfl; intro E
       refine AOps.guardSkip rfl rfl rfl (.nil ⟨rfl, rfl⟩)
       exact rfl
       apply DrawSeq.consF; exact rfl; intro E
       refine AOps.guardSkip rfl rfl rfl (.nil ⟨rfl, rfl⟩)
       exact rfl
       apply DrawSeq.consF; exact rfl; intro E
       refine AOps.guardSkip rfl rfl rfl (.nil ⟨rfl, rfl⟩)
       exact rfl
       apply DrawSeq.consF; exact rfl; intro E
       refine AOps.guardSkip rfl rfl rfl (.nil ⟨rfl, rfl⟩)
       exact rfl
       apply DrawSeq.consF; exact rfl; intro E
       refine AOps.guardSkip rfl rfl rfl (.nil ⟨rfl, rfl⟩)
       exact rfl
       apply DrawSeq.consF; exact rfl; intro E
       refine AOps.guardSkip rfl rfl rfl (.nil ⟨rfl, rfl⟩)
       exact rfl
       apply DrawSeq.consF; exact rfl; intro E
       refine AOps.guardSkip rfl rfl rfl (.nil ⟨rfl, rfl⟩)
       exact rfl
       apply DrawSeq.consF; exact rfl; intro E
       refine AOps.guardSkip rfl rfl rfl (.nil ⟨rfl, rfl⟩)
       exact rfl
       apply DrawSeq.consF; exact rfl; intro E
       refine AOps.guardSkip rfl rfl rfl (.nil ⟨rfl, rfl⟩)
       exact rfl
       apply DrawSeq.consF; exact rfl; intro E
       refine AOps.guardF rfl rfl rfl hb10 (.nil ⟨rfl, rfl⟩)
       exact rfl
       apply DrawSeq.consF; exact rfl; intro E
       refine AOps.pickT rfl hb10 rfl rfl (.nil ⟨rfl, rfl⟩)
       exact rfl
       apply DrawSeq.consF; exact rfl; intro E
       refine AOps.assign rfl rfl (.nil ⟨rfl, rfl⟩)
       exact rfl
       refine DrawSeq.done ?_
       dsimp only [envEnd]
       have ej := Option.some.inj hx9
       subst ej
       refine thn_normal (Sub.env ⟨rfl, rfl, rfl, rfl, rfl, rfl, rfl, rfl, rfl, rfl, trivial⟩)
      ·replace hx9 := iteBF hb10 hx9
       rcases Bool.eq_false_or_eq_true (decide (0 < t5)) with hb11 | hb11
       ·replace hx9 := iteDT hb11 hx9
        obtain ⟨a40, ha40, hx9⟩ := bind_some hx9
        obtain ⟨a45, ha45, hx9⟩ := bind_some hx9
        refine AWP.drawI mixed rfl ?_
        apply DrawSeq.consF; exact rfl; intro E
        refine W.fieldAddr rfl rfl rfl rfl (.nil ⟨rfl, rfl⟩)
        exact rfl
        apply DrawSeq.consF; exact rfl; intro E
        refine AOps.load rfl rfl rfl rfl rfl rfl (.nil ⟨rfl, rfl⟩)
        exact rfl
        apply DrawSeq.consF; exact rfl; intro E
        refine W.fieldAddr rfl rfl rfl rfl (.nil ⟨rfl, rfl⟩)
        exact rfl
        apply DrawSeq.consF; exact rfl; intro E
        refine AOps.load rfl rfl rfl rfl rfl rfl (.nil ⟨rfl, rfl⟩)
        exact rfl
        apply DrawSeq.consF; exact rfl; intro E
        refine AOps.callR rfl rfl rfl rfl (strips_IsSet_ok ha31) rfl (.nil ⟨rfl, rfl⟩)
        exact rfl
        apply DrawSeq.consF; exact rfl; intro E
        refine AOps.not rfl rfl (.nil ⟨rfl, rfl⟩)
        exact rfl
        apply DrawSeq.consF; exact rfl; intro E
        refine AOps.move rfl rfl (.nil ⟨rfl, rfl⟩)
        exact rfl
        apply DrawSeq.consF; exact rfl; intro E
        refine AOps.guardT rfl rfl rfl hb10 (.move rfl rfl (.nil ⟨rfl, rfl⟩))
        exact rfl
        apply DrawSeq.consF; exact rfl; intro E
        refine AOps.guardT rfl rfl rfl hb10 (.gtr rfl rfl rfl (.nil ⟨rfl, rfl⟩))
        exact rfl
        apply DrawSeq.consF; exact rfl; intro E
        refine AOps.guardT rfl rfl rfl hb10 (.move rfl rfl (.nil ⟨rfl, rfl⟩))
        exact rfl
        apply DrawSeq.consF; exact rfl; intro E
        refine AOps.guardT rfl rfl rfl hb11 (.move rfl rfl (.nil ⟨rfl, rfl⟩))
        exact rfl
        apply DrawSeq.consF; exact rfl; intro E
        refine AOps.guardT rfl rfl rfl hb11 (.move rfl rfl (.nil ⟨rfl, rfl⟩))
        exact rfl
        apply DrawSeq.consF; exact rfl; intro E
        refine AOps.guardT rfl rfl rfl hb11 (.sub' rfl rfl rfl (by omega) (.nil ⟨rfl, rfl⟩))
        exact rfl
        apply DrawSeq.consF; exact rfl; intro E
        refine AOps.guardT rfl rfl rfl hb11 (S.idx ha40 rfl rfl rfl rfl (.nil ⟨rfl, rfl⟩))
        exact rfl
        apply DrawSeq.consF; exact rfl; intro E
        refine AOps.guardT rfl rfl rfl hb11 (W.fieldAddrI rfl rfl rfl rfl (.nil ⟨rfl, rfl⟩))
        exact rfl
        apply DrawSeq.consF; exact rfl; intro E
        refine AOps.guardT rfl rfl rfl hb11 (.loadI rfl rfl rfl rfl (.nil ⟨rfl, rfl⟩))
        exact rfl
        apply DrawSeq.consF; exact rfl; intro E
        refine AOps.guardT rfl rfl rfl hb11 (W.fieldAddr rfl rfl rfl rfl (.nil ⟨rfl, rfl⟩))
        exact rfl
        apply DrawSeq.consF; exact rfl; intro E
        refine AOps.guardT rfl rfl rfl hb11 (.load rfl rfl rfl rfl rfl rfl (.nil ⟨rfl, rfl⟩))
        exact rfl
        apply DrawSeq.consF; exact rfl; intro E
        refine AOps.guardT rfl rfl rfl hb11 (.callR rfl rfl rfl rfl (slices_Compare_int_int_ok ha45) rfl (.nil ⟨rfl, rfl⟩))
        exact rfl
        apply DrawSeq.consF; exact rfl; intro E
        refine AOps.guardT rfl rfl rfl hb11 (.geq rfl rfl rfl (.nil ⟨rfl, rfl⟩))
        exact rfl
        apply DrawSeq.consF; exact rfl; intro E
        refine AOps.guardT rfl rfl rfl hb10 (.pickT rfl hb11 rfl rfl (.nil ⟨rfl, rfl⟩))
        exact rfl
        apply DrawSeq.consF; exact rfl; intro E
        refine AOps.pickF rfl hb10 rfl rfl (.nil ⟨rfl, rfl⟩)
        exact rfl
        apply DrawSeq.consF; exact rfl; intro E
        refine AOps.assign rfl rfl (.nil ⟨rfl, rfl⟩)
        exact rfl
        refine DrawSeq.done ?_
        dsimp only [envEnd]
        have ej := Option.some.inj hx9
        subst ej
        refine thn_normal (Sub.env ⟨rfl, rfl, rfl, rfl, rfl, rfl, rfl, rfl, rfl, rfl, trivial⟩)
       ·replace hx9 := iteDF hb11 hx9
        refine AWP.drawI mixed rfl ?_
        apply DrawSeq.consF; exact rfl; intro E
        refine W.fieldAddr rfl rfl rfl rfl (.nil ⟨rfl, rfl⟩)
        exact rfl
        apply DrawSeq.consF; exact rfl; intro E
        refine AOps.load rfl rfl rfl rfl rfl rfl (.nil ⟨rfl, rfl⟩)
        exact rfl
        apply DrawSeq.consF; exact rfl; intro E
        refine W.fieldAddr rfl rfl rfl rfl (.nil ⟨rfl, rfl⟩)
        exact rfl
        apply DrawSeq.consF; exact rfl; intro E
        refine AOps.load rfl rfl rfl rfl rfl rfl (.nil ⟨rfl, rfl⟩)
        exact rfl
        apply DrawSeq.consF; exact rfl; intro E
        refine AOps.callR rfl rfl rfl rfl (strips_IsSet_ok ha31) rfl (.nil ⟨rfl, rfl⟩)
        exact rfl
        apply DrawSeq.consF; exact rfl; intro E
        refine AOps.not rfl rfl (.nil ⟨rfl, rfl⟩)
        exact rfl
        apply DrawSeq.consF; exact rfl; intro E
        refine AOps.move rfl rfl (.nil ⟨rfl, rfl⟩)
        exact rfl
        apply DrawSeq.consF; exact rfl; intro E
        refine AOps.guardT rfl rfl rfl hb10 (.move rfl rfl (.nil ⟨rfl, rfl⟩))
        exact rfl
        apply DrawSeq.consF; exact rfl; intro E
        refine AOps.guardT rfl rfl rfl hb10 (.gtr rfl rfl rfl (.nil ⟨rfl, rfl⟩))
        exact rfl
        apply DrawSeq.consF; exact rfl; intro E
        refine AOps.guardT rfl rfl rfl hb10 (.move rfl rfl (.nil ⟨rfl, rfl⟩))
        exact rfl
        apply DrawSeq.consF; exact rfl; intro E
        refine AOps.guardF rfl rfl rfl hb11 (.nil ⟨rfl, rfl⟩)
        exact rfl
        apply DrawSeq.consF; exact rfl; intro E
        refine AOps.guardF rfl rfl rfl hb11 (.nil ⟨rfl, rfl⟩)
        exact rfl
        apply DrawSeq.consF; exact rfl; intro E
        refine AOps.guardF rfl rfl rfl hb11 (.nil ⟨rfl, rfl⟩)
        exact rfl
        apply DrawSeq.consF; exact rfl; intro E
        refine AOps.guardF rfl rfl rfl hb11 (.nil ⟨rfl, rfl⟩)
        exact rfl
        apply DrawSeq.consF; exact rfl; intro E
        refine AOps.guardF rfl rfl rfl hb11 (.nil ⟨rfl, rfl⟩)
        exact rfl
        apply DrawSeq.consF; exact rfl; intro E
        refine AOps.guardF rfl rfl rfl hb11 (.nil ⟨rfl, rfl⟩)
        exact rfl
        apply DrawSeq.consF; exact rfl; intro E
        refine AOps.guardF rfl rfl rfl hb11 (.nil ⟨rfl, rfl⟩)
        exact rfl
        apply DrawSeq.consF; exact rfl; intro E
        refine AOps.guardF rfl rfl rfl hb11 (.nil ⟨rfl, rfl⟩)
        exact rfl
        apply DrawSeq.consF; exact rfl; intro E
        refine AOps.guardF rfl rfl rfl hb11 (.nil ⟨rfl, rfl⟩)
        exact rfl
        apply DrawSeq.consF; exact rfl; intro E
        refine AOps.guardF rfl rfl rfl hb11 (.nil ⟨rfl, rfl⟩)
        exact rfl
        apply DrawSeq.consF; exact rfl; intro E
        refine AOps.guardT rfl rfl rfl hb10 (.pickF rfl hb11 rfl rfl (.nil ⟨rfl, rfl⟩))
        exact rfl
        apply DrawSeq.consF; exact rfl; intro E
        refine AOps.pickF rfl hb10 rfl rfl (.nil ⟨rfl, rfl⟩)
        exact rfl
        apply DrawSeq.consF; exact rfl; intro E
        refine AOps.assign rfl rfl (.nil ⟨rfl, rfl⟩)
        exact rfl
        refine DrawSeq.done ?_
        dsimp only [envEnd]
        have ej := Option.some.inj hx9
        subst ej
        refine thn_normal (Sub.env ⟨rfl, rfl, rfl, rfl, rfl, rfl, rfl, rfl, rfl, rfl, trivial⟩)
     ·refine AWP.iteB rfl hx7 (fun hc12 hx7 => ?_) (fun hc12 hx7 => ?_)
      ·refine AWP.region (.assign rfl rfl (.nil (inB_normal ?_)))
       have ej := Option.some.inj hx7
       subst ej
       refine thn_normal (Sub.cut ⟨rfl, rfl, rfl, rfl, rfl, rfl, rfl, rfl, trivial⟩ rfl ⟨.one rfl, .one rfl, trivial⟩ rfl)
      ·refine AWP.seqJ (⟨[(1, .c (row 2 eTChoice policy)), (2, .c (.ptr 0 0 0)), (4, .c (.ptr 1 0 0)), (6, .c (int t5)), (7, .c (.ptr 2 0 0)), (8, .c (int 0)), (19, .c (row 2 eTChoice policy)), (20, .c (int (policy.length : Int))), (21, .c (int t5)), (49, .c (bool ((decide (a24.operator < 0)) || (decide ((ov.operators.length : Int) ≤ a24.operator)))))], [.one (.cells 4 [[int ov.facts, row 1 intI ov.init, row 1 intI ov.goal, row 3 eTOpenOperator ov.operators]]), .one (.cells 2 [[int 0, int 0]]), .one (.cells 2 [[row 1 intI a24.state, int a24.operator]])]⟩) ?_ ?_
       ·rcases Bool.eq_false_or_eq_true (decide (a24.operator < 0)) with hb1 | hb1
        ·refine AWP.region (W.fieldAddr rfl rfl rfl rfl (.load rfl rfl rfl rfl rfl rfl (.lss rfl rfl rfl (.move rfl rfl (.guardF rfl rfl rfl hb1 (.guardF rfl rfl rfl hb1 (.guardF rfl rfl rfl hb1 (.guardF rfl rfl rfl hb1 (.guardF rfl rfl rfl hb1 (.guardF rfl rfl rfl hb1 (.pickT rfl hb1 rfl rfl (.assign rfl rfl (.nil (thn_normal ?_))))))))))))))
         simp only [and_t hb1, or_t hb1, Bool.false_or, Bool.true_or, Bool.false_and, Bool.true_and]
         exact Sub.env ⟨rfl, rfl, rfl, rfl, rfl, rfl, rfl, rfl, rfl, rfl, trivial⟩
        ·refine AWP.region (W.fieldAddr rfl rfl rfl rfl (.load rfl rfl rfl rfl rfl rfl (.lss rfl rfl rfl (.move rfl rfl (.guardT rfl rfl rfl hb1 (W.fieldAddr rfl rfl rfl rfl (.guardT rfl rfl rfl hb1 (.load rfl rfl rfl rfl rfl rfl (.guardT rfl rfl rfl hb1 (W.fieldAddr rfl rfl rfl rfl (.guardT rfl rfl rfl hb1 (.load rfl rfl rfl rfl rfl rfl ?_))))))))))))
         refine AOps.guardT rfl rfl rfl hb1 ?_; refine S.len rfl rfl (fun hl58 => ?_)
         refine AOps.guardT rfl rfl rfl hb1 (.geq rfl rfl rfl (.pickF rfl hb1 rfl rfl (.assign rfl rfl (.nil (thn_normal ?_)))))
         simp only [and_f hb1, or_f hb1, Bool.false_or, Bool.true_or, Bool.false_and, Bool.true_and]
         exact Sub.env ⟨rfl, rfl, rfl, rfl, rfl, rfl, rfl, rfl, rfl, rfl, trivial⟩
       ·refine AWP.iteB rfl hx7 (fun hc13 hx7 => ?_) (fun hc13 hx7 => ?_)
        ·refine AWP.region (.assign rfl rfl (.nil (inB_normal ?_)))
         have ej := Option.some.inj hx7
         subst ej
         refine thn_normal (Sub.cut ⟨rfl, rfl, rfl, rfl, rfl, rfl, rfl, rfl, trivial⟩ rfl ⟨.one rfl, .one rfl, trivial⟩ rfl)
        ·refine AWP.seq ?_
         obtain ⟨a67, ha67, hx7⟩ := bind_some hx7
         refine AWP.region (W.loadAgg rfl rfl rfl rfl rfl rfl rfl (W.fieldAddr rfl rfl rfl rfl (.load rfl rfl rfl rfl rfl rfl (W.fieldAddr rfl rfl rfl rfl (.load rfl rfl rfl rfl rfl rfl (.callR rfl rfl rfl rfl (open_Can_ok ha67) rfl (.not rfl rfl (.assign rfl rfl (.nil (thn_normal (.iteB rfl hx7 (fun hc14 hx7 => ?_) (fun hc14 hx7 => ?_))))))))))))
         ·refine AWP.region (.assign rfl rfl (.nil (inB_normal ?_)))
          have ej := Option.some.inj hx7
          subst ej
          refine thn_normal (Sub.cut ⟨rfl, rfl, rfl, rfl, rfl, rfl, rfl, rfl, trivial⟩ rfl ⟨.one rfl, .one rfl, trivial⟩ rfl)
         ·refine AWP.skip (inB_normal ?_)
          have ej := Option.some.inj hx7
          subst ej
          refine thn_normal (Sub.cut ⟨rfl, rfl, rfl, rfl, rfl, rfl, rfl, rfl, trivial⟩ rfl ⟨.one rfl, .one rfl, trivial⟩ rfl)
    ·refine AWP.seq (.region (.move rfl rfl (.neq rfl rfl rfl (.nil (thn_normal (.iteN rfl h (fun hc15 h => ?_) (fun hc15 h => ?_)))))))
     ·refine AWP.seq (.region (.move rfl rfl (.move rfl rfl (S.sub rfl rfl rfl (W.build rfl rfl rfl rfl (W.storeAgg rfl rfl rfl rfl rfl rfl rfl (.nil (thn_normal (.ret (inB_ret (thn_ret ?_)))))))))))
      have ej := Option.some.inj h
      subst ej
      refine thn_ret ⟨_, rfl, rfl, ?_⟩
      exact Done.ret rfl rfl
     ·refine AWP.skip (inB_normal (thn_normal (.region (.add rfl rfl rfl (by omega) (.move rfl rfl (.nil ?_))))))
      have ej := Option.some.inj h
      subst ej
      refine thn_normal ⟨_, rfl, ?_⟩
      exact Sub.env ⟨rfl, rfl, rfl, rfl, rfl, rfl, trivial⟩
   ·intro e s hq
    rcases oo with u | x
    ·try dsimp only at h hq
     obtain ⟨rfl, hs⟩ := hq
     refine ⟨_, hs, ?_⟩
     refine inB_exit (thn_normal (.seq (.region (W.build rfl rfl rfl rfl (W.storeAgg rfl rfl rfl rfl rfl rfl rfl (.nil (thn_normal (.ret ?_))))))))
     have ej := Option.some.inj h
     subst ej
     exact Done.ret rfl rfl
    ·try dsimp only at h hq
     obtain ⟨rfl, hs⟩ := hq
     refine ⟨_, Sub.refl _ _, ?_⟩
     refine inB_ret (thn_ret ?_)
     have ej := Option.some.inj h
     subst ej
     exact hs
theorem slices_BinarySearchFunc_api_Choice_api_Choice_int_ok {xv : List TChoice} {target : List Int} {cmp : TChoice → (List Int) → Option Int} {r : Int × Bool} {fvcmp : FuncId} {cvcmp : List C} (hcvcmp : C.okL 0 cvcmp = true) (hcmp : ∀ {y1 : TChoice} {y2 : List Int} {z : Int}, cmp y1 y2 = some z → PureOk Try.prog fvcmp ([.agg [row 1 intI y1.state, int y1.operator], .c (row 1 intI y2)] ++ cvcmp.map T.c) (.c (int z))) (h : slices_BinarySearchFunc_api_Choice_api_Choice_int xv target cmp = some r) : PureOk Try.prog 41 [.c (row 2 eTChoice xv), .c (row 1 intI target), .c (.fn fvcmp cvcmp)] (.tup [.c (int r.1), .c (bool r.2)]) := by
 unfold PureOk
 refine FnOk.enter (rs := [.t 6, .t 7]) Try.func41 rfl Try.ntmps41 Try.results41 rfl ⟨trivial, trivial, trivial⟩ (by kernel_rfl) rfl ?_
 unfold slices_BinarySearchFunc_api_Choice_api_Choice_int at h
 refine AWP.seq (.region (.assign rfl rfl (.assign rfl rfl (.nil (thn_normal (.seq (.region (.move rfl rfl (S.len rfl rfl (fun hl13 => .assign rfl rfl (.nil (thn_normal (.seq (.region (.move rfl rfl (.assign rfl rfl (.assign rfl rfl (.nil (thn_normal (.seq (.block ?_)))))))))))))))))))))
 obtain ⟨iv6, ho1, h⟩ := bind_some h
 refine AWP.loopS ho1 (fun (iv4, j5) => ⟨[(0, .c (row 2 eTChoice xv)), (1, .c (row 1 intI target)), (2, .c (.fn fvcmp cvcmp)), (8, .c (int (xv.length : Int))), (9, .c (int iv4)), (10, .c (int j5))], []⟩) (fun iv6 e st => e = .exit 0 ∧ Sub [] st ⟨[(0, .c (row 2 eTChoice xv)), (1, .c (row 1 intI target)), (2, .c (.fn fvcmp cvcmp)), (8, .c (int (xv.length : Int))), (9, .c (int iv6))], []⟩) ?_ ?_ ?_
 ·try dsimp only
  exact Sub.env ⟨rfl, rfl, rfl, rfl, rfl, rfl, trivial⟩
 ·intro s o h
  obtain ⟨iv4, j5⟩ := s
  unfold slices_BinarySearchFunc_api_Choice_api_Choice_int_l1 at h
  try dsimp only at h ⊢
  refine AWP.seq (.seq (.region (.move rfl rfl (.move rfl rfl (.lss rfl rfl rfl (.nil (thn_normal (.ite rfl h (fun hc7 h => ?_) (fun hc7 h => ?_)))))))))
  ·refine AWP.skip (thn_normal (.block (.seq (.region (.move rfl rfl (.move rfl rfl (S.add rfl rfl rfl (.convInt rfl rfl (.shr rfl rfl rfl (by decide) rfl (.convInt rfl rfl (.assign rfl rfl (.nil (thn_normal (.seq ?_))))))))))))))
   obtain ⟨a27, ha27, h⟩ := bind_some h
   obtain ⟨a30, ha30, h⟩ := bind_some h
   refine AWP.region (.move rfl rfl (.move rfl rfl (.move rfl rfl (S.idx ha27 rfl rfl rfl rfl (W.loadIAgg rfl rfl rfl rfl rfl (.move rfl rfl (.callR rfl rfl (okL_app rfl hcvcmp) rfl (hcmp ha30) rfl (.lss rfl rfl rfl (.nil (thn_normal (.ite rfl h (fun hc8 h => ?_) (fun hc8 h => ?_))))))))))))
   ·refine AWP.region (.move rfl rfl (S.add rfl rfl rfl (.assign rfl rfl (.nil (inB_normal ?_)))))
    have ej := Option.some.inj h
    subst ej
    refine thn_normal ⟨_, rfl, ?_⟩
    exact Sub.env ⟨rfl, rfl, rfl, rfl, rfl, rfl, trivial⟩
   ·refine AWP.region (.move rfl rfl (.assign rfl rfl (.nil (inB_normal ?_))))
    have ej := Option.some.inj h
    subst ej
    refine thn_normal ⟨_, rfl, ?_⟩
    exact Sub.env ⟨rfl, rfl, rfl, rfl, rfl, rfl, trivial⟩
  ·refine AWP.exit (thn_exit ?_)
   have ej := Option.some.inj h
   subst ej
   refine thn_exit ⟨_, rfl, rfl, ?_⟩
   exact Sub.env ⟨rfl, rfl, rfl, rfl, rfl, trivial⟩
 ·intro e s hq
  obtain ⟨rfl, hs⟩ := hq
  refine ⟨_, hs, ?_⟩
  refine inB_exit (thn_normal ?_)
  obtain ⟨t9, hx10, h⟩ := bind_some h
  refine AWP.seqJ (⟨[(6, .c (int iv6)), (7, .c (bool t9))], []⟩) ?_ ?_
  ·rcases Bool.eq_false_or_eq_true (decide (iv6 < (xv.length : Int))) with hb11 | hb11
   ·replace hx10 := iteDT hb11 hx10
    obtain ⟨a43, ha43, hx10⟩ := bind_some hx10
    obtain ⟨a46, ha46, hx10⟩ := bind_some hx10
    refine AWP.region (.move rfl rfl (.move rfl rfl (.move rfl rfl (.lss rfl rfl rfl (.move rfl rfl (.guardT rfl rfl rfl hb11 (.move rfl rfl (.guardT rfl rfl rfl hb11 (.move rfl rfl (.guardT rfl rfl rfl hb11 (.move rfl rfl (.guardT rfl rfl rfl hb11 (S.idx ha43 rfl rfl rfl rfl (.guardT rfl rfl rfl hb11 (W.loadIAgg rfl rfl rfl rfl rfl (.guardT rfl rfl rfl hb11 (.move rfl rfl (.guardT rfl rfl rfl hb11 (.callR rfl rfl (okL_app rfl hcvcmp) rfl (hcmp ha46) rfl (.guardT rfl rfl rfl hb11 (.eql rfl rfl rfl (.pickT rfl hb11 rfl rfl (.assign rfl rfl (.assign rfl rfl (.nil ?_)))))))))))))))))))))))))
    have ej := Option.some.inj hx10
    subst ej
    refine thn_normal (Sub.env ⟨rfl, rfl, trivial⟩)
   ·replace hx10 := iteDF hb11 hx10
    refine AWP.region (.move rfl rfl (.move rfl rfl (.move rfl rfl (.lss rfl rfl rfl (.move rfl rfl (.guardF rfl rfl rfl hb11 (.guardF rfl rfl rfl hb11 (.guardF rfl rfl rfl hb11 (.guardF rfl rfl rfl hb11 (.guardF rfl rfl rfl hb11 (.guardF rfl rfl rfl hb11 (.guardF rfl rfl rfl hb11 (.guardF rfl rfl rfl hb11 (.pickF rfl hb11 rfl rfl (.assign rfl rfl (.assign rfl rfl (.nil ?_)))))))))))))))))
    have ej := Option.some.inj hx10
    subst ej
    refine thn_normal (Sub.env ⟨rfl, rfl, trivial⟩)
  ·refine AWP.ret ?_
   have ej := Option.some.inj h
   subst ej
   exact Done.ret rfl rfl
theorem open_Chosen_1_ok {c : TChoice} {sv : List Int} {r : Int} (h : open_Chosen_1 c sv = some r) : PureOk Try.prog 42 [.agg [row 1 intI c.state, int c.operator], .c (row 1 intI sv)] (.c (int r)) := by
 unfold PureOk
 refine FnOk.enter (rs := [.t 4]) Try.func42 rfl Try.ntmps42 Try.results42 rfl ⟨trivial, trivial⟩ (by kernel_rfl) rfl ?_
 unfold open_Chosen_1 at h
 refine AWP.seq (.region (W.box rfl rfl rfl rfl rfl rfl (.assign rfl rfl (.nil (thn_normal (.seq ?_))))))
 obtain ⟨a8, ha8, h⟩ := bind_some h
 refine AWP.region (W.fieldAddr rfl rfl rfl rfl (.load rfl rfl rfl rfl rfl rfl (.move rfl rfl (.callR rfl rfl rfl rfl (slices_Compare_int_int_ok ha8) rfl (.assign rfl rfl (.nil (thn_normal (.ret ?_))))))))
 have ej := Option.some.inj h
 subst ej
 exact Done.ret rfl rfl
theorem open_Chosen_ok {policy : List TChoice} {sv : List Int} {r : Int} (h : open_Chosen policy sv = some r) : PureOk Try.prog 20 [.c (row 2 eTChoice policy), .c (row 1 intI sv)] (.c (int r)) := by
 unfold PureOk
 refine FnOk.enter (rs := [.t 4]) Try.func20 rfl Try.ntmps20 Try.results20 rfl ⟨trivial, trivial⟩ (by kernel_rfl) rfl ?_
 unfold open_Chosen at h
 refine AWP.seq (.region (.assign rfl rfl (.nil (thn_normal (.seq ?_)))))
 obtain ⟨a10, ha10, h⟩ := bind_some h
 refine AWP.region (.move rfl rfl (.move rfl rfl (.callR rfl rfl rfl rfl (slices_BinarySearchFunc_api_Choice_api_Choice_int_ok rfl (fun hy => open_Chosen_1_ok hy) ha10) rfl ?_)))
 refine AOps.move rfl rfl (.extract rfl rfl rfl (.extract rfl rfl rfl (.assign rfl rfl (.assign rfl rfl (.nil (thn_normal (.seq (.seq (.region (.move rfl rfl (.not rfl rfl (.nil (thn_normal (.iteB rfl h (fun hc3 h => ?_) (fun hc3 h => ?_)))))))))))))))
 ·refine AWP.seq (.region (.assign rfl rfl (.nil (thn_normal (.ret (thn_ret ?_))))))
  have ej := Option.some.inj h
  subst ej
  exact Done.ret rfl rfl
 ·refine AWP.skip (thn_normal (.seq ?_))
  obtain ⟨a17, ha17, h⟩ := bind_some h
  refine AWP.region (.move rfl rfl (.move rfl rfl (S.idx ha17 rfl rfl rfl rfl (W.fieldAddrI rfl rfl rfl rfl (.loadI rfl rfl rfl rfl (.assign rfl rfl (.nil (thn_normal (.ret ?_)))))))))
  have ej := Option.some.inj h
  subst ej
  exact Done.ret rfl rfl
theorem strips_Update_ok {sv : List Int} {add : List Int} {del : List Int} {r : (List Int)} (h : strips_Update sv add del = some r) : FreshOk Try.prog 22 [.c (row 1 intI sv), .c (row 1 intI add), .c (row 1 intI del)] 1 (List.map intI r) := by
 unfold FreshOk
 refine FnOk.enter (rs := [.t 6]) Try.func22 rfl Try.ntmps22 Try.results22 rfl ⟨trivial, trivial⟩ (by kernel_rfl) rfl ?_
 unfold strips_Update at h
 refine AWP.seq (.region (.assign rfl rfl (.nil (thn_normal (.seq (.region (.assign rfl rfl (.nil (thn_normal (.seq (.seq (.region (.move rfl rfl (S.len rfl rfl (fun hl13 => .move rfl rfl (.nil (thn_normal (.block (.virtV 1 intI 7 rfl rfl rfl ?_)))))))))))))))))))
 obtain ⟨c4, ho1, h⟩ := bind_some h
 refine AWP.forS ho1 (fun t5 c4 => ⟨[(1, .c (row 1 intI add)), (2, .c (row 1 intI del)), (7, .c (.own 0 0 c4.length)), (12, .c (row 1 intI sv)), (13, .c (int (sv.length : Int))), (14, .c (int t5))], [.one (vec 1 intI c4)]⟩) (fun c4 e st => e = .exit 0 ∧ Sub [] st ⟨[(1, .c (row 1 intI add)), (7, .c (.own 0 0 c4.length))], [.one (vec 1 intI c4)]⟩) ?_ ?_ ?_ ?_
 ·try dsimp only
  exact Sub.env ⟨rfl, rfl, (own_len (by first | rfl | simp only [List.length_set])), rfl, rfl, rfl, trivial⟩
 ·intro t5 c4 hlot5 hltt5 _
  try dsimp only
  refine AWP.seq (.region (.lss rfl rfl rfl (.nil (thn_normal (.seq (.condNP rfl hltt5 (.exit (thn_exit (thn_exit ⟨rfl, ?_⟩)))))))))
  exact Sub.env ⟨rfl, rfl, trivial⟩
 ·intro t5 c4 o hlot5 hltt5 h
  unfold strips_Update_l1 at h
  try dsimp only at h ⊢
  refine AWP.seq (.region (.lss rfl rfl rfl (.nil (thn_normal (.seq (.condP rfl hltt5 (.skip (thn_normal ?_))))))))
  obtain ⟨c6, hx7, h⟩ := bind_some h
  refine AWP.seqJ (⟨[(1, .c (row 1 intI add)), (2, .c (row 1 intI del)), (7, .c (.own 2 0 c6.length)), (12, .c (row 1 intI sv)), (13, .c (int (sv.length : Int))), (14, .c (int t5))], [.dead, .dead, .one (vec 1 intI c6)]⟩) ?_ ?_
  ·refine AWP.block (.seq ?_)
   obtain ⟨a16, ha16, hx7⟩ := bind_some hx7
   refine AWP.region (S.idx ha16 rfl rfl rfl rfl (.loadI rfl rfl rfl rfl (.assign rfl rfl (.nil (thn_normal (.seq ?_))))))
   obtain ⟨a21, ha21, hx7⟩ := bind_some hx7
   refine AWP.region (.move rfl rfl (.move rfl rfl (.callR rfl rfl rfl rfl (slices_BinarySearch_int_int_ok ha21) rfl (.move rfl rfl (.extract rfl rfl rfl (.extract rfl rfl rfl (.assign rfl rfl (.assign rfl rfl (.nil (thn_normal (.seq (.region (.move rfl rfl (.not rfl rfl (.nil (thn_normal (.iteB rfl hx7 (fun hc8 hx7 => ?_) (fun hc8 hx7 => ?_))))))))))))))))))
   ·obtain ⟨a29, ha29, hx7⟩ := bind_some hx7
    refine AWP.region (.move rfl rfl (.move rfl rfl (S.lit (f := intI) (l := [a16]) (ess := [[int a16]]) rfl rfl rfl rfl rfl rfl rfl ⟨⟨.inl rfl, trivial⟩, trivial⟩ rfl rfl rfl (S.append (f := intI) ha29 rfl rfl rfl rfl rfl rfl (.own rfl rfl) rfl rfl rfl rfl (.assign rfl rfl (.nil (inB_normal ?_)))))))
    have ej := Option.some.inj hx7
    subst ej
    refine thn_normal (Sub.cut ⟨rfl, rfl, rfl, rfl, rfl, rfl, trivial⟩ rfl ⟨.dead, .dead, .vec, trivial⟩ rfl)
   ·refine AWP.skip (inB_normal ?_)
    have ej := Option.some.inj hx7
    subst ej
    refine thn_normal ((Sub.move (env' := [(1, .c (row 1 intI add)), (2, .c (row 1 intI del)), (7, .c (.own 2 0 c4.length)), (12, .c (row 1 intI sv)), (13, .c (int (sv.length : Int))), (14, .c (int t5))]) (σ' := [.dead, .dead, .one (vec 1 intI c4)]) 2 0 rfl rfl rfl ⟨rfl, rfl, rfl, rfl, rfl, rfl, trivial⟩ rfl ⟨trivial, trivial, ⟨Blk.im_ok _ _ _, vec_mv rfl⟩, trivial⟩).trans (Sub.env ⟨rfl, rfl, rfl, rfl, rfl, rfl, trivial⟩))
  ·refine AWP.region (.add rfl rfl rfl (by omega) (.move rfl rfl (.nil ?_)))
   have ej := Option.some.inj h
   subst ej
   refine thn_normal ((Sub.move (env' := [(1, .c (row 1 intI add)), (2, .c (row 1 intI del)), (7, .c (.own 0 0 c6.length)), (12, .c (row 1 intI sv)), (13, .c (int (sv.length : Int))), (14, .c (int (t5 + 1)))]) (σ' := [.one (vec 1 intI c6), .dead]) 0 2 rfl rfl rfl ⟨rfl, rfl, rfl, rfl, rfl, rfl, trivial⟩ rfl ⟨⟨Blk.im_ok _ _ _, vec_mv rfl⟩, trivial, trivial⟩).trans (Sub.cut ⟨rfl, rfl, rfl, rfl, rfl, rfl, trivial⟩ rfl ⟨.vec, trivial⟩ rfl))
 ·intro e s hq
  obtain ⟨rfl, hs⟩ := hq
  refine ⟨_, hs, ?_⟩
  refine inB_exit (thn_normal (.seq ?_))
  obtain ⟨a33, ha33, h⟩ := bind_some h
  refine AWP.region (.move rfl rfl (.move rfl rfl (S.append (f := intI) ha33 rfl rfl rfl rfl rfl rfl .row rfl rfl rfl rfl (.assign rfl rfl (.nil (thn_normal (.seq (.move (env' := [(7, .c (.own 0 0 a33.length))]) (σ' := [.one (vec 1 intI a33)]) 0 1 rfl rfl rfl ⟨rfl, trivial⟩ rfl ⟨⟨Blk.im_ok _ _ _, vec_mv rfl⟩, trivial⟩ ?_))))))))
  obtain ⟨a35, ha35, h⟩ := bind_some h
  refine AWP.region (.move rfl rfl (S.sort ha35 sortL_ok rfl rfl rfl rfl rfl rfl (.nil (thn_normal (.seq (.region (.move rfl rfl (S.compact compactL_ok rfl rfl (sortL_len ha35) rfl rfl rfl rfl rfl (.assign rfl rfl (.nil (thn_normal (.ret ?_))))))))))))
  have ej := Option.some.inj h
  subst ej
  exact Done.ret rfl (Fresh.mk rfl rfl)
theorem open_Follow_ok {ov : TOpenTask} {policy : List TChoice} {outcomes : List Int} {r : (List (List Int)) × TFault} (h : open_Follow ov policy outcomes = some r) : PureOk Try.prog 6 [.agg [int ov.facts, row 1 intI ov.init, row 1 intI ov.goal, row 3 eTOpenOperator ov.operators], .c (row 2 eTChoice policy), .c (row 1 intI outcomes)] (.tup [.c (row 1 eLi64 r.1), .agg [int r.2.code, int r.2.index]]) := by
 unfold PureOk
 refine FnOk.enter (rs := [.t 6, .cell 7 29 2]) Try.func6 rfl Try.ntmps6 Try.results6 rfl ⟨trivial, rv _ rfl, trivial⟩ (by kernel_rfl) rfl ?_
 unfold open_Follow at h
 refine AWP.seq (.region (W.box rfl rfl rfl rfl rfl rfl (.assign rfl rfl (W.alloc rfl rfl rfl rfl (.nil (thn_normal (.seq (.seq ?_))))))))
 obtain ⟨a17, ha17, h⟩ := bind_some h
 refine AWP.region (W.loadAgg rfl rfl rfl rfl rfl rfl rfl (.move rfl rfl (.callR rfl rfl rfl rfl (open_ValidatePolicy_ok ha17) rfl (W.alloc rfl rfl rfl rfl (W.storeAgg rfl rfl rfl rfl rfl rfl rfl (.nil (thn_normal (.seq (.region (W.loadAgg rfl rfl rfl rfl rfl rfl rfl (W.build rfl rfl rfl rfl (.neqP rfl rfl rfl rfl rfl rfl rfl (.nil (thn_normal (.iteB rfl h (fun hc4 h => ?_) (fun hc4 h => ?_))))))))))))))))
 ·refine AWP.seq (.drawEI [2] mixed rfl rfl rfl ?_)
  apply DrawSeqE.consN; exact rfl; exact rfl; intro E
  refine W.loadAgg rfl rfl rfl rfl rfl rfl rfl (.nil ⟨rfl, rfl⟩)
  exact rfl
  apply DrawSeqE.consN; exact rfl; exact rfl; intro E
  refine AOps.assign rfl rfl (.nil ⟨rfl, rfl⟩)
  exact rfl
  apply DrawSeqE.consE (v := .undef); exact rfl; exact rfl; intro E
  refine W.storeAgg rfl rfl rfl rfl rfl rfl rfl (.nil ⟨rfl, rfl⟩)
  exact rfl
  exact rfl
  refine DrawSeqE.done rfl ?_ ?_
  ·apply RestI.cons; exact rfl; exact rfl
   first | refine RestK.skip rfl ?_ | (apply RestK.go; exact rfl; exact rfl; intro E; (refine W.loadAgg rfl rfl rfl rfl rfl rfl rfl ?_); exact AOps.nil ⟨rfl, rfl⟩)
   first | refine RestK.skip rfl ?_ | (apply RestK.go; exact rfl; exact rfl; intro E; (refine W.loadAgg rfl rfl rfl rfl rfl rfl rfl ?_); exact AOps.nil ⟨rfl, rfl⟩)
   exact RestK.nil
   apply RestI.cons; exact rfl; exact rfl
   first | refine RestK.skip rfl ?_ | (apply RestK.go; exact rfl; exact rfl; intro E; (refine AOps.assign rfl rfl ?_); exact AOps.nil ⟨rfl, rfl⟩)
   first | refine RestK.skip rfl ?_ | (apply RestK.go; exact rfl; exact rfl; intro E; (refine AOps.assign rfl rfl ?_); exact AOps.nil ⟨rfl, rfl⟩)
   exact RestK.nil
   refine RestI.skip rfl (RestI.nil)
  dsimp only [envEnd]
  refine thn_normal (.nilrow 1 6 rfl (.ret (thn_ret ?_)))
  have ej := Option.some.inj h
  subst ej
  exact Done.ret rfl rfl
 ·refine AWP.skip (thn_normal (.seq (.seq (.region (.move rfl rfl (S.len rfl rfl (fun hl23 => .gtr rfl rfl rfl (.nil (thn_normal (.ite rfl h (fun hc5 h => ?_) (fun hc5 h => ?_)))))))))))
  ·refine AWP.seq (.region (W.build rfl rfl rfl rfl (.assign rfl rfl (W.storeAgg rfl rfl rfl rfl rfl rfl rfl (.nil (thn_normal (.nilrow 1 6 rfl (.ret (thn_ret ?_)))))))))
   have ej := Option.some.inj h
   subst ej
   exact Done.ret rfl rfl
  ·refine AWP.skip (thn_normal (.seq ?_))
   obtain ⟨a28, ha28, h⟩ := bind_some h
   refine AWP.region (W.fieldAddr rfl rfl rfl rfl (.load rfl rfl rfl rfl rfl rfl (S.fresh rfl rfl rfl rfl (slices_Clone_int_int_ok ha28) rfl rfl (.assign rfl rfl (.nil (thn_normal (.seq ?_)))))))
   obtain ⟨a30, ha30, h⟩ := bind_some h
   refine AWP.region (.move rfl rfl (.frzV (id := 3) (l := a28) (env2 := [(1, .c (row 2 eTChoice policy)), (2, .c (row 1 intI outcomes)), (3, .c (.ptr 0 0 0)), (7, .c (.ptr 1 0 0)), (9, .c (row 1 intI a28)), (29, .c (row 1 intI a28))]) (σ2 := [.one (.cells 4 [[int ov.facts, row 1 intI ov.init, row 1 intI ov.goal, row 3 eTOpenOperator ov.operators]]), .one (.cells 2 [[int 0, int 0]]), .one (.cells 2 [[int a17.code, int a17.index]]), .dead]) rfl rfl (by exact ⟨⟨_, rfl, .inl ⟨rfl, rfl⟩⟩, ⟨_, rfl, .inl ⟨rfl, rfl⟩⟩, ⟨_, rfl, .inl ⟨rfl, rfl⟩⟩, ⟨_, rfl, .inl ⟨rfl, rfl⟩⟩, ⟨_, rfl, .inr ⟨_, rfl, rfl, rfl⟩⟩, ⟨_, rfl, .inr ⟨_, rfl, rfl, rfl⟩⟩, trivial⟩) rfl (by exact ⟨⟨rfl, .inl ⟨rfl, rfl⟩, .inl ⟨rfl, rfl⟩, .inl ⟨rfl, rfl⟩, .inl ⟨rfl, rfl⟩, trivial⟩, ⟨rfl, .inl ⟨rfl, rfl⟩, .inl ⟨rfl, rfl⟩, trivial⟩, ⟨rfl, .inl ⟨rfl, rfl⟩, .inl ⟨rfl, rfl⟩, trivial⟩, trivial, trivial⟩) (S.fresh rfl rfl rfl rfl (slices_Clone_int_int_ok ha30) rfl rfl (.frzV (id := 4) (l := a30) (env2 := [(1, .c (row 2 eTChoice policy)), (2, .c (row 1 intI outcomes)), (3, .c (.ptr 0 0 0)), (7, .c (.ptr 1 0 0)), (9, .c (row 1 intI a28)), (30, .c (row 1 intI a30))]) (σ2 := [.one (.cells 4 [[int ov.facts, row 1 intI ov.init, row 1 intI ov.goal, row 3 eTOpenOperator ov.operators]]), .one (.cells 2 [[int 0, int 0]]), .one (.cells 2 [[int a17.code, int a17.index]]), .dead, .dead]) rfl rfl (by exact ⟨⟨_, rfl, .inl ⟨rfl, rfl⟩⟩, ⟨_, rfl, .inl ⟨rfl, rfl⟩⟩, ⟨_, rfl, .inl ⟨rfl, rfl⟩⟩, ⟨_, rfl, .inl ⟨rfl, rfl⟩⟩, ⟨_, rfl, .inl ⟨rfl, rfl⟩⟩, ⟨_, rfl, .inr ⟨_, rfl, rfl, rfl⟩⟩, trivial⟩) rfl (by exact ⟨⟨rfl, .inl ⟨rfl, rfl⟩, .inl ⟨rfl, rfl⟩, .inl ⟨rfl, rfl⟩, .inl ⟨rfl, rfl⟩, trivial⟩, ⟨rfl, .inl ⟨rfl, rfl⟩, .inl ⟨rfl, rfl⟩, trivial⟩, ⟨rfl, .inl ⟨rfl, rfl⟩, .inl ⟨rfl, rfl⟩, trivial⟩, trivial, trivial, trivial⟩) (S.lit (f := eLi64) (l := [a30]) (ess := [[row 1 intI a30]]) rfl rfl rfl rfl rfl rfl rfl ⟨⟨.inl rfl, trivial⟩, trivial⟩ rfl rfl rfl (.assign rfl rfl (.nil (thn_normal (.seq (.seq (.region (.move rfl rfl (S.len rfl rfl (fun hl33 => .move rfl rfl (.nil (thn_normal (.block ?_)))))))))))))))))
   obtain ⟨oo, ho1, h⟩ := bind_some h
   refine AWP.loopS ho1 (fun (c6, sv7, t8) => ⟨[(1, .c (row 2 eTChoice policy)), (3, .c (.ptr 0 0 0)), (7, .c (.ptr 1 0 0)), (9, .c (row 1 intI sv7)), (10, .c (.own 5 0 c6.length)), (32, .c (row 1 intI outcomes)), (33, .c (int (outcomes.length : Int))), (34, .c (int t8))], [.one (.cells 4 [[int ov.facts, row 1 intI ov.init, row 1 intI ov.goal, row 3 eTOpenOperator ov.operators]]), .one (.cells 2 [[int 0, int 0]]), .dead, .dead, .dead, .one (vec 1 eLi64 c6)]⟩) (fun o e st => match o with | .inl c9 => e = .exit 0 ∧ Sub [] st ⟨[(7, .c (.ptr 1 0 0)), (10, .c (.own 5 0 c9.length))], [.dead, .one (.cells 2 [[int 0, int 0]]), .dead, .dead, .dead, .one (vec 1 eLi64 c9)]⟩ | .inr x => e = .ret ∧ Done [.t 6, .cell 7 29 2] (fun t _ => t = .tup [.c (row 1 eLi64 x.1), .agg [int x.2.code, int x.2.index]]) .ret st) ?_ ?_ ?_
   ·try dsimp only
    exact Sub.cut ⟨rfl, rfl, rfl, rfl, rfl, rfl, rfl, rfl, trivial⟩ rfl ⟨.one rfl, .one rfl, .dead, .dead, .dead, .vec, trivial⟩ rfl
   ·intro s o h
    obtain ⟨c6, sv7, t8⟩ := s
    unfold open_Follow_l1 at h
    try dsimp only at h ⊢
    refine AWP.seq (.region (.lss rfl rfl rfl (.nil (thn_normal (.seq (.ite rfl h (fun hc10 h => ?_) (fun hc10 h => ?_)))))))
    ·refine AWP.skip (thn_normal (.seq (.block (.seq ?_))))
     obtain ⟨a37, ha37, h⟩ := bind_some h
     refine AWP.region (.move rfl rfl (S.idx ha37 rfl rfl rfl rfl (.loadI rfl rfl rfl rfl (.assign rfl rfl (.assign rfl rfl (.nil (thn_normal (.seq ?_))))))))
     obtain ⟨a41, ha41, h⟩ := bind_some h
     refine AWP.region (.move rfl rfl (.move rfl rfl (.callR rfl rfl rfl rfl (open_Chosen_ok ha41) rfl (.assign rfl rfl (.nil (thn_normal (.seq ?_)))))))
     obtain ⟨t11, hx12, h⟩ := bind_some h
     refine AWP.seqJ (⟨[(1, .c (row 2 eTChoice policy)), (3, .c (.ptr 0 0 0)), (7, .c (.ptr 1 0 0)), (9, .c (row 1 intI sv7)), (10, .c (.own 5 0 c6.length)), (11, .c (int t8)), (12, .c (int a37)), (13, .c (int a41)), (32, .c (row 1 intI outcomes)), (33, .c (int (outcomes.length : Int))), (34, .c (int t8)), (49, .c (bool t11))], [.one (.cells 4 [[int ov.facts, row 1 intI ov.init, row 1 intI ov.goal, row 3 eTOpenOperator ov.operators]]), .one (.cells 2 [[int 0, int 0]]), .dead, .dead, .dead, .one (vec 1 eLi64 c6)]⟩) ?_ ?_
     ·rcases Bool.eq_false_or_eq_true (decide (a41 < 0)) with hb13 | hb13
      ·replace hx12 := iteDT hb13 hx12
       refine AWP.region (.move rfl rfl (.lss rfl rfl rfl (.move rfl rfl (.guardF rfl rfl rfl hb13 (.guardF rfl rfl rfl hb13 (.guardF rfl rfl rfl hb13 (.guardF rfl rfl rfl hb13 (.pickT rfl hb13 rfl rfl (.nil ?_)))))))))
       have ej := Option.some.inj hx12
       subst ej
       refine thn_normal (Sub.env ⟨rfl, rfl, rfl, rfl, rfl, rfl, rfl, rfl, rfl, rfl, rfl, rfl, trivial⟩)
      ·replace hx12 := iteDF hb13 hx12
       obtain ⟨a48, ha48, hx12⟩ := bind_some hx12
       refine AWP.region (.move rfl rfl (.lss rfl rfl rfl (.move rfl rfl (.guardT rfl rfl rfl hb13 (.move rfl rfl (.guardT rfl rfl rfl hb13 (W.fieldAddr rfl rfl rfl rfl (.guardT rfl rfl rfl hb13 (.load rfl rfl rfl rfl rfl rfl (.guardT rfl rfl rfl hb13 (.callR rfl rfl rfl rfl (strips_Contains_ok ha48) rfl (.pickF rfl hb13 rfl rfl (.nil ?_)))))))))))))
       have ej := Option.some.inj hx12
       subst ej
       refine thn_normal (Sub.env ⟨rfl, rfl, rfl, rfl, rfl, rfl, rfl, rfl, rfl, rfl, rfl, rfl, trivial⟩)
     ·refine AWP.iteB rfl h (fun hc14 h => ?_) (fun hc14 h => ?_)
      ·refine AWP.exit (thn_exit (inB_exit_ne rfl (thn_exit ?_)))
       have ej := Option.some.inj h
       subst ej
       refine thn_exit ⟨_, rfl, rfl, ?_⟩
       exact Sub.cut ⟨rfl, rfl, trivial⟩ rfl ⟨.dead, .one rfl, .dead, .dead, .dead, .vec, trivial⟩ rfl
      ·refine AWP.skip (thn_normal (.seq ?_))
       obtain ⟨a53, ha53, h⟩ := bind_some h
       refine AWP.region (W.fieldAddr rfl rfl rfl rfl (.load rfl rfl rfl rfl rfl rfl (.move rfl rfl (S.idx ha53 rfl rfl rfl rfl (W.fieldAddrI rfl rfl rfl rfl (.loadI rfl rfl rfl rfl (.assign rfl rfl (.nil (thn_normal (.seq (.seqJ (⟨[(1, .c (row 2 eTChoice policy)), (3, .c (.ptr 0 0 0)), (7, .c (.ptr 1 0 0)), (9, .c (row 1 intI sv7)), (10, .c (.own 5 0 c6.length)), (11, .c (int t8)), (12, .c (int a37)), (14, .c (row 3 eTOutcome a53.outcomes)), (32, .c (row 1 intI outcomes)), (33, .c (int (outcomes.length : Int))), (34, .c (int t8)), (63, .c (bool ((decide (a37 < 0)) || (decide ((a53.outcomes.length : Int) ≤ a37)))))], [.one (.cells 4 [[int ov.facts, row 1 intI ov.init, row 1 intI ov.goal, row 3 eTOpenOperator ov.operators]]), .one (.cells 2 [[int 0, int 0]]), .dead, .dead, .dead, .one (vec 1 eLi64 c6)]⟩) ?_ ?_)))))))))))
       ·rcases Bool.eq_false_or_eq_true (decide (a37 < 0)) with hb1 | hb1
        ·refine AWP.region (.move rfl rfl (.lss rfl rfl rfl (.move rfl rfl (.guardF rfl rfl rfl hb1 (.guardF rfl rfl rfl hb1 (.guardF rfl rfl rfl hb1 (.guardF rfl rfl rfl hb1 (.pickT rfl hb1 rfl rfl (.nil (thn_normal ?_))))))))))
         simp only [and_t hb1, or_t hb1, Bool.false_or, Bool.true_or, Bool.false_and, Bool.true_and]
         exact Sub.env ⟨rfl, rfl, rfl, rfl, rfl, rfl, rfl, rfl, rfl, rfl, rfl, rfl, trivial⟩
        ·refine AWP.region (.move rfl rfl (.lss rfl rfl rfl (.move rfl rfl (.guardT rfl rfl rfl hb1 (.move rfl rfl (.guardT rfl rfl rfl hb1 (.move rfl rfl ?_)))))))
         refine AOps.guardT rfl rfl rfl hb1 ?_; refine S.len rfl rfl (fun hl61 => ?_)
         refine AOps.guardT rfl rfl rfl hb1 (.geq rfl rfl rfl (.pickF rfl hb1 rfl rfl (.nil (thn_normal ?_))))
         simp only [and_f hb1, or_f hb1, Bool.false_or, Bool.true_or, Bool.false_and, Bool.true_and]
         exact Sub.env ⟨rfl, rfl, rfl, rfl, rfl, rfl, rfl, rfl, rfl, rfl, rfl, rfl, trivial⟩
       ·refine AWP.iteB rfl h (fun hc15 h => ?_) (fun hc15 h => ?_)
        ·refine AWP.seq (.region (.move rfl rfl (W.build rfl rfl rfl rfl (.assign rfl rfl (W.storeAgg rfl rfl rfl rfl rfl rfl rfl (.nil (thn_normal (.nilrow 1 6 rfl (.ret (thn_ret (inB_ret (thn_ret ?_))))))))))))
         have ej := Option.some.inj h
         subst ej
         refine thn_ret ⟨_, rfl, rfl, ?_⟩
         exact Done.ret rfl rfl
        ·refine AWP.skip (thn_normal (.seq ?_))
         obtain ⟨a69, ha69, h⟩ := bind_some h
         obtain ⟨a74, ha74, h⟩ := bind_some h
         obtain ⟨a77, ha77, h⟩ := bind_some h
         refine AWP.drawEI [11] mixed rfl rfl rfl ?_
         apply DrawSeqE.consN; exact rfl; exact rfl; intro E
         refine AOps.move rfl rfl (.nil ⟨rfl, rfl⟩)
         exact rfl
         apply DrawSeqE.consN; exact rfl; exact rfl; intro E
         refine AOps.move rfl rfl (.nil ⟨rfl, rfl⟩)
         exact rfl
         apply DrawSeqE.consN; exact rfl; exact rfl; intro E
         refine AOps.move rfl rfl (.nil ⟨rfl, rfl⟩)
         exact rfl
         apply DrawSeqE.consN; exact rfl; exact rfl; intro E
         refine S.idx ha69 rfl rfl rfl rfl (.nil ⟨rfl, rfl⟩)
         exact rfl
         apply DrawSeqE.consN; exact rfl; exact rfl; intro E
         refine W.fieldAddrI rfl rfl rfl rfl (.nil ⟨rfl, rfl⟩)
         exact rfl
         apply DrawSeqE.consN; exact rfl; exact rfl; intro E
         refine AOps.loadI rfl rfl rfl rfl (.nil ⟨rfl, rfl⟩)
         exact rfl
         apply DrawSeqE.consN; exact rfl; exact rfl; intro E
         refine AOps.move rfl rfl (.nil ⟨rfl, rfl⟩)
         exact rfl
         apply DrawSeqE.consN; exact rfl; exact rfl; intro E
         refine AOps.move rfl rfl (.nil ⟨rfl, rfl⟩)
         exact rfl
         apply DrawSeqE.consN; exact rfl; exact rfl; intro E
         refine S.idx ha74 rfl rfl rfl rfl (.nil ⟨rfl, rfl⟩)
         exact rfl
         apply DrawSeqE.consN; exact rfl; exact rfl; intro E
         refine W.fieldAddrI rfl rfl rfl rfl (.nil ⟨rfl, rfl⟩)
         exact rfl
         apply DrawSeqE.consN; exact rfl; exact rfl; intro E
         refine AOps.loadI rfl rfl rfl rfl (.nil ⟨rfl, rfl⟩)
         exact rfl
         apply DrawSeqE.consE; exact rfl; exact rfl; intro E
         refine S.fresh rfl rfl rfl rfl (strips_Update_ok ha77) rfl rfl (.nil ⟨rfl, rfl⟩)
         exact rfl
         exact rfl
         apply DrawSeqE.consN; exact rfl; exact rfl; intro E
         refine AOps.assign rfl rfl (.nil ⟨rfl, rfl⟩)
         exact rfl
         refine DrawSeqE.done rfl ?_ ?_
         ·apply RestI.cons; exact rfl; exact rfl
          first | refine RestK.skip rfl ?_ | (apply RestK.go; exact rfl; exact rfl; intro E; (refine AOps.move rfl rfl ?_); exact AOps.nil ⟨rfl, rfl⟩)
          first | refine RestK.skip rfl ?_ | (apply RestK.go; exact rfl; exact rfl; intro E; (refine AOps.move rfl rfl ?_); exact AOps.nil ⟨rfl, rfl⟩)
          exact RestK.nil
          apply RestI.cons; exact rfl; exact rfl
          first | refine RestK.skip rfl ?_ | (apply RestK.go; exact rfl; exact rfl; intro E; (refine AOps.move rfl rfl ?_); exact AOps.nil ⟨rfl, rfl⟩)
          first | refine RestK.skip rfl ?_ | (apply RestK.go; exact rfl; exact rfl; intro E; (refine AOps.move rfl rfl ?_); exact AOps.nil ⟨rfl, rfl⟩)
          exact RestK.nil
          apply RestI.cons; exact rfl; exact rfl
          first | refine RestK.skip rfl ?_ | (apply RestK.go; exact rfl; exact rfl; intro E; (refine AOps.move rfl rfl ?_); exact AOps.nil ⟨rfl, rfl⟩)
          first | refine RestK.skip rfl ?_ | (apply RestK.go; exact rfl; exact rfl; intro E; (refine AOps.move rfl rfl ?_); exact AOps.nil ⟨rfl, rfl⟩)
          exact RestK.nil
          apply RestI.cons; exact rfl; exact rfl
          first | refine RestK.skip rfl ?_ | (apply RestK.go; exact rfl; exact rfl; intro E; (refine S.idx ha69 rfl rfl rfl rfl ?_); exact AOps.nil ⟨rfl, rfl⟩)
          first | refine RestK.skip rfl ?_ | (apply RestK.go; exact rfl; exact rfl; intro E; (refine S.idx ha69 rfl rfl rfl rfl ?_); exact AOps.nil ⟨rfl, rfl⟩)
          exact RestK.nil
          apply RestI.cons; exact rfl; exact rfl
          first | refine RestK.skip rfl ?_ | (apply RestK.go; exact rfl; exact rfl; intro E; (refine W.fieldAddrI rfl rfl rfl rfl ?_); exact AOps.nil ⟨rfl, rfl⟩)
          first | refine RestK.skip rfl ?_ | (apply RestK.go; exact rfl; exact rfl; intro E; (refine W.fieldAddrI rfl rfl rfl rfl ?_); exact AOps.nil ⟨rfl, rfl⟩)
          exact RestK.nil
          apply RestI.cons; exact rfl; exact rfl
          first | refine RestK.skip rfl ?_ | (apply RestK.go; exact rfl; exact rfl; intro E; (refine AOps.loadI rfl rfl rfl rfl ?_); exact AOps.nil ⟨rfl, rfl⟩)
          first | refine RestK.skip rfl ?_ | (apply RestK.go; exact rfl; exact rfl; intro E; (refine AOps.loadI rfl rfl rfl rfl ?_); exact AOps.nil ⟨rfl, rfl⟩)
          exact RestK.nil
          apply RestI.cons; exact rfl; exact rfl
          first | refine RestK.skip rfl ?_ | (apply RestK.go; exact rfl; exact rfl; intro E; (refine AOps.move rfl rfl ?_); exact AOps.nil ⟨rfl, rfl⟩)
          first | refine RestK.skip rfl ?_ | (apply RestK.go; exact rfl; exact rfl; intro E; (refine AOps.move rfl rfl ?_); exact AOps.nil ⟨rfl, rfl⟩)
          exact RestK.nil
          apply RestI.cons; exact rfl; exact rfl
          first | refine RestK.skip rfl ?_ | (apply RestK.go; exact rfl; exact rfl; intro E; (refine AOps.move rfl rfl ?_); exact AOps.nil ⟨rfl, rfl⟩)
          first | refine RestK.skip rfl ?_ | (apply RestK.go; exact rfl; exact rfl; intro E; (refine AOps.move rfl rfl ?_); exact AOps.nil ⟨rfl, rfl⟩)
          exact RestK.nil
          apply RestI.cons; exact rfl; exact rfl
          first | refine RestK.skip rfl ?_ | (apply RestK.go; exact rfl; exact rfl; intro E; (refine S.idx ha74 rfl rfl rfl rfl ?_); exact AOps.nil ⟨rfl, rfl⟩)
          first | refine RestK.skip rfl ?_ | (apply RestK.go; exact rfl; exact rfl; intro E; (refine S.idx ha74 rfl rfl rfl rfl ?_); exact AOps.nil ⟨rfl, rfl⟩)
          exact RestK.nil
          apply RestI.cons; exact rfl; exact rfl
          first | refine RestK.skip rfl ?_ | (apply RestK.go; exact rfl; exact rfl; intro E; (refine W.fieldAddrI rfl rfl rfl rfl ?_); exact AOps.nil ⟨rfl, rfl⟩)
          first | refine RestK.skip rfl ?_ | (apply RestK.go; exact rfl; exact rfl; intro E; (refine W.fieldAddrI rfl rfl rfl rfl ?_); exact AOps.nil ⟨rfl, rfl⟩)
          exact RestK.nil
          apply RestI.cons; exact rfl; exact rfl
          first | refine RestK.skip rfl ?_ | (apply RestK.go; exact rfl; exact rfl; intro E; (refine AOps.loadI rfl rfl rfl rfl ?_); exact AOps.nil ⟨rfl, rfl⟩)
          first | refine RestK.skip rfl ?_ | (apply RestK.go; exact rfl; exact rfl; intro E; (refine AOps.loadI rfl rfl rfl rfl ?_); exact AOps.nil ⟨rfl, rfl⟩)
          exact RestK.nil
          refine RestI.skip rfl ?_
          apply RestI.cons; exact rfl; exact rfl
          first | refine RestK.skip rfl ?_ | (apply RestK.go; exact rfl; exact rfl; intro E; (refine AOps.assign rfl rfl ?_); exact AOps.nil ⟨rfl, rfl⟩)
          first | refine RestK.skip rfl ?_ | (apply RestK.go; exact rfl; exact rfl; intro E; (refine AOps.assign rfl rfl ?_); exact AOps.nil ⟨rfl, rfl⟩)
          exact RestK.nil
          exact RestI.nil
         dsimp only [envEnd]
         refine thn_normal ?_
         obtain ⟨a81, ha81, h⟩ := bind_some h
         refine AWP.region (.move rfl rfl (.move rfl rfl (.frzV (id := 6) (l := a77) (env2 := [(1, .c (row 2 eTChoice policy)), (3, .c (.ptr 0 0 0)), (7, .c (.ptr 1 0 0)), (9, .c (row 1 intI a77)), (32, .c (row 1 intI outcomes)), (33, .c (int (outcomes.length : Int))), (34, .c (int t8)), (78, .c (.own 5 0 c6.length)), (79, .c (row 1 intI a77))]) (σ2 := [.one (.cells 4 [[int ov.facts, row 1 intI ov.init, row 1 intI ov.goal, row 3 eTOpenOperator ov.operators]]), .one (.cells 2 [[int 0, int 0]]), .dead, .dead, .dead, .one (vec 1 eLi64 c6), .dead]) rfl rfl (by exact ⟨⟨_, rfl, .inl ⟨rfl, rfl⟩⟩, ⟨_, rfl, .inl ⟨rfl, rfl⟩⟩, ⟨_, rfl, .inl ⟨rfl, rfl⟩⟩, ⟨_, rfl, .inr ⟨_, rfl, rfl, rfl⟩⟩, ⟨_, rfl, .inl ⟨rfl, rfl⟩⟩, ⟨_, rfl, .inl ⟨rfl, rfl⟩⟩, ⟨_, rfl, .inl ⟨rfl, rfl⟩⟩, ⟨_, rfl, .inl ⟨rfl, rfl⟩⟩, ⟨_, rfl, .inr ⟨_, rfl, rfl, rfl⟩⟩, trivial⟩) rfl (by exact ⟨⟨rfl, .inl ⟨rfl, rfl⟩, .inl ⟨rfl, rfl⟩, .inl ⟨rfl, rfl⟩, .inl ⟨rfl, rfl⟩, trivial⟩, ⟨rfl, .inl ⟨rfl, rfl⟩, .inl ⟨rfl, rfl⟩, trivial⟩, trivial, trivial, trivial, FrzB.vec, trivial, trivial⟩) (S.lit (f := eLi64) (l := [a77]) (ess := [[row 1 intI a77]]) rfl rfl rfl rfl rfl rfl rfl ⟨⟨.inl rfl, trivial⟩, trivial⟩ rfl rfl rfl (S.append (f := eLi64) ha81 rfl rfl rfl rfl rfl rfl (.own rfl rfl) rfl rfl rfl rfl (.assign rfl rfl (.nil (inB_normal (thn_normal (.move (env' := [(1, .c (row 2 eTChoice policy)), (3, .c (.ptr 0 0 0)), (7, .c (.ptr 1 0 0)), (9, .c (row 1 intI a77)), (10, .c (.own 5 0 a81.length)), (32, .c (row 1 intI outcomes)), (33, .c (int (outcomes.length : Int))), (34, .c (int t8))]) (σ' := [.one (.cells 4 [[int ov.facts, row 1 intI ov.init, row 1 intI ov.goal, row 3 eTOpenOperator ov.operators]]), .one (.cells 2 [[int 0, int 0]]), .dead, .dead, .dead, .one (vec 1 eLi64 a81), .dead, .one (vec 1 eLi64 [a77])]) 5 8 rfl rfl rfl ⟨rfl, rfl, rfl, rfl, rfl, rfl, rfl, rfl, trivial⟩ rfl ⟨⟨rfl, rfl⟩, ⟨rfl, rfl⟩, trivial, trivial, trivial, ⟨Blk.im_ok _ _ _, vec_mv rfl⟩, trivial, ⟨Blk.im_ok _ _ _, vec_mv rfl⟩, trivial⟩ (.region (S.add rfl rfl rfl (.move rfl rfl (.nil ?_))))))))))))))
         have ej := Option.some.inj h
         subst ej
         refine thn_normal ⟨_, rfl, ?_⟩
         exact Sub.cut ⟨rfl, rfl, rfl, rfl, rfl, rfl, rfl, rfl, trivial⟩ rfl ⟨.one rfl, .one rfl, .dead, .dead, .dead, .vec, trivial⟩ rfl
    ·refine AWP.exit (thn_exit ?_)
     have ej := Option.some.inj h
     subst ej
     refine thn_exit ⟨_, rfl, rfl, ?_⟩
     exact Sub.cut ⟨rfl, rfl, trivial⟩ rfl ⟨.dead, .one rfl, .dead, .dead, .dead, .vec, trivial⟩ rfl
   ·intro e s hq
    rcases oo with c9 | x
    ·try dsimp only at h hq
     obtain ⟨rfl, hs⟩ := hq
     refine ⟨_, hs, ?_⟩
     refine inB_exit (thn_normal (.seq (.region (.move rfl rfl (W.build rfl rfl rfl rfl (.assign rfl rfl (W.storeAgg rfl rfl rfl rfl rfl rfl rfl (.nil (thn_normal (.frzV (id := 5) (l := c9) (env2 := [(6, .c (row 1 eLi64 c9)), (7, .c (.ptr 1 0 0))]) (σ2 := [.dead, .one (.cells 2 [[int 0, int 0]]), .dead, .dead, .dead, .dead]) rfl rfl (by exact ⟨⟨_, rfl, .inr ⟨_, rfl, rfl, rfl⟩⟩, ⟨_, rfl, .inl ⟨rfl, rfl⟩⟩, trivial⟩) rfl (by exact ⟨trivial, ⟨rfl, .inl ⟨rfl, rfl⟩, .inl ⟨rfl, rfl⟩, trivial⟩, trivial, trivial, trivial, trivial, trivial⟩) (.ret ?_)))))))))))
     have ej := Option.some.inj h
     subst ej
     exact Done.ret rfl rfl
    ·try dsimp only at h hq
     obtain ⟨rfl, hs⟩ := hq
     refine ⟨_, Sub.refl _ _, ?_⟩
     refine inB_ret (thn_ret ?_)
     have ej := Option.some.inj h
     subst ej
     exact hs
theorem ref1_In_ok {nv : Int} {low : Int} {high : Int} {r : Bool} (h : ref1_In nv low high = some r) : PureOk Try.prog 12 [.c (int nv), .c (int low), .c (int high)] (.c (bool r)) := by
 unfold PureOk
 refine FnOk.enter (rs := [.t 6]) Try.func12 rfl Try.ntmps12 Try.results12 rfl ⟨trivial, trivial⟩ (by kernel_rfl) rfl ?_
 unfold ref1_In at h
 refine AWP.seq (.region (.assign rfl rfl (.nil (thn_normal (.seqJ (⟨[(6, .c (bool ((decide (low ≤ nv)) && (decide (nv ≤ high)))))], []⟩) ?_ ?_)))))
 ·rcases Bool.eq_false_or_eq_true (decide (low ≤ nv)) with hb1 | hb1
  ·refine AWP.region (.move rfl rfl (.move rfl rfl (.geq rfl rfl rfl (.move rfl rfl (.guardT rfl rfl rfl hb1 (.move rfl rfl (.guardT rfl rfl rfl hb1 (.move rfl rfl (.guardT rfl rfl rfl hb1 (.leq rfl rfl rfl (.pickT rfl hb1 rfl rfl (.assign rfl rfl (.nil (thn_normal ?_))))))))))))))
   simp only [and_t hb1, or_t hb1, Bool.false_or, Bool.true_or, Bool.false_and, Bool.true_and]
   exact Sub.env ⟨rfl, trivial⟩
  ·refine AWP.region (.move rfl rfl (.move rfl rfl (.geq rfl rfl rfl (.move rfl rfl (.guardF rfl rfl rfl hb1 (.guardF rfl rfl rfl hb1 (.guardF rfl rfl rfl hb1 (.pickF rfl hb1 rfl rfl (.assign rfl rfl (.nil (thn_normal ?_)))))))))))
   simp only [and_f hb1, or_f hb1, Bool.false_or, Bool.true_or, Bool.false_and, Bool.true_and]
   exact Sub.env ⟨rfl, trivial⟩
 ·refine AWP.ret ?_
  have ej := Option.some.inj h
  subst ej
  exact Done.ret rfl rfl
theorem law8_coin_ok {r : TOpenTask} (h : law8_coin = some r) : PureOk Try.prog 32 [] (.agg [int r.facts, row 1 intI r.init, row 1 intI r.goal, row 3 eTOpenOperator r.operators]) := by
 unfold PureOk
 refine FnOk.enter (rs := [.cell 0 25 4]) Try.func32 rfl Try.ntmps32 Try.results32 rfl ⟨rv _ rfl, trivial⟩ (by kernel_rfl) rfl ?_
 unfold law8_coin at h
 refine AWP.seq (.region (W.alloc rfl rfl rfl rfl (.nil (thn_normal (.seq (.region (S.lit (f := intI) (l := [0]) (ess := [[int 0]]) rfl rfl rfl rfl rfl rfl rfl ⟨⟨.inl rfl, trivial⟩, trivial⟩ rfl rfl rfl (S.lit (f := intI) (l := [0]) (ess := [[int 0]]) rfl rfl rfl rfl rfl rfl rfl ⟨⟨.inl rfl, trivial⟩, trivial⟩ rfl rfl rfl (W.build rfl rfl rfl rfl (W.build rfl rfl rfl rfl (.frzV (id := 2) (l := [0]) (env2 := [(0, .c (.ptr 0 0 0)), (1, .c (.own 1 0 ([0].length))), (3, .agg [row 1 intI [0], .imm (.val (.slice none 0 0)), int 1]), (4, .agg [.imm (.val (.slice none 0 0)), .imm (.val (.slice none 0 0)), int 2])]) (σ2 := [.one (.cells 4 [[int 0, .imm (.val (.slice none 0 0)), .imm (.val (.slice none 0 0)), .imm (.val (.slice none 0 0))]]), .one (vec 1 intI [0]), .dead]) rfl rfl (by exact ⟨⟨_, rfl, .inl ⟨rfl, rfl⟩⟩, ⟨_, rfl, .inl ⟨rfl, rfl⟩⟩, ⟨_, rfl, ⟨.inr ⟨_, rfl, rfl, rfl⟩, .inl ⟨rfl, rfl⟩, .inl ⟨rfl, rfl⟩, trivial⟩⟩, ⟨_, rfl, ⟨.inl ⟨rfl, rfl⟩, .inl ⟨rfl, rfl⟩, .inl ⟨rfl, rfl⟩, trivial⟩⟩, trivial⟩) rfl (by exact ⟨⟨rfl, .inl ⟨rfl, rfl⟩, .inl ⟨rfl, rfl⟩, .inl ⟨rfl, rfl⟩, .inl ⟨rfl, rfl⟩, trivial⟩, FrzB.vec, trivial, trivial⟩) (S.lit (f := eTOutcome) (l := [(⟨[0], [], 1⟩ : TOutcome), (⟨[], [], 2⟩ : TOutcome)]) (ess := [[row 1 intI [0], .imm (.val (.slice none 0 0)), int 1], [.imm (.val (.slice none 0 0)), .imm (.val (.slice none 0 0)), int 2]]) rfl rfl rfl rfl rfl rfl rfl ⟨⟨.inl rfl, .inr ⟨rfl, _, rfl⟩, .inl rfl, trivial⟩, ⟨.inr ⟨rfl, _, rfl⟩, .inr ⟨rfl, _, rfl⟩, .inl rfl, trivial⟩, trivial⟩ rfl rfl rfl (W.build rfl rfl rfl rfl (.frzV (id := 3) (l := [(⟨[0], [], 1⟩ : TOutcome), (⟨[], [], 2⟩ : TOutcome)]) (env2 := [(0, .c (.ptr 0 0 0)), (1, .c (.own 1 0 ([0].length))), (6, .agg [.imm (.val (.slice none 0 0)), row 3 eTOutcome ([(⟨[0], [], 1⟩ : TOutcome), (⟨[], [], 2⟩ : TOutcome)]), int 1])]) (σ2 := [.one (.cells 4 [[int 0, .imm (.val (.slice none 0 0)), .imm (.val (.slice none 0 0)), .imm (.val (.slice none 0 0))]]), .one (vec 1 intI [0]), .dead, .dead]) rfl rfl (by exact ⟨⟨_, rfl, .inl ⟨rfl, rfl⟩⟩, ⟨_, rfl, .inl ⟨rfl, rfl⟩⟩, ⟨_, rfl, ⟨.inl ⟨rfl, rfl⟩, .inr ⟨_, rfl, rfl, rfl⟩, .inl ⟨rfl, rfl⟩, trivial⟩⟩, trivial⟩) rfl (by exact ⟨⟨rfl, .inl ⟨rfl, rfl⟩, .inl ⟨rfl, rfl⟩, .inl ⟨rfl, rfl⟩, .inl ⟨rfl, rfl⟩, trivial⟩, FrzB.vec, trivial, trivial, trivial⟩) (S.lit (f := eTOpenOperator) (l := [(⟨[], [(⟨[0], [], 1⟩ : TOutcome), (⟨[], [], 2⟩ : TOutcome)], 1⟩ : TOpenOperator)]) (ess := [[.imm (.val (.slice none 0 0)), row 3 eTOutcome ([(⟨[0], [], 1⟩ : TOutcome), (⟨[], [], 2⟩ : TOutcome)]), int 1]]) rfl rfl rfl rfl rfl rfl rfl ⟨⟨.inr ⟨rfl, _, rfl⟩, .inl rfl, .inl rfl, trivial⟩, trivial⟩ rfl rfl rfl (W.build rfl rfl rfl rfl (W.storeAgg rfl rfl rfl rfl rfl rfl rfl (.nil (thn_normal (.frzV (id := 1) (l := [0]) (env2 := [(0, .c (.ptr 0 0 0))]) (σ2 := [.one (.cells 4 [[int 1, .imm (.val (.slice none 0 0)), row 1 intI [0], .own 4 0 (([(⟨[], [(⟨[0], [], 1⟩ : TOutcome), (⟨[], [], 2⟩ : TOutcome)], 1⟩ : TOpenOperator)]).length)]]), .dead, .dead, .dead, .one (vec 3 eTOpenOperator ([(⟨[], [(⟨[0], [], 1⟩ : TOutcome), (⟨[], [], 2⟩ : TOutcome)], 1⟩ : TOpenOperator)]))]) rfl rfl (by exact ⟨⟨_, rfl, .inl ⟨rfl, rfl⟩⟩, trivial⟩) rfl (by exact ⟨⟨rfl, .inl ⟨rfl, rfl⟩, .inl ⟨rfl, rfl⟩, .inr ⟨_, rfl, rfl, rfl⟩, .inl ⟨rfl, rfl⟩, trivial⟩, trivial, trivial, trivial, FrzB.vec, trivial⟩) (.frzV (id := 4) (l := [(⟨[], [(⟨[0], [], 1⟩ : TOutcome), (⟨[], [], 2⟩ : TOutcome)], 1⟩ : TOpenOperator)]) (env2 := [(0, .c (.ptr 0 0 0))]) (σ2 := [.one (.cells 4 [[int 1, .imm (.val (.slice none 0 0)), row 1 intI [0], row 3 eTOpenOperator ([(⟨[], [(⟨[0], [], 1⟩ : TOutcome), (⟨[], [], 2⟩ : TOutcome)], 1⟩ : TOpenOperator)])]]), .dead, .dead, .dead, .dead]) rfl rfl (by exact ⟨⟨_, rfl, .inl ⟨rfl, rfl⟩⟩, trivial⟩) rfl (by exact ⟨⟨rfl, .inl ⟨rfl, rfl⟩, .inl ⟨rfl, rfl⟩, .inl ⟨rfl, rfl⟩, .inr ⟨_, rfl, rfl, rfl⟩, trivial⟩, trivial, trivial, trivial, trivial, trivial⟩) (.nilB (b := 0) [int 1, row 1 intI [], row 1 intI [0], row 3 eTOpenOperator ([(⟨[], [(⟨[0], [], 1⟩ : TOutcome), (⟨[], [], 2⟩ : TOutcome)], 1⟩ : TOpenOperator)])] rfl (by exact ⟨.inl rfl, .inr ⟨rfl, _, rfl⟩, .inl rfl, .inl rfl, trivial⟩) rfl rfl (.ret ?_)))))))))))))))))))))))
 have ej := Option.some.inj h
 subst ej
 exact Done.ret rfl rfl
theorem slices_Equal_int_int_ok {s11 : List Int} {s22 : List Int} {r : Bool} (h : slices_Equal_int_int s11 s22 = some r) : PureOk Try.prog 63 [.c (row 1 intI s11), .c (row 1 intI s22)] (.c (bool r)) := by
 unfold PureOk
 refine FnOk.enter (rs := [.t 4]) Try.func63 rfl Try.ntmps63 Try.results63 rfl ⟨trivial, trivial⟩ (by kernel_rfl) rfl ?_
 unfold slices_Equal_int_int at h
 refine AWP.seq (.region (.assign rfl rfl (.nil (thn_normal (.seq (.seq (.region (.move rfl rfl (S.len rfl rfl (fun hl7 => .move rfl rfl (S.len rfl rfl (fun hl9 => .neq rfl rfl rfl (.nil (thn_normal (.iteN rfl h (fun hc3 h => ?_) (fun hc3 h => ?_))))))))))))))))
 ·refine AWP.seq (.region (.assign rfl rfl (.nil (thn_normal (.ret (thn_ret ?_))))))
  have ej := Option.some.inj h
  subst ej
  exact Done.ret rfl rfl
 ·refine AWP.skip (thn_normal (.seq (.seq (.region (.move rfl rfl (S.len rfl rfl (fun hl12 => .move rfl rfl (.nil (thn_normal (.block ?_))))))))))
  obtain ⟨oo, ho1, h⟩ := bind_some h
  refine AWP.rngS ho1 (fun t4 _ => ⟨[(0, .c (row 1 intI s11)), (1, .c (row 1 intI s22)), (12, .c (int (s11.length : Int))), (13, .c (int t4))], []⟩) (fun o e st => match o with | .inl _ => e = .exit 0 ∧ Sub [] st ⟨[], []⟩ | .inr x => e = .ret ∧ Done [.t 4] (fun t _ => t = .c (bool x)) .ret st) ?_ ?_ ?_ ?_
  ·try dsimp only
   exact Sub.env ⟨rfl, rfl, rfl, rfl, trivial⟩
  ·intro t4 s hlot4 hltt4 _
   try dsimp only
   refine AWP.seq (.region (.lss rfl rfl rfl (.nil (thn_normal (.seq (.condNP rfl hltt4 (.exit (thn_exit (thn_exit ⟨rfl, ?_⟩)))))))))
   exact Sub.env trivial
  ·intro t4 s o hlot4 hltt4 h
   unfold slices_Equal_int_int_l1 at h
   try dsimp only at h ⊢
   refine AWP.seq (.region (.lss rfl rfl rfl (.nil (thn_normal (.seq (.condP rfl hltt4 (.skip (thn_normal (.seq (.block (.seq (.region (.move rfl rfl (.assign rfl rfl (.nil (thn_normal (.seq ?_)))))))))))))))))
   obtain ⟨a18, ha18, h⟩ := bind_some h
   obtain ⟨a22, ha22, h⟩ := bind_some h
   refine AWP.drawI mixed rfl ?_
   apply DrawSeq.consF; exact rfl; intro E
   refine AOps.move rfl rfl (.nil ⟨rfl, rfl⟩)
   exact rfl
   apply DrawSeq.consF; exact rfl; intro E
   refine AOps.move rfl rfl (.nil ⟨rfl, rfl⟩)
   exact rfl
   apply DrawSeq.consF; exact rfl; intro E
   refine S.idx ha18 rfl rfl rfl rfl (.nil ⟨rfl, rfl⟩)
   exact rfl
   apply DrawSeq.consF; exact rfl; intro E
   refine AOps.loadI rfl rfl rfl rfl (.nil ⟨rfl, rfl⟩)
   exact rfl
   apply DrawSeq.consF; exact rfl; intro E
   refine AOps.move rfl rfl (.nil ⟨rfl, rfl⟩)
   exact rfl
   apply DrawSeq.consF; exact rfl; intro E
   refine AOps.move rfl rfl (.nil ⟨rfl, rfl⟩)
   exact rfl
   apply DrawSeq.consF; exact rfl; intro E
   refine S.idx ha22 rfl rfl rfl rfl (.nil ⟨rfl, rfl⟩)
   exact rfl
   apply DrawSeq.consF; exact rfl; intro E
   refine AOps.loadI rfl rfl rfl rfl (.nil ⟨rfl, rfl⟩)
   exact rfl
   apply DrawSeq.consF; exact rfl; intro E
   refine AOps.neq rfl rfl rfl (.nil ⟨rfl, rfl⟩)
   exact rfl
   refine DrawSeq.done ?_
   dsimp only [envEnd]
   refine thn_normal (.iteN rfl h (fun hc5 h => ?_) (fun hc5 h => ?_))
   ·refine AWP.seq (.region (.assign rfl rfl (.nil (thn_normal (.ret (inB_ret (thn_ret ?_)))))))
    have ej := Option.some.inj h
    subst ej
    refine thn_ret ⟨_, rfl, rfl, ?_⟩
    exact Done.ret rfl rfl
   ·refine AWP.skip (inB_normal (thn_normal (.region (.add rfl rfl rfl (by omega) (.move rfl rfl (.nil ?_))))))
    have ej := Option.some.inj h
    subst ej
    refine thn_normal ⟨_, rfl, ?_⟩
    exact Sub.env ⟨rfl, rfl, rfl, rfl, trivial⟩
  ·intro e s hq
   rcases oo with u | x
   ·try dsimp only at h hq
    obtain ⟨rfl, hs⟩ := hq
    refine ⟨_, hs, ?_⟩
    refine inB_exit (thn_normal (.seq (.region (.assign rfl rfl (.nil (thn_normal (.ret ?_)))))))
    have ej := Option.some.inj h
    subst ej
    exact Done.ret rfl rfl
   ·try dsimp only at h hq
    obtain ⟨rfl, hs⟩ := hq
    refine ⟨_, Sub.refl _ _, ?_⟩
    refine inB_ret (thn_ret ?_)
    have ej := Option.some.inj h
    subst ej
    exact hs
theorem slices_BinarySearchFunc_int_int_int_ok {xv : List (List Int)} {target : List Int} {cmp : (List Int) → (List Int) → Option Int} {r : Int × Bool} {fvcmp : FuncId} {cvcmp : List C} (hcvcmp : C.okL 0 cvcmp = true) (hcmp : ∀ {y1 : List Int} {y2 : List Int} {z : Int}, cmp y1 y2 = some z → PureOk Try.prog fvcmp ([.c (row 1 intI y1), .c (row 1 intI y2)] ++ cvcmp.map T.c) (.c (int z))) (h : slices_BinarySearchFunc_int_int_int xv target cmp = some r) : PureOk Try.prog 53 [.c (row 1 eLi64 xv), .c (row 1 intI target), .c (.fn fvcmp cvcmp)] (.tup [.c (int r.1), .c (bool r.2)]) := by
 unfold PureOk
 refine FnOk.enter (rs := [.t 6, .t 7]) Try.func53 rfl Try.ntmps53 Try.results53 rfl ⟨trivial, trivial, trivial⟩ (by kernel_rfl) rfl ?_
 unfold slices_BinarySearchFunc_int_int_int at h
 refine AWP.seq (.region (.assign rfl rfl (.assign rfl rfl (.nil (thn_normal (.seq (.region (.move rfl rfl (S.len rfl rfl (fun hl13 => .assign rfl rfl (.nil (thn_normal (.seq (.region (.move rfl rfl (.assign rfl rfl (.assign rfl rfl (.nil (thn_normal (.seq (.block ?_)))))))))))))))))))))
 obtain ⟨iv6, ho1, h⟩ := bind_some h
 refine AWP.loopS ho1 (fun (iv4, j5) => ⟨[(0, .c (row 1 eLi64 xv)), (1, .c (row 1 intI target)), (2, .c (.fn fvcmp cvcmp)), (8, .c (int (xv.length : Int))), (9, .c (int iv4)), (10, .c (int j5))], []⟩) (fun iv6 e st => e = .exit 0 ∧ Sub [] st ⟨[(0, .c (row 1 eLi64 xv)), (1, .c (row 1 intI target)), (2, .c (.fn fvcmp cvcmp)), (8, .c (int (xv.length : Int))), (9, .c (int iv6))], []⟩) ?_ ?_ ?_
 ·try dsimp only
  exact Sub.env ⟨rfl, rfl, rfl, rfl, rfl, rfl, trivial⟩
 ·intro s o h
  obtain ⟨iv4, j5⟩ := s
  unfold slices_BinarySearchFunc_int_int_int_l1 at h
  try dsimp only at h ⊢
  refine AWP.seq (.seq (.region (.move rfl rfl (.move rfl rfl (.lss rfl rfl rfl (.nil (thn_normal (.ite rfl h (fun hc7 h => ?_) (fun hc7 h => ?_)))))))))
  ·refine AWP.skip (thn_normal (.block (.seq (.region (.move rfl rfl (.move rfl rfl (S.add rfl rfl rfl (.convInt rfl rfl (.shr rfl rfl rfl (by decide) rfl (.convInt rfl rfl (.assign rfl rfl (.nil (thn_normal (.seq ?_))))))))))))))
   obtain ⟨a27, ha27, h⟩ := bind_some h
   obtain ⟨a30, ha30, h⟩ := bind_some h
   refine AWP.region (.move rfl rfl (.move rfl rfl (.move rfl rfl (S.idx ha27 rfl rfl rfl rfl (.loadI rfl rfl rfl rfl (.move rfl rfl (.callR rfl rfl (okL_app rfl hcvcmp) rfl (hcmp ha30) rfl (.lss rfl rfl rfl (.nil (thn_normal (.ite rfl h (fun hc8 h => ?_) (fun hc8 h => ?_))))))))))))
   ·refine AWP.region (.move rfl rfl (S.add rfl rfl rfl (.assign rfl rfl (.nil (inB_normal ?_)))))
    have ej := Option.some.inj h
    subst ej
    refine thn_normal ⟨_, rfl, ?_⟩
    exact Sub.env ⟨rfl, rfl, rfl, rfl, rfl, rfl, trivial⟩
   ·refine AWP.region (.move rfl rfl (.assign rfl rfl (.nil (inB_normal ?_))))
    have ej := Option.some.inj h
    subst ej
    refine thn_normal ⟨_, rfl, ?_⟩
    exact Sub.env ⟨rfl, rfl, rfl, rfl, rfl, rfl, trivial⟩
  ·refine AWP.exit (thn_exit ?_)
   have ej := Option.some.inj h
   subst ej
   refine thn_exit ⟨_, rfl, rfl, ?_⟩
   exact Sub.env ⟨rfl, rfl, rfl, rfl, rfl, trivial⟩
 ·intro e s hq
  obtain ⟨rfl, hs⟩ := hq
  refine ⟨_, hs, ?_⟩
  refine inB_exit (thn_normal ?_)
  obtain ⟨t9, hx10, h⟩ := bind_some h
  refine AWP.seqJ (⟨[(6, .c (int iv6)), (7, .c (bool t9))], []⟩) ?_ ?_
  ·rcases Bool.eq_false_or_eq_true (decide (iv6 < (xv.length : Int))) with hb11 | hb11
   ·replace hx10 := iteDT hb11 hx10
    obtain ⟨a43, ha43, hx10⟩ := bind_some hx10
    obtain ⟨a46, ha46, hx10⟩ := bind_some hx10
    refine AWP.region (.move rfl rfl (.move rfl rfl (.move rfl rfl (.lss rfl rfl rfl (.move rfl rfl (.guardT rfl rfl rfl hb11 (.move rfl rfl (.guardT rfl rfl rfl hb11 (.move rfl rfl (.guardT rfl rfl rfl hb11 (.move rfl rfl (.guardT rfl rfl rfl hb11 (S.idx ha43 rfl rfl rfl rfl (.guardT rfl rfl rfl hb11 (.loadI rfl rfl rfl rfl (.guardT rfl rfl rfl hb11 (.move rfl rfl (.guardT rfl rfl rfl hb11 (.callR rfl rfl (okL_app rfl hcvcmp) rfl (hcmp ha46) rfl (.guardT rfl rfl rfl hb11 (.eql rfl rfl rfl (.pickT rfl hb11 rfl rfl (.assign rfl rfl (.assign rfl rfl (.nil ?_)))))))))))))))))))))))))
    have ej := Option.some.inj hx10
    subst ej
    refine thn_normal (Sub.env ⟨rfl, rfl, trivial⟩)
   ·replace hx10 := iteDF hb11 hx10
    refine AWP.region (.move rfl rfl (.move rfl rfl (.move rfl rfl (.lss rfl rfl rfl (.move rfl rfl (.guardF rfl rfl rfl hb11 (.guardF rfl rfl rfl hb11 (.guardF rfl rfl rfl hb11 (.guardF rfl rfl rfl hb11 (.guardF rfl rfl rfl hb11 (.guardF rfl rfl rfl hb11 (.guardF rfl rfl rfl hb11 (.guardF rfl rfl rfl hb11 (.pickF rfl hb11 rfl rfl (.assign rfl rfl (.assign rfl rfl (.nil ?_)))))))))))))))))
    have ej := Option.some.inj hx10
    subst ej
    refine thn_normal (Sub.env ⟨rfl, rfl, trivial⟩)
  ·refine AWP.ret ?_
   have ej := Option.some.inj h
   subst ej
   exact Done.ret rfl rfl
theorem slices_CompactFunc_int_int_w_ok {l : List (List Int)} {r : (List (List Int))} (h : slices_CompactFunc_int_int_w l = some r) : FnOk Try.prog 62 [.c (.own 0 0 l.length), .c (.fn 63 [])] (slices_CompactFunc_int_int_w_s0 l) (fun tt ss => tt = .c (.own 1 0 r.length) ∧ ss = [.dead, .one (vec 1 eLi64 r)]) := by
 refine FnOk.enter (rs := [.t 4]) Try.func62 rfl Try.ntmps62 Try.results62 rfl ⟨trivial, trivial⟩ (by kernel_rfl) rfl ?_
 refine AWP.weak ?_
 unfold slices_CompactFunc_int_int_w at h
 refine AWP.move (env' := [(0, .c (.own 1 0 l.length)), (1, .c (.fn 63 []))]) (σ' := [.dead, .one (vec 1 eLi64 l)]) 1 0 rfl rfl rfl ⟨rfl, rfl, trivial⟩ rfl ⟨trivial, ⟨Blk.im_ok _ _ _, vec_mv rfl⟩, trivial⟩ (.seq (.region (.assign rfl rfl (.nil (thn_normal (.seq (.seq (.region (.move rfl rfl (S.lenO rfl rfl rfl (fun hl9 => .lss rfl rfl rfl (.nil (thn_normal (.ite rfl h (fun hc53 h => ?_) (fun hc53 h => ?_)))))))))))))))
 ·refine AWP.seq (.region (.move rfl rfl (.assign rfl rfl (.nil (thn_normal (.ret (thn_ret ?_)))))))
  have ej := Option.some.inj h
  subst ej
  exact ⟨⟨[(4, .c (.own 1 0 l.length))], [.dead, .one (vec 1 eLi64 l)]⟩, Sub.env ⟨rfl, trivial⟩, Done.ret rfl ⟨rfl, rfl⟩⟩
 ·refine AWP.skip (thn_normal (.seq (.seq (.region (.assign rfl rfl (.nil (thn_normal (.block ?_))))))))
  obtain ⟨oo, ho1, h⟩ := bind_some h
  refine AWP.rngS ho1 (fun kv54 _ => ⟨[(0, .c (.own 1 0 l.length)), (1, .c (.fn 63 [])), (5, .c (int kv54))], [.dead, .one (vec 1 eLi64 l)]⟩) (fun o e st => match o with | .inl _ => e = .exit 0 ∧ Sub (slices_CompactFunc_int_int_w_s0 l) st ⟨[(0, .c (.own 1 0 l.length))], [.dead, .one (vec 1 eLi64 l)]⟩ | .inr x => e = .ret ∧ ∃ J, Sub (slices_CompactFunc_int_int_w_s0 l) st J ∧ Done [.t 4] (fun tt ss => tt = .c (.own 1 0 x.length) ∧ ss = [.dead, .one (vec 1 eLi64 x)]) .ret J) ?_ ?_ ?_ ?_
  ·try dsimp only
   exact Sub.env ⟨rfl, rfl, rfl, trivial⟩
  ·intro kv54 s hlokv54 hltkv54 _
   try dsimp only
   refine AWP.seq (.seq (.region (.move rfl rfl (.move rfl rfl (S.lenO rfl rfl rfl (fun hl14 => .lss rfl rfl rfl (.nil (thn_normal (.condNP rfl hltkv54 (.exit (thn_exit (thn_exit ⟨rfl, ?_⟩))))))))))))
   exact Sub.env ⟨rfl, trivial⟩
  ·intro kv54 s o hlokv54 hltkv54 h
   unfold slices_CompactFunc_int_int_w_l1 at h
   try dsimp only at h ⊢
   refine AWP.seq (.seq (.region (.move rfl rfl (.move rfl rfl (S.lenO rfl rfl rfl (fun hl14 => .lss rfl rfl rfl (.nil (thn_normal (.condP rfl hltkv54 (.skip (thn_normal (.seq (.block (.seq ?_))))))))))))))
   obtain ⟨a21, ha21, h⟩ := bind_some h
   obtain ⟨a26, ha26, h⟩ := bind_some h
   obtain ⟨a28, ha28, h⟩ := bind_some h
   refine AWP.drawI mixed rfl ?_
   apply DrawSeq.consF; exact rfl; intro E
   refine AOps.move rfl rfl (.nil ⟨rfl, rfl⟩)
   exact rfl
   apply DrawSeq.consF; exact rfl; intro E
   refine AOps.move rfl rfl (.nil ⟨rfl, rfl⟩)
   exact rfl
   apply DrawSeq.consF; exact rfl; intro E
   refine AOps.move rfl rfl (.nil ⟨rfl, rfl⟩)
   exact rfl
   apply DrawSeq.consF; exact rfl; intro E
   refine S.idxO ha21 rfl rfl rfl rfl rfl (.nil ⟨rfl, rfl⟩)
   exact rfl
   apply DrawSeq.consF; exact rfl; intro E
   refine S.loadO ha21 rfl rfl rfl rfl rfl (.nil ⟨rfl, rfl⟩)
   exact rfl
   apply DrawSeq.consF; exact rfl; intro E
   refine AOps.move rfl rfl (.nil ⟨rfl, rfl⟩)
   exact rfl
   apply DrawSeq.consF; exact rfl; intro E
   refine AOps.move rfl rfl (.nil ⟨rfl, rfl⟩)
   exact rfl
   apply DrawSeq.consF; exact rfl; intro E
   refine AOps.sub' rfl rfl rfl (by omega) (.nil ⟨rfl, rfl⟩)
   exact rfl
   apply DrawSeq.consF; exact rfl; intro E
   refine S.idxO ha26 rfl rfl rfl rfl rfl (.nil ⟨rfl, rfl⟩)
   exact rfl
   apply DrawSeq.consF; exact rfl; intro E
   refine S.loadO ha26 rfl rfl rfl rfl rfl (.nil ⟨rfl, rfl⟩)
   exact rfl
   apply DrawSeq.consF; exact rfl; intro E
   refine AOps.callR rfl rfl rfl rfl (slices_Equal_int_int_ok ha28) rfl (.nil ⟨rfl, rfl⟩)
   exact rfl
   refine DrawSeq.done ?_
   dsimp only [envEnd]
   refine thn_normal (.iteB rfl h (fun hc55 h => ?_) (fun hc55 h => ?_))
   ·refine AWP.seq ?_
    obtain ⟨u31, hu31, h⟩ := bind_some h
    refine AWP.region (.move rfl rfl (.move rfl rfl (S.vFrom (vw_full l) hu31 rfl rfl rfl rfl rfl rfl (.assign rfl rfl (.nil (thn_normal (.seq (.seq (.region (.assign rfl rfl (.nil (thn_normal (.block ?_)))))))))))))
    obtain ⟨⟨c56, kv57⟩, ho2, h⟩ := bind_some h
    try dsimp only at h
    refine AWP.forS ho2 (fun k258 (c56, kv57) => ⟨[(0, .c (.own 1 0 c56.length)), (1, .c (.fn 63 [])), (5, .c (int kv57)), (6, .c (.own 1 ((0 + kv54).toNat) (((l.length : Int) - kv54).toNat))), (7, .c (int k258))], [.dead, .one (vec 1 eLi64 c56)]⟩) (fun (c56, kv57) e st => e = .exit 2 ∧ Sub (slices_CompactFunc_int_int_w_s0 l) st ⟨[(0, .c (.own 1 0 c56.length)), (5, .c (int kv57))], [.dead, .one (vec 1 eLi64 c56)]⟩) ?_ ?_ ?_ ?_
    ·try dsimp only
     exact Sub.env ⟨rfl, rfl, rfl, rfl, rfl, trivial⟩
    ·intro k258 s hlok258 hltk258 _
     obtain ⟨c56, kv57⟩ := s
     try dsimp only
     refine AWP.seq (.seq (.region (.move rfl rfl (.move rfl rfl (S.lenV (vw_get (vw_cut (vw_full l) hu31)).2.1 rfl rfl rfl (fun hl34 => .lss rfl rfl rfl (.nil (thn_normal (.condNP rfl hltk258 (.exit (thn_exit (thn_exit ⟨rfl, ?_⟩))))))))))))
     exact Sub.env ⟨rfl, rfl, trivial⟩
    ·intro k258 s o hlok258 hltk258 h
     obtain ⟨c56, kv57⟩ := s
     unfold slices_CompactFunc_int_int_w_l2 at h
     try dsimp only at h ⊢
     refine AWP.seq (.seq (.region (.move rfl rfl (.move rfl rfl (S.lenV (vw_get (vw_cut (vw_full l) hu31)).2.1 rfl rfl rfl (fun hl34 => .lss rfl rfl rfl (.nil (thn_normal (.condP rfl hltk258 (.skip (thn_normal ?_)))))))))))
     obtain ⟨⟨c59, kv60⟩, hx61, h⟩ := bind_some h
     refine AWP.seqJ (⟨[(0, .c (.own 1 0 c59.length)), (1, .c (.fn 63 [])), (5, .c (int kv60)), (6, .c (.own 1 ((0 + kv54).toNat) (((l.length : Int) - kv54).toNat))), (7, .c (int k258))], [.dead, .one (vec 1 eLi64 c59)]⟩) ?_ ?_
     ·refine AWP.block (.seq ?_)
      obtain ⟨a41, ha41, hx61⟩ := bind_some hx61
      obtain ⟨a46, ha46, hx61⟩ := bind_some hx61
      obtain ⟨a48, ha48, hx61⟩ := bind_some hx61
      refine AWP.drawI mixed rfl ?_
      apply DrawSeq.consF; exact rfl; intro E
      refine AOps.move rfl rfl (.nil ⟨rfl, rfl⟩)
      exact rfl
      apply DrawSeq.consF; exact rfl; intro E
      refine AOps.move rfl rfl (.nil ⟨rfl, rfl⟩)
      exact rfl
      apply DrawSeq.consF; exact rfl; intro E
      refine AOps.move rfl rfl (.nil ⟨rfl, rfl⟩)
      exact rfl
      apply DrawSeq.consF; exact rfl; intro E
      refine S.idxV ha41 rfl rfl rfl rfl (.nil ⟨rfl, rfl⟩)
      exact rfl
      apply DrawSeq.consF; exact rfl; intro E
      refine S.loadO (ixV_ix ha41) rfl rfl rfl rfl rfl (.nil ⟨rfl, rfl⟩)
      exact rfl
      apply DrawSeq.consF; exact rfl; intro E
      refine AOps.move rfl rfl (.nil ⟨rfl, rfl⟩)
      exact rfl
      apply DrawSeq.consF; exact rfl; intro E
      refine AOps.move rfl rfl (.nil ⟨rfl, rfl⟩)
      exact rfl
      apply DrawSeq.consF; exact rfl; intro E
      refine AOps.sub' rfl rfl rfl (by omega) (.nil ⟨rfl, rfl⟩)
      exact rfl
      apply DrawSeq.consF; exact rfl; intro E
      refine S.idxV ha46 rfl rfl rfl rfl (.nil ⟨rfl, rfl⟩)
      exact rfl
      apply DrawSeq.consF; exact rfl; intro E
      refine S.loadO (ixV_ix ha46) rfl rfl rfl rfl rfl (.nil ⟨rfl, rfl⟩)
      exact rfl
      apply DrawSeq.consF; exact rfl; intro E
      refine AOps.callR rfl rfl rfl rfl (slices_Equal_int_int_ok ha48) rfl (.nil ⟨rfl, rfl⟩)
      exact rfl
      apply DrawSeq.consF; exact rfl; intro E
      refine AOps.not rfl rfl (.nil ⟨rfl, rfl⟩)
      exact rfl
      refine DrawSeq.done ?_
      dsimp only [envEnd]
      refine thn_normal (.iteB rfl hx61 (fun hc62 hx61 => ?_) (fun hc62 hx61 => ?_))
      ·refine AWP.seq ?_
       obtain ⟨a54, ha54, hx61⟩ := bind_some hx61
       obtain ⟨a56, ha56, hx61⟩ := bind_some hx61
       refine AWP.region (.move rfl rfl (.move rfl rfl (.move rfl rfl (.move rfl rfl (S.idxV ha54 rfl rfl rfl rfl (S.loadO (ixV_ix ha54) rfl rfl rfl rfl rfl (S.idxO ha56 rfl rfl rfl rfl rfl (S.storeO1 (f := eLi64) (a' := a54) (ix_lt ha56) (fun _ => ⟨_, rfl⟩) rfl rfl rfl rfl rfl ?_))))))))
       refine AOps.nil (thn_normal (.region (.move rfl rfl (S.add rfl rfl rfl (.assign rfl rfl (.nil (inB_normal ?_)))))))
       have ej := Option.some.inj hx61
       simp only [Prod.mk.injEq] at ej
       obtain ⟨ej0, ej1⟩ := ej
       subst ej0
       subst ej1
       refine thn_normal (Sub.env ⟨(own_len (by first | rfl | simp only [List.length_set])), rfl, rfl, rfl, rfl, trivial⟩)
      ·refine AWP.skip (inB_normal ?_)
       have ej := Option.some.inj hx61
       simp only [Prod.mk.injEq] at ej
       obtain ⟨ej0, ej1⟩ := ej
       subst ej0
       subst ej1
       refine thn_normal (Sub.env ⟨rfl, rfl, rfl, rfl, rfl, trivial⟩)
     ·try dsimp only at h
      refine AWP.region (.move rfl rfl (.add rfl rfl rfl (by omega) (.assign rfl rfl (.nil ?_))))
      have ej := Option.some.inj h
      subst ej
      refine thn_normal (Sub.env ⟨rfl, rfl, rfl, rfl, rfl, trivial⟩)
    ·intro e s hq
     obtain ⟨rfl, hs⟩ := hq
     refine ⟨_, hs, ?_⟩
     refine inB_exit (thn_normal (.seq ?_))
     obtain ⟨u61, hu61, h⟩ := bind_some h
     refine AWP.region (.move rfl rfl (.move rfl rfl (S.vFrom (vw_full c56) hu61 rfl rfl rfl rfl rfl rfl (S.clear (a0 := []) rfl rfl rfl (fun _ _ _ _ => .imm .slNil) (vw_cut (vw_full c56) hu61) rfl rfl rfl rfl rfl ?_))))
     refine AOps.nil (thn_normal (.seq ?_))
     obtain ⟨u64, hu64, h⟩ := bind_some h
     refine AWP.region (.move rfl rfl (.move rfl rfl ?_))
     refine S.vTo (vw_full (clrL c56 (0 + kv57) ((c56.length : Int) - kv57) [])) hu64 rfl rfl (by rw [Int.toNat_natCast]; exact (clrL_len (vw_cut (vw_full c56) hu61)).symm) rfl rfl rfl ?_
     refine AOps.assign rfl rfl (.nil (thn_normal (.reown (env' := [(4, .c (.own 2 0 ((viewL (clrL c56 (0 + kv57) ((c56.length : Int) - kv57) []) 0 kv57).length)))]) 4 (vw_to (vw_full (clrL c56 (0 + kv57) ((c56.length : Int) - kv57) [])) hu64) rfl rfl rfl rfl rfl rfl rfl rfl (by exact ⟨.inl ⟨rfl, rfl⟩, trivial⟩) (.ret (inB_ret (thn_ret ?_))))))
     have ej := Option.some.inj h
     subst ej
     refine thn_ret ⟨_, rfl, rfl, ?_⟩
     exact ⟨⟨[(4, .c (.own 1 0 ((viewL (clrL c56 (0 + kv57) ((c56.length : Int) - kv57) []) 0 kv57).length)))], [.dead, .one (vec 1 eLi64 (viewL (clrL c56 (0 + kv57) ((c56.length : Int) - kv57) []) 0 kv57))]⟩, (Sub.move (env' := [(4, .c (.own 1 0 ((viewL (clrL c56 (0 + kv57) ((c56.length : Int) - kv57) []) 0 kv57).length)))]) (σ' := [.dead, .one (vec 1 eLi64 (viewL (clrL c56 (0 + kv57) ((c56.length : Int) - kv57) []) 0 kv57))]) 1 2 rfl rfl rfl ⟨rfl, trivial⟩ rfl ⟨trivial, ⟨Blk.im_ok _ _ _, vec_mv rfl⟩, trivial⟩).trans (Sub.env ⟨rfl, trivial⟩), Done.ret rfl ⟨rfl, rfl⟩⟩
   ·refine AWP.skip (inB_normal (thn_normal (.region (.move rfl rfl (.add rfl rfl rfl (by omega) (.assign rfl rfl (.nil ?_)))))))
    have ej := Option.some.inj h
    subst ej
    refine thn_normal ⟨_, rfl, ?_⟩
    exact Sub.env ⟨rfl, rfl, rfl, trivial⟩
  ·intro e s hq
   rcases oo with u | x
   ·try dsimp only at h hq
    obtain ⟨rfl, hs⟩ := hq
    refine ⟨_, hs, ?_⟩
    refine inB_exit (thn_normal (.seq (.region (.move rfl rfl (.assign rfl rfl (.nil (thn_normal (.ret ?_))))))))
    have ej := Option.some.inj h
    subst ej
    exact ⟨⟨[(4, .c (.own 1 0 l.length))], [.dead, .one (vec 1 eLi64 l)]⟩, Sub.env ⟨rfl, trivial⟩, Done.ret rfl ⟨rfl, rfl⟩⟩
   ·try dsimp only at h hq
    obtain ⟨rfl, hs⟩ := hq
    refine ⟨_, Sub.refl _ _, ?_⟩
    refine inB_ret (thn_ret ?_)
    have ej := Option.some.inj h
    subst ej
    exact hs
theorem belief_Normal_w_ok {l : List (List Int)} {r : (List (List Int))} (h : belief_Normal_w l = some r) : FnOk Try.prog 51 [.c (.own 0 0 l.length)] (belief_Normal_w_s0 l) (fun tt ss => tt = .c (.own 2 0 r.length) ∧ ss = [.dead, .dead, .one (vec 1 eLi64 r)]) := by
 refine FnOk.enter (rs := [.t 2]) Try.func51 rfl Try.ntmps51 Try.results51 rfl ⟨trivial, trivial⟩ (by kernel_rfl) rfl ?_
 refine AWP.weak ?_
 unfold belief_Normal_w at h
 refine AWP.move (env' := [(0, .c (.own 1 0 l.length))]) (σ' := [.dead, .one (vec 1 eLi64 l)]) 1 0 rfl rfl rfl ⟨rfl, trivial⟩ rfl ⟨trivial, ⟨Blk.im_ok _ _ _, vec_mv rfl⟩, trivial⟩ (.seq (.region (.assign rfl rfl (.nil (thn_normal (.seq ?_))))))
 obtain ⟨a4, ha4, h⟩ := bind_some h
 refine AWP.region (.move rfl rfl (S.sortF (fun x => .sl 1 (List.map intI x)) ha4 rfl (fun hy => slices_Compare_int_int_ok hy) sortF_LLi64_ok (⟨_, Try.func30, rfl, rfl⟩) rfl rfl rfl rfl rfl rfl ?_))
 refine AOps.nil (thn_normal (.seq ?_))
 obtain ⟨a6, ha6, h⟩ := bind_some h
 refine AWP.region (.move rfl rfl ?_)
 refine AOps.callF (r2 := .c (.own 2 0 a6.length)) (σ'' := [.dead, .dead, .one (vec 1 eLi64 a6)]) rfl rfl rfl (FnOk.lend [1] (slices_CompactFunc_int_int_w_ok ha6) rfl rfl rfl rfl rfl rfl (by exact ⟨.vec, trivial⟩) (by rw [(sortFL_len ha4)] <;> rfl) (by exact ⟨(.live rfl .vec), trivial⟩) rfl rfl (by exact ⟨.dead, .dead, (.new 1 rfl rfl .vec), trivial⟩)) ?_
 refine AOps.assign rfl rfl (.nil (thn_normal (.ret ?_)))
 have ej := Option.some.inj h
 subst ej
 exact ⟨⟨[(2, .c (.own 2 0 a6.length))], [.dead, .dead, .one (vec 1 eLi64 a6)]⟩, Sub.env ⟨rfl, trivial⟩, Done.ret rfl ⟨rfl, rfl⟩⟩
theorem open_Results_ok {ov : TOpenTask} {sv : List Int} {op : Int} {r : (List (List Int)) × (List Int)} (h : open_Results ov sv op = some r) : PureOk Try.prog 37 [.agg [int ov.facts, row 1 intI ov.init, row 1 intI ov.goal, row 3 eTOpenOperator ov.operators], .c (row 1 intI sv), .c (int op)] (.tup [.c (row 1 eLi64 r.1), .c (row 1 intI r.2)]) := by
 unfold PureOk
 refine FnOk.enter (rs := [.t 6, .t 7]) Try.func37 rfl Try.ntmps37 Try.results37 rfl ⟨trivial, trivial, trivial⟩ (by kernel_rfl) rfl ?_
 unfold open_Results at h
 refine AWP.seq (.region (W.box rfl rfl rfl rfl rfl rfl (.assign rfl rfl (.assign rfl rfl (.nil (thn_normal (.seq (.region (.assign rfl rfl (.nil (thn_normal (.seq (.seq ?_)))))))))))))
 obtain ⟨a20, ha20, h⟩ := bind_some h
 refine AWP.region (W.fieldAddr rfl rfl rfl rfl (.load rfl rfl rfl rfl rfl rfl (.move rfl rfl (S.idx ha20 rfl rfl rfl rfl (W.fieldAddrI rfl rfl rfl rfl (.loadI rfl rfl rfl rfl (S.len rfl rfl (fun hl23 => .move rfl rfl (.nil (thn_normal (.block (.virtV 1 eLi64 8 rfl rfl rfl ?_))))))))))))
 obtain ⟨c4, ho1, h⟩ := bind_some h
 refine AWP.forS ho1 (fun t5 c4 => ⟨[(1, .c (row 1 intI sv)), (2, .c (int op)), (3, .c (.ptr 0 0 0)), (8, .c (.own 1 0 c4.length)), (22, .c (row 3 eTOutcome a20.outcomes)), (23, .c (int (a20.outcomes.length : Int))), (24, .c (int t5))], [.one (.cells 4 [[int ov.facts, row 1 intI ov.init, row 1 intI ov.goal, row 3 eTOpenOperator ov.operators]]), .one (vec 1 eLi64 c4)]⟩) (fun c4 e st => e = .exit 0 ∧ Sub [] st ⟨[(2, .c (int op)), (3, .c (.ptr 0 0 0)), (8, .c (.own 1 0 c4.length))], [.one (.cells 4 [[int ov.facts, row 1 intI ov.init, row 1 intI ov.goal, row 3 eTOpenOperator ov.operators]]), .one (vec 1 eLi64 c4)]⟩) ?_ ?_ ?_ ?_
 ·try dsimp only
  exact Sub.env ⟨rfl, rfl, rfl, (own_len (by first | rfl | simp only [List.length_set])), rfl, rfl, rfl, trivial⟩
 ·intro t5 c4 hlot5 hltt5 _
  try dsimp only
  refine AWP.seq (.region (.lss rfl rfl rfl (.nil (thn_normal (.seq (.condNP rfl hltt5 (.exit (thn_exit (thn_exit ⟨rfl, ?_⟩)))))))))
  exact Sub.env ⟨rfl, rfl, rfl, trivial⟩
 ·intro t5 c4 o hlot5 hltt5 h
  unfold open_Results_l1 at h
  try dsimp only at h ⊢
  refine AWP.seq (.region (.lss rfl rfl rfl (.nil (thn_normal (.seq (.condP rfl hltt5 (.skip (thn_normal (.seq (.block (.seq ?_)))))))))))
  obtain ⟨a26, ha26, h⟩ := bind_some h
  refine AWP.region (S.idx ha26 rfl rfl rfl rfl (W.loadIAgg rfl rfl rfl rfl rfl (W.alloc rfl rfl rfl rfl (W.storeAgg rfl rfl rfl rfl rfl rfl rfl (.nil (thn_normal ?_))))))
  obtain ⟨a34, ha34, h⟩ := bind_some h
  obtain ⟨a36, ha36, h⟩ := bind_some h
  refine AWP.region (.move rfl rfl (.move rfl rfl (W.fieldAddr rfl rfl rfl rfl (.load rfl rfl rfl rfl rfl rfl (W.fieldAddr rfl rfl rfl rfl (.load rfl rfl rfl rfl rfl rfl (S.fresh rfl rfl rfl rfl (strips_Update_ok ha34) rfl rfl (.frzV (id := 3) (l := a34) (env2 := [(1, .c (row 1 intI sv)), (2, .c (int op)), (3, .c (.ptr 0 0 0)), (22, .c (row 3 eTOutcome a20.outcomes)), (23, .c (int (a20.outcomes.length : Int))), (24, .c (int t5)), (28, .c (.own 1 0 c4.length)), (34, .c (row 1 intI a34))]) (σ2 := [.one (.cells 4 [[int ov.facts, row 1 intI ov.init, row 1 intI ov.goal, row 3 eTOpenOperator ov.operators]]), .one (vec 1 eLi64 c4), .one (.cells 3 [[row 1 intI a26.add, row 1 intI a26.del, int a26.weight]]), .dead]) rfl rfl (by exact ⟨⟨_, rfl, .inl ⟨rfl, rfl⟩⟩, ⟨_, rfl, .inl ⟨rfl, rfl⟩⟩, ⟨_, rfl, .inl ⟨rfl, rfl⟩⟩, ⟨_, rfl, .inl ⟨rfl, rfl⟩⟩, ⟨_, rfl, .inl ⟨rfl, rfl⟩⟩, ⟨_, rfl, .inl ⟨rfl, rfl⟩⟩, ⟨_, rfl, .inl ⟨rfl, rfl⟩⟩, ⟨_, rfl, .inr ⟨_, rfl, rfl, rfl⟩⟩, trivial⟩) rfl (by exact ⟨⟨rfl, .inl ⟨rfl, rfl⟩, .inl ⟨rfl, rfl⟩, .inl ⟨rfl, rfl⟩, .inl ⟨rfl, rfl⟩, trivial⟩, FrzB.vec, ⟨rfl, .inl ⟨rfl, rfl⟩, .inl ⟨rfl, rfl⟩, .inl ⟨rfl, rfl⟩, trivial⟩, trivial, trivial⟩) (S.lit (f := eLi64) (l := [a34]) (ess := [[row 1 intI a34]]) rfl rfl rfl rfl rfl rfl rfl ⟨⟨.inl rfl, trivial⟩, trivial⟩ rfl rfl rfl (S.append (f := eLi64) ha36 rfl rfl rfl rfl rfl rfl (.own rfl rfl) rfl rfl rfl rfl (.assign rfl rfl (.nil (inB_normal (thn_normal (.move (env' := [(1, .c (row 1 intI sv)), (2, .c (int op)), (3, .c (.ptr 0 0 0)), (8, .c (.own 1 0 a36.length)), (22, .c (row 3 eTOutcome a20.outcomes)), (23, .c (int (a20.outcomes.length : Int))), (24, .c (int t5))]) (σ' := [.one (.cells 4 [[int ov.facts, row 1 intI ov.init, row 1 intI ov.goal, row 3 eTOpenOperator ov.operators]]), .one (vec 1 eLi64 a36), .one (.cells 3 [[row 1 intI a26.add, row 1 intI a26.del, int a26.weight]]), .dead, .one (vec 1 eLi64 [a34])]) 1 5 rfl rfl rfl ⟨rfl, rfl, rfl, rfl, rfl, rfl, rfl, trivial⟩ rfl ⟨⟨rfl, rfl⟩, ⟨Blk.im_ok _ _ _, vec_mv rfl⟩, ⟨rfl, rfl⟩, trivial, ⟨Blk.im_ok _ _ _, vec_mv rfl⟩, trivial⟩ (.region (.add rfl rfl rfl (by omega) (.move rfl rfl (.nil ?_)))))))))))))))))))
  have ej := Option.some.inj h
  subst ej
  refine thn_normal (Sub.cut ⟨rfl, rfl, rfl, rfl, rfl, rfl, rfl, trivial⟩ rfl ⟨.one rfl, .vec, trivial⟩ rfl)
 ·intro e s hq
  obtain ⟨rfl, hs⟩ := hq
  refine ⟨_, hs, ?_⟩
  refine inB_exit (thn_normal (.seq ?_))
  obtain ⟨a39, ha39, h⟩ := bind_some h
  obtain ⟨a40, ha40, h⟩ := bind_some h
  refine AWP.region (.move rfl rfl (.frzV (id := 1) (l := c4) (env2 := [(2, .c (int op)), (3, .c (.ptr 0 0 0)), (8, .c (row 1 eLi64 c4)), (38, .c (row 1 eLi64 c4))]) (σ2 := [.one (.cells 4 [[int ov.facts, row 1 intI ov.init, row 1 intI ov.goal, row 3 eTOpenOperator ov.operators]]), .dead]) rfl rfl (by exact ⟨⟨_, rfl, .inl ⟨rfl, rfl⟩⟩, ⟨_, rfl, .inl ⟨rfl, rfl⟩⟩, ⟨_, rfl, .inr ⟨_, rfl, rfl, rfl⟩⟩, ⟨_, rfl, .inr ⟨_, rfl, rfl, rfl⟩⟩, trivial⟩) rfl (by exact ⟨⟨rfl, .inl ⟨rfl, rfl⟩, .inl ⟨rfl, rfl⟩, .inl ⟨rfl, rfl⟩, .inl ⟨rfl, rfl⟩, trivial⟩, trivial, trivial⟩) (S.fresh rfl rfl rfl rfl (slices_Clone_Lint_int_ok ha39) rfl rfl (.callF (r2 := .c (.own 4 0 a40.length)) (σ'' := [.one (.cells 4 [[int ov.facts, row 1 intI ov.init, row 1 intI ov.goal, row 3 eTOpenOperator ov.operators]]), .dead, .dead, .dead, .one (vec 1 eLi64 a40)]) rfl rfl rfl (FnOk.lend [2] (belief_Normal_w_ok ha40) rfl rfl rfl rfl rfl rfl (by exact ⟨.vec, trivial⟩) rfl (by exact ⟨(.live rfl .vec), trivial⟩) rfl rfl (by exact ⟨(.old rfl rfl rfl), .dead, .dead, .dead, (.new 2 rfl rfl .vec), trivial⟩)) (.assign rfl rfl (.nil (thn_normal (.seq ?_))))))))
  obtain ⟨a43, ha43, h⟩ := bind_some h
  refine AWP.region (.move rfl rfl (S.lenO rfl rfl rfl (fun hl42 => S.make (f := intI) ha43 (.val .nil) rfl rfl rfl rfl rfl rfl (.assign rfl rfl (.nil (thn_normal (.seq (.seq ?_))))))))
  obtain ⟨a47, ha47, h⟩ := bind_some h
  refine AWP.region (W.fieldAddr rfl rfl rfl rfl (.load rfl rfl rfl rfl rfl rfl (.move rfl rfl (S.idx ha47 rfl rfl rfl rfl (W.fieldAddrI rfl rfl rfl rfl (.loadI rfl rfl rfl rfl (S.len rfl rfl (fun hl50 => .move rfl rfl (.nil (thn_normal (.block ?_)))))))))))
  obtain ⟨c6, ho2, h⟩ := bind_some h
  refine AWP.forS ho2 (fun t7 c6 => ⟨[(8, .c (row 1 eLi64 c4)), (11, .c (.own 4 0 a40.length)), (12, .c (.own 5 0 c6.length)), (49, .c (row 3 eTOutcome a47.outcomes)), (50, .c (int (a47.outcomes.length : Int))), (51, .c (int t7))], [.dead, .dead, .dead, .dead, .one (vec 1 eLi64 a40), .one (vec 1 intI c6)]⟩) (fun c6 e st => e = .exit 2 ∧ Sub [] st ⟨[(11, .c (.own 4 0 a40.length)), (12, .c (.own 5 0 c6.length))], [.dead, .dead, .dead, .dead, .one (vec 1 eLi64 a40), .one (vec 1 intI c6)]⟩) ?_ ?_ ?_ ?_
  ·try dsimp only
   exact Sub.cut ⟨rfl, rfl, rfl, rfl, rfl, rfl, trivial⟩ rfl ⟨.dead, .dead, .dead, .dead, .vec, .vec, trivial⟩ rfl
  ·intro t7 c6 hlot7 hltt7 _
   try dsimp only
   refine AWP.seq (.region (.lss rfl rfl rfl (.nil (thn_normal (.seq (.condNP rfl hltt7 (.exit (thn_exit (thn_exit ⟨rfl, ?_⟩)))))))))
   exact Sub.env ⟨rfl, rfl, trivial⟩
  ·intro t7 c6 o hlot7 hltt7 h
   unfold open_Results_l2 at h
   try dsimp only at h ⊢
   refine AWP.seq (.region (.lss rfl rfl rfl (.nil (thn_normal (.seq (.condP rfl hltt7 (.skip (thn_normal (.seq (.block (.seq ?_)))))))))))
   obtain ⟨a54, ha54, h⟩ := bind_some h
   refine AWP.region (.move rfl rfl (S.idx ha54 rfl rfl rfl rfl (W.loadIAgg rfl rfl rfl rfl rfl (W.alloc rfl rfl rfl rfl (.assign rfl rfl (W.storeAgg rfl rfl rfl rfl rfl rfl rfl (.nil (thn_normal (.seq ?_)))))))))
   obtain ⟨a60, ha60, h⟩ := bind_some h
   obtain ⟨a62, ha62, h⟩ := bind_some h
   refine AWP.region (.move rfl rfl (.move rfl rfl (.move rfl rfl (S.idx ha60 rfl rfl rfl rfl (.loadI rfl rfl rfl rfl (.callL rfl rfl (.cons (.c (.own rfl rfl)) (.cons (.c .imm) (.cons (.c (.fn .nil)) .nil))) rfl (slices_BinarySearchFunc_int_int_int_ok rfl (fun hy => slices_Compare_int_int_ok hy) ha62) rfl ?_))))))
   refine AOps.move rfl rfl (.extract rfl rfl rfl (.extract rfl rfl rfl (.assign rfl rfl (.assign rfl rfl (.nil (thn_normal ?_))))))
   obtain ⟨a67, ha67, h⟩ := bind_some h
   obtain ⟨a72, ha72, h⟩ := bind_some h
   refine AWP.drawEI [8] mixed rfl rfl rfl ?_
   apply DrawSeqE.consN; exact rfl; exact rfl; intro E
   refine AOps.move rfl rfl (.nil ⟨rfl, rfl⟩)
   exact rfl
   apply DrawSeqE.consN; exact rfl; exact rfl; intro E
   refine AOps.move rfl rfl (.nil ⟨rfl, rfl⟩)
   exact rfl
   apply DrawSeqE.consN; exact rfl; exact rfl; intro E
   refine S.idxO ha67 rfl rfl rfl rfl rfl (.nil ⟨rfl, rfl⟩)
   exact rfl
   apply DrawSeqE.consN; exact rfl; exact rfl; intro E
   refine S.loadO ha67 rfl rfl rfl rfl rfl (.nil ⟨rfl, rfl⟩)
   exact rfl
   apply DrawSeqE.consN; exact rfl; exact rfl; intro E
   refine W.fieldAddr rfl rfl rfl rfl (.nil ⟨rfl, rfl⟩)
   exact rfl
   apply DrawSeqE.consN; exact rfl; exact rfl; intro E
   refine AOps.load rfl rfl rfl rfl rfl rfl (.nil ⟨rfl, rfl⟩)
   exact rfl
   apply DrawSeqE.consN; exact rfl; exact rfl; intro E
   refine S.add rfl rfl rfl (.nil ⟨rfl, rfl⟩)
   exact rfl
   apply DrawSeqE.consN; exact rfl; exact rfl; intro E
   refine S.idxO ha72 rfl rfl rfl rfl rfl (.nil ⟨rfl, rfl⟩)
   exact rfl
   apply DrawSeqE.consE (v := .undef); exact rfl; exact rfl; intro E
   refine S.storeO1 (f := intI) (a' := w64 (a67 + a54.weight)) (ix_lt ha72) (fun _ => ⟨_, rfl⟩) rfl rfl rfl rfl rfl ?_
   exact AOps.nil ⟨rfl, rfl⟩
   exact rfl
   exact rfl
   refine DrawSeqE.done rfl ?_ ?_
   ·apply RestI.cons; exact rfl; exact rfl
    first | refine RestK.skip rfl ?_ | (apply RestK.go; exact rfl; exact rfl; intro E; (refine AOps.move rfl rfl ?_); exact AOps.nil ⟨rfl, rfl⟩)
    first | refine RestK.skip rfl ?_ | (apply RestK.go; exact rfl; exact rfl; intro E; (refine AOps.move rfl rfl ?_); exact AOps.nil ⟨rfl, rfl⟩)
    exact RestK.nil
    apply RestI.cons; exact rfl; exact rfl
    first | refine RestK.skip rfl ?_ | (apply RestK.go; exact rfl; exact rfl; intro E; (refine AOps.move rfl rfl ?_); exact AOps.nil ⟨rfl, rfl⟩)
    first | refine RestK.skip rfl ?_ | (apply RestK.go; exact rfl; exact rfl; intro E; (refine AOps.move rfl rfl ?_); exact AOps.nil ⟨rfl, rfl⟩)
    exact RestK.nil
    apply RestI.cons; exact rfl; exact rfl
    first | refine RestK.skip rfl ?_ | (apply RestK.go; exact rfl; exact rfl; intro E; (refine S.idxO ha67 rfl rfl rfl rfl rfl ?_); exact AOps.nil ⟨rfl, rfl⟩)
    first | refine RestK.skip rfl ?_ | (apply RestK.go; exact rfl; exact rfl; intro E; (refine S.idxO ha67 rfl rfl rfl rfl rfl ?_); exact AOps.nil ⟨rfl, rfl⟩)
    exact RestK.nil
    apply RestI.cons; exact rfl; exact rfl
    first | refine RestK.skip rfl ?_ | (apply RestK.go; exact rfl; exact rfl; intro E; (refine S.loadO ha67 rfl rfl rfl rfl rfl ?_); exact AOps.nil ⟨rfl, rfl⟩)
    first | refine RestK.skip rfl ?_ | (apply RestK.go; exact rfl; exact rfl; intro E; (refine S.loadO ha67 rfl rfl rfl rfl rfl ?_); exact AOps.nil ⟨rfl, rfl⟩)
    exact RestK.nil
    apply RestI.cons; exact rfl; exact rfl
    first | refine RestK.skip rfl ?_ | (apply RestK.go; exact rfl; exact rfl; intro E; (refine W.fieldAddr rfl rfl rfl rfl ?_); exact AOps.nil ⟨rfl, rfl⟩)
    first | refine RestK.skip rfl ?_ | (apply RestK.go; exact rfl; exact rfl; intro E; (refine W.fieldAddr rfl rfl rfl rfl ?_); exact AOps.nil ⟨rfl, rfl⟩)
    exact RestK.nil
    apply RestI.cons; exact rfl; exact rfl
    first | refine RestK.skip rfl ?_ | (apply RestK.go; exact rfl; exact rfl; intro E; (refine AOps.load rfl rfl rfl rfl rfl rfl ?_); exact AOps.nil ⟨rfl, rfl⟩)
    first | refine RestK.skip rfl ?_ | (apply RestK.go; exact rfl; exact rfl; intro E; (refine AOps.load rfl rfl rfl rfl rfl rfl ?_); exact AOps.nil ⟨rfl, rfl⟩)
    exact RestK.nil
    apply RestI.cons; exact rfl; exact rfl
    first | refine RestK.skip rfl ?_ | (apply RestK.go; exact rfl; exact rfl; intro E; (refine S.add rfl rfl rfl ?_); exact AOps.nil ⟨rfl, rfl⟩)
    first | refine RestK.skip rfl ?_ | (apply RestK.go; exact rfl; exact rfl; intro E; (refine S.add rfl rfl rfl ?_); exact AOps.nil ⟨rfl, rfl⟩)
    exact RestK.nil
    apply RestI.cons; exact rfl; exact rfl
    first | refine RestK.skip rfl ?_ | (apply RestK.go; exact rfl; exact rfl; intro E; (refine S.idxO ha72 rfl rfl rfl rfl rfl ?_); exact AOps.nil ⟨rfl, rfl⟩)
    first | refine RestK.skip rfl ?_ | (apply RestK.go; exact rfl; exact rfl; intro E; (refine S.idxO ha72 rfl rfl rfl rfl rfl ?_); exact AOps.nil ⟨rfl, rfl⟩)
    exact RestK.nil
    refine RestI.skip rfl (RestI.nil)
   dsimp only [envEnd]
   refine inB_normal (thn_normal (.region (.add rfl rfl rfl (by omega) (.move rfl rfl (.nil ?_)))))
   have ej := Option.some.inj h
   subst ej
   refine thn_normal (Sub.cut ⟨rfl, rfl, (own_len (by first | rfl | simp only [List.length_set])), rfl, rfl, rfl, trivial⟩ rfl ⟨.dead, .dead, .dead, .dead, .vec, .vec, trivial⟩ rfl)
  ·intro e s hq
   obtain ⟨rfl, hs⟩ := hq
   refine ⟨_, hs, ?_⟩
   refine inB_exit (thn_normal (.seq (.region (.move rfl rfl (.move rfl rfl (.assign rfl rfl (.assign rfl rfl (.nil (thn_normal (.frzV (id := 4) (l := a40) (env2 := [(6, .c (row 1 eLi64 a40)), (7, .c (.own 5 0 c6.length))]) (σ2 := [.dead, .dead, .dead, .dead, .dead, .one (vec 1 intI c6)]) rfl rfl (by exact ⟨⟨_, rfl, .inr ⟨_, rfl, rfl, rfl⟩⟩, ⟨_, rfl, .inl ⟨rfl, rfl⟩⟩, trivial⟩) rfl (by exact ⟨trivial, trivial, trivial, trivial, trivial, FrzB.vec, trivial⟩) (.frzV (id := 5) (l := c6) (env2 := [(6, .c (row 1 eLi64 a40)), (7, .c (row 1 intI c6))]) (σ2 := [.dead, .dead, .dead, .dead, .dead, .dead]) rfl rfl (by exact ⟨⟨_, rfl, .inl ⟨rfl, rfl⟩⟩, ⟨_, rfl, .inr ⟨_, rfl, rfl, rfl⟩⟩, trivial⟩) rfl (by exact ⟨trivial, trivial, trivial, trivial, trivial, trivial, trivial⟩) (.ret ?_))))))))))))
   have ej := Option.some.inj h
   subst ej
   exact Done.ret rfl rfl
theorem open_Outcomes_ok {ov : TOpenTask} {sv : List Int} {op : Int} {r : (List (List Int)) × (List Int) × TFault} (h : open_Outcomes ov sv op = some r) : PureOk Try.prog 14 [.agg [int ov.facts, row 1 intI ov.init, row 1 intI ov.goal, row 3 eTOpenOperator ov.operators], .c (row 1 intI sv), .c (int op)] (.tup [.c (row 1 eLi64 r.1), .c (row 1 intI r.2.1), .agg [int r.2.2.code, int r.2.2.index]]) := by
 unfold PureOk
 refine FnOk.enter (rs := [.t 6, .t 7, .cell 8 29 2]) Try.func14 rfl Try.ntmps14 Try.results14 rfl ⟨trivial, trivial, rv _ rfl, trivial⟩ (by kernel_rfl) rfl ?_
 unfold open_Outcomes at h
 refine AWP.seq (.region (W.box rfl rfl rfl rfl rfl rfl (.assign rfl rfl (.assign rfl rfl (W.alloc rfl rfl rfl rfl (.nil (thn_normal (.seq (.seq ?_)))))))))
 obtain ⟨a13, ha13, h⟩ := bind_some h
 refine AWP.region (W.loadAgg rfl rfl rfl rfl rfl rfl rfl (.callR rfl rfl rfl rfl (open_Validate_ok ha13) rfl (W.alloc rfl rfl rfl rfl (W.storeAgg rfl rfl rfl rfl rfl rfl rfl (.nil (thn_normal (.seq (.region (W.loadAgg rfl rfl rfl rfl rfl rfl rfl (W.build rfl rfl rfl rfl (.neqP rfl rfl rfl rfl rfl rfl rfl (.nil (thn_normal (.iteB rfl h (fun hc4 h => ?_) (fun hc4 h => ?_)))))))))))))))
 ·refine AWP.seq (.drawEI [3] mixed rfl rfl rfl ?_)
  apply DrawSeqE.consN; exact rfl; exact rfl; intro E
  refine W.loadAgg rfl rfl rfl rfl rfl rfl rfl (.nil ⟨rfl, rfl⟩)
  exact rfl
  apply DrawSeqE.consN; exact rfl; exact rfl; intro E
  refine AOps.assign rfl rfl (.nil ⟨rfl, rfl⟩)
  exact rfl
  apply DrawSeqE.consN; exact rfl; exact rfl; intro E
  refine AOps.assign rfl rfl (.nil ⟨rfl, rfl⟩)
  exact rfl
  apply DrawSeqE.consE (v := .undef); exact rfl; exact rfl; intro E
  refine W.storeAgg rfl rfl rfl rfl rfl rfl rfl (.nil ⟨rfl, rfl⟩)
  exact rfl
  exact rfl
  refine DrawSeqE.done rfl ?_ ?_
  ·apply RestI.cons; exact rfl; exact rfl
   first | refine RestK.skip rfl ?_ | (apply RestK.go; exact rfl; exact rfl; intro E; (refine W.loadAgg rfl rfl rfl rfl rfl rfl rfl ?_); exact AOps.nil ⟨rfl, rfl⟩)
   first | refine RestK.skip rfl ?_ | (apply RestK.go; exact rfl; exact rfl; intro E; (refine W.loadAgg rfl rfl rfl rfl rfl rfl rfl ?_); exact AOps.nil ⟨rfl, rfl⟩)
   exact RestK.nil
   apply RestI.cons; exact rfl; exact rfl
   first | refine RestK.skip rfl ?_ | (apply RestK.go; exact rfl; exact rfl; intro E; (refine AOps.assign rfl rfl ?_); exact AOps.nil ⟨rfl, rfl⟩)
   first | refine RestK.skip rfl ?_ | (apply RestK.go; exact rfl; exact rfl; intro E; (refine AOps.assign rfl rfl ?_); exact AOps.nil ⟨rfl, rfl⟩)
   exact RestK.nil
   apply RestI.cons; exact rfl; exact rfl
   first | refine RestK.skip rfl ?_ | (apply RestK.go; exact rfl; exact rfl; intro E; (refine AOps.assign rfl rfl ?_); exact AOps.nil ⟨rfl, rfl⟩)
   first | refine RestK.skip rfl ?_ | (apply RestK.go; exact rfl; exact rfl; intro E; (refine AOps.assign rfl rfl ?_); exact AOps.nil ⟨rfl, rfl⟩)
   exact RestK.nil
   refine RestI.skip rfl (RestI.nil)
  dsimp only [envEnd]
  refine thn_normal (.nilrow 1 6 rfl (.nilrow 1 7 rfl (.ret (thn_ret ?_))))
  have ej := Option.some.inj h
  subst ej
  exact Done.ret rfl rfl
 ·refine AWP.skip (thn_normal (.seq (.block (.seq ?_))))
  obtain ⟨a22, ha22, h⟩ := bind_some h
  refine AWP.region (.move rfl rfl (W.fieldAddr rfl rfl rfl rfl (.load rfl rfl rfl rfl rfl rfl (.callR rfl rfl rfl rfl (strips_IsSet_ok ha22) rfl (.not rfl rfl (.assign rfl rfl (.nil (thn_normal (.iteB rfl h (fun hc5 h => ?_) (fun hc5 h => ?_))))))))))
  ·refine AWP.seq (.region (W.build rfl rfl rfl rfl (.assign rfl rfl (.assign rfl rfl (W.storeAgg rfl rfl rfl rfl rfl rfl rfl (.nil (thn_normal (.nilrow 1 6 rfl (.nilrow 1 7 rfl (.ret (inB_ret (thn_ret ?_))))))))))))
   have ej := Option.some.inj h
   subst ej
   exact Done.ret rfl rfl
  ·refine AWP.seqJ (⟨[(1, .c (row 1 intI sv)), (2, .c (int op)), (3, .c (.ptr 0 0 0)), (8, .c (.ptr 1 0 0)), (25, .c (bool ((decide (op < 0)) || (decide ((ov.operators.length : Int) ≤ op)))))], [.one (.cells 4 [[int ov.facts, row 1 intI ov.init, row 1 intI ov.goal, row 3 eTOpenOperator ov.operators]]), .one (.cells 2 [[int 0, int 0]]), .one (.cells 2 [[int a13.code, int a13.index]])]⟩) ?_ ?_
   ·rcases Bool.eq_false_or_eq_true (decide (op < 0)) with hb1 | hb1
    ·refine AWP.region (.move rfl rfl (.lss rfl rfl rfl (.move rfl rfl (.guardF rfl rfl rfl hb1 (.guardF rfl rfl rfl hb1 (.guardF rfl rfl rfl hb1 (.guardF rfl rfl rfl hb1 (.guardF rfl rfl rfl hb1 (.pickT rfl hb1 rfl rfl (.assign rfl rfl (.nil (thn_normal ?_))))))))))))
     simp only [and_t hb1, or_t hb1, Bool.false_or, Bool.true_or, Bool.false_and, Bool.true_and]
     exact Sub.env ⟨rfl, rfl, rfl, rfl, rfl, trivial⟩
    ·refine AWP.region (.move rfl rfl (.lss rfl rfl rfl (.move rfl rfl (.guardT rfl rfl rfl hb1 (.move rfl rfl (.guardT rfl rfl rfl hb1 (W.fieldAddr rfl rfl rfl rfl (.guardT rfl rfl rfl hb1 (.load rfl rfl rfl rfl rfl rfl ?_)))))))))
     refine AOps.guardT rfl rfl rfl hb1 ?_; refine S.len rfl rfl (fun hl32 => ?_)
     refine AOps.guardT rfl rfl rfl hb1 (.geq rfl rfl rfl (.pickF rfl hb1 rfl rfl (.assign rfl rfl (.nil (thn_normal ?_)))))
     simp only [and_f hb1, or_f hb1, Bool.false_or, Bool.true_or, Bool.false_and, Bool.true_and]
     exact Sub.env ⟨rfl, rfl, rfl, rfl, rfl, trivial⟩
   ·refine AWP.iteB rfl h (fun hc6 h => ?_) (fun hc6 h => ?_)
    ·refine AWP.seq (.region (W.build rfl rfl rfl rfl (.assign rfl rfl (.assign rfl rfl (W.storeAgg rfl rfl rfl rfl rfl rfl rfl (.nil (thn_normal (.nilrow 1 6 rfl (.nilrow 1 7 rfl (.ret (inB_ret (thn_ret ?_))))))))))))
     have ej := Option.some.inj h
     subst ej
     exact Done.ret rfl rfl
    ·refine AWP.seq ?_
     obtain ⟨a40, ha40, h⟩ := bind_some h
     refine AWP.region (W.loadAgg rfl rfl rfl rfl rfl rfl rfl (.move rfl rfl (.move rfl rfl (.callR rfl rfl rfl rfl (open_Can_ok ha40) rfl (.not rfl rfl (.assign rfl rfl (.nil (thn_normal (.iteB rfl h (fun hc7 h => ?_) (fun hc7 h => ?_))))))))))
     ·refine AWP.seq (.region (.move rfl rfl (W.build rfl rfl rfl rfl (.assign rfl rfl (.assign rfl rfl (W.storeAgg rfl rfl rfl rfl rfl rfl rfl (.nil (thn_normal (.nilrow 1 6 rfl (.nilrow 1 7 rfl (.ret (inB_ret (thn_ret ?_)))))))))))))
      have ej := Option.some.inj h
      subst ej
      exact Done.ret rfl rfl
     ·refine AWP.skip (inB_normal (thn_normal (.seq ?_)))
      obtain ⟨a48, ha48, h⟩ := bind_some h
      refine AWP.region (W.loadAgg rfl rfl rfl rfl rfl rfl rfl (.move rfl rfl (.move rfl rfl (.callR rfl rfl rfl rfl (open_Results_ok ha48) rfl (.move rfl rfl (.extract rfl rfl rfl (.extract rfl rfl rfl (.assign rfl rfl (.assign rfl rfl (.nil (thn_normal (.seq (.region (.move rfl rfl (.move rfl rfl (W.build rfl rfl rfl rfl (.assign rfl rfl (.assign rfl rfl (W.storeAgg rfl rfl rfl rfl rfl rfl rfl (.nil (thn_normal (.ret ?_))))))))))))))))))))))
      have ej := Option.some.inj h
      subst ej
      exact Done.ret rfl rfl
theorem equal_Numbers_ok {av : List Int} {bv : List Int} {r : Bool} (h : equal_Numbers av bv = some r) : PureOk Try.prog 33 [.c (row 1 intI av), .c (row 1 intI bv)] (.c (bool r)) := by
 unfold PureOk
 refine FnOk.enter (rs := [.t 4]) Try.func33 rfl Try.ntmps33 Try.results33 rfl ⟨trivial, trivial⟩ (by kernel_rfl) rfl ?_
 unfold equal_Numbers at h
 refine AWP.seq (.region (.assign rfl rfl (.nil (thn_normal (.seq (.seq (.region (.move rfl rfl (S.len rfl rfl (fun hl7 => .move rfl rfl (S.len rfl rfl (fun hl9 => .neq rfl rfl rfl (.nil (thn_normal (.iteN rfl h (fun hc3 h => ?_) (fun hc3 h => ?_))))))))))))))))
 ·refine AWP.seq (.region (.assign rfl rfl (.nil (thn_normal (.ret (thn_ret ?_))))))
  have ej := Option.some.inj h
  subst ej
  exact Done.ret rfl rfl
 ·refine AWP.skip (thn_normal (.seq (.seq (.region (.assign rfl rfl (.nil (thn_normal (.block ?_))))))))
  obtain ⟨oo, ho1, h⟩ := bind_some h
  refine AWP.rngS ho1 (fun iv4 _ => ⟨[(0, .c (row 1 intI av)), (1, .c (row 1 intI bv)), (5, .c (int iv4))], []⟩) (fun o e st => match o with | .inl _ => e = .exit 0 ∧ Sub [] st ⟨[], []⟩ | .inr x => e = .ret ∧ Done [.t 4] (fun t _ => t = .c (bool x)) .ret st) ?_ ?_ ?_ ?_
  ·try dsimp only
   exact Sub.env ⟨rfl, rfl, rfl, trivial⟩
  ·intro iv4 s hloiv4 hltiv4 _
   try dsimp only
   refine AWP.seq (.seq (.region (.move rfl rfl (.move rfl rfl (S.len rfl rfl (fun hl13 => .lss rfl rfl rfl (.nil (thn_normal (.condNP rfl hltiv4 (.exit (thn_exit (thn_exit ⟨rfl, ?_⟩))))))))))))
   exact Sub.env trivial
  ·intro iv4 s o hloiv4 hltiv4 h
   unfold equal_Numbers_l1 at h
   try dsimp only at h ⊢
   refine AWP.seq (.seq (.region (.move rfl rfl (.move rfl rfl (S.len rfl rfl (fun hl13 => .lss rfl rfl rfl (.nil (thn_normal (.condP rfl hltiv4 (.skip (thn_normal (.seq (.block (.seq ?_))))))))))))))
   obtain ⟨a19, ha19, h⟩ := bind_some h
   obtain ⟨a23, ha23, h⟩ := bind_some h
   refine AWP.drawI mixed rfl ?_
   apply DrawSeq.consF; exact rfl; intro E
   refine AOps.move rfl rfl (.nil ⟨rfl, rfl⟩)
   exact rfl
   apply DrawSeq.consF; exact rfl; intro E
   refine AOps.move rfl rfl (.nil ⟨rfl, rfl⟩)
   exact rfl
   apply DrawSeq.consF; exact rfl; intro E
   refine S.idx ha19 rfl rfl rfl rfl (.nil ⟨rfl, rfl⟩)
   exact rfl
   apply DrawSeq.consF; exact rfl; intro E
   refine AOps.loadI rfl rfl rfl rfl (.nil ⟨rfl, rfl⟩)
   exact rfl
   apply DrawSeq.consF; exact rfl; intro E
   refine AOps.move rfl rfl (.nil ⟨rfl, rfl⟩)
   exact rfl
   apply DrawSeq.consF; exact rfl; intro E
   refine AOps.move rfl rfl (.nil ⟨rfl, rfl⟩)
   exact rfl
   apply DrawSeq.consF; exact rfl; intro E
   refine S.idx ha23 rfl rfl rfl rfl (.nil ⟨rfl, rfl⟩)
   exact rfl
   apply DrawSeq.consF; exact rfl; intro E
   refine AOps.loadI rfl rfl rfl rfl (.nil ⟨rfl, rfl⟩)
   exact rfl
   apply DrawSeq.consF; exact rfl; intro E
   refine AOps.neq rfl rfl rfl (.nil ⟨rfl, rfl⟩)
   exact rfl
   refine DrawSeq.done ?_
   dsimp only [envEnd]
   refine thn_normal (.iteN rfl h (fun hc5 h => ?_) (fun hc5 h => ?_))
   ·refine AWP.seq (.region (.assign rfl rfl (.nil (thn_normal (.ret (inB_ret (thn_ret ?_)))))))
    have ej := Option.some.inj h
    subst ej
    refine thn_ret ⟨_, rfl, rfl, ?_⟩
    exact Done.ret rfl rfl
   ·refine AWP.skip (inB_normal (thn_normal (.region (.move rfl rfl (.add rfl rfl rfl (by omega) (.assign rfl rfl (.nil ?_)))))))
    have ej := Option.some.inj h
    subst ej
    refine thn_normal ⟨_, rfl, ?_⟩
    exact Sub.env ⟨rfl, rfl, rfl, trivial⟩
  ·intro e s hq
   rcases oo with u | x
   ·try dsimp only at h hq
    obtain ⟨rfl, hs⟩ := hq
    refine ⟨_, hs, ?_⟩
    refine inB_exit (thn_normal (.seq (.region (.assign rfl rfl (.nil (thn_normal (.ret ?_)))))))
    have ej := Option.some.inj h
    subst ej
    exact Done.ret rfl rfl
   ·try dsimp only at h hq
    obtain ⟨rfl, hs⟩ := hq
    refine ⟨_, Sub.refl _ _, ?_⟩
    refine inB_ret (thn_ret ?_)
    have ej := Option.some.inj h
    subst ej
    exact hs
theorem equal_Sets_ok {av : List (List Int)} {bv : List (List Int)} {r : Bool} (h : equal_Sets av bv = some r) : PureOk Try.prog 11 [.c (row 1 eLi64 av), .c (row 1 eLi64 bv)] (.c (bool r)) := by
 unfold PureOk
 refine FnOk.enter (rs := [.t 4]) Try.func11 rfl Try.ntmps11 Try.results11 rfl ⟨trivial, trivial⟩ (by kernel_rfl) rfl ?_
 unfold equal_Sets at h
 refine AWP.seq (.region (.assign rfl rfl (.nil (thn_normal (.seq (.seq (.region (.move rfl rfl (S.len rfl rfl (fun hl7 => .move rfl rfl (S.len rfl rfl (fun hl9 => .neq rfl rfl rfl (.nil (thn_normal (.iteN rfl h (fun hc3 h => ?_) (fun hc3 h => ?_))))))))))))))))
 ·refine AWP.seq (.region (.assign rfl rfl (.nil (thn_normal (.ret (thn_ret ?_))))))
  have ej := Option.some.inj h
  subst ej
  exact Done.ret rfl rfl
 ·refine AWP.skip (thn_normal (.seq (.seq (.region (.assign rfl rfl (.nil (thn_normal (.block ?_))))))))
  obtain ⟨oo, ho1, h⟩ := bind_some h
  refine AWP.rngS ho1 (fun iv4 _ => ⟨[(0, .c (row 1 eLi64 av)), (1, .c (row 1 eLi64 bv)), (5, .c (int iv4))], []⟩) (fun o e st => match o with | .inl _ => e = .exit 0 ∧ Sub [] st ⟨[], []⟩ | .inr x => e = .ret ∧ Done [.t 4] (fun t _ => t = .c (bool x)) .ret st) ?_ ?_ ?_ ?_
  ·try dsimp only
   exact Sub.env ⟨rfl, rfl, rfl, trivial⟩
  ·intro iv4 s hloiv4 hltiv4 _
   try dsimp only
   refine AWP.seq (.seq (.region (.move rfl rfl (.move rfl rfl (S.len rfl rfl (fun hl13 => .lss rfl rfl rfl (.nil (thn_normal (.condNP rfl hltiv4 (.exit (thn_exit (thn_exit ⟨rfl, ?_⟩))))))))))))
   exact Sub.env trivial
  ·intro iv4 s o hloiv4 hltiv4 h
   unfold equal_Sets_l1 at h
   try dsimp only at h ⊢
   refine AWP.seq (.seq (.region (.move rfl rfl (.move rfl rfl (S.len rfl rfl (fun hl13 => .lss rfl rfl rfl (.nil (thn_normal (.condP rfl hltiv4 (.skip (thn_normal (.seq (.block (.seq ?_))))))))))))))
   obtain ⟨a19, ha19, h⟩ := bind_some h
   obtain ⟨a23, ha23, h⟩ := bind_some h
   obtain ⟨a25, ha25, h⟩ := bind_some h
   refine AWP.drawI mixed rfl ?_
   apply DrawSeq.consF; exact rfl; intro E
   refine AOps.move rfl rfl (.nil ⟨rfl, rfl⟩)
   exact rfl
   apply DrawSeq.consF; exact rfl; intro E
   refine AOps.move rfl rfl (.nil ⟨rfl, rfl⟩)
   exact rfl
   apply DrawSeq.consF; exact rfl; intro E
   refine S.idx ha19 rfl rfl rfl rfl (.nil ⟨rfl, rfl⟩)
   exact rfl
   apply DrawSeq.consF; exact rfl; intro E
   refine AOps.loadI rfl rfl rfl rfl (.nil ⟨rfl, rfl⟩)
   exact rfl
   apply DrawSeq.consF; exact rfl; intro E
   refine AOps.move rfl rfl (.nil ⟨rfl, rfl⟩)
   exact rfl
   apply DrawSeq.consF; exact rfl; intro E
   refine AOps.move rfl rfl (.nil ⟨rfl, rfl⟩)
   exact rfl
   apply DrawSeq.consF; exact rfl; intro E
   refine S.idx ha23 rfl rfl rfl rfl (.nil ⟨rfl, rfl⟩)
   exact rfl
   apply DrawSeq.consF; exact rfl; intro E
   refine AOps.loadI rfl rfl rfl rfl (.nil ⟨rfl, rfl⟩)
   exact rfl
   apply DrawSeq.consF; exact rfl; intro E
   refine AOps.callR rfl rfl rfl rfl (equal_Numbers_ok ha25) rfl (.nil ⟨rfl, rfl⟩)
   exact rfl
   apply DrawSeq.consF; exact rfl; intro E
   refine AOps.not rfl rfl (.nil ⟨rfl, rfl⟩)
   exact rfl
   refine DrawSeq.done ?_
   dsimp only [envEnd]
   refine thn_normal (.iteB rfl h (fun hc5 h => ?_) (fun hc5 h => ?_))
   ·refine AWP.seq (.region (.assign rfl rfl (.nil (thn_normal (.ret (inB_ret (thn_ret ?_)))))))
    have ej := Option.some.inj h
    subst ej
    refine thn_ret ⟨_, rfl, rfl, ?_⟩
    exact Done.ret rfl rfl
   ·refine AWP.skip (inB_normal (thn_normal (.region (.move rfl rfl (.add rfl rfl rfl (by omega) (.assign rfl rfl (.nil ?_)))))))
    have ej := Option.some.inj h
    subst ej
    refine thn_normal ⟨_, rfl, ?_⟩
    exact Sub.env ⟨rfl, rfl, rfl, trivial⟩
  ·intro e s hq
   rcases oo with u | x
   ·try dsimp only at h hq
    obtain ⟨rfl, hs⟩ := hq
    refine ⟨_, hs, ?_⟩
    refine inB_exit (thn_normal (.seq (.region (.assign rfl rfl (.nil (thn_normal (.ret ?_)))))))
    have ej := Option.some.inj h
    subst ej
    exact Done.ret rfl rfl
   ·try dsimp only at h hq
    obtain ⟨rfl, hs⟩ := hq
    refine ⟨_, Sub.refl _ _, ?_⟩
    refine inB_ret (thn_ret ?_)
    have ej := Option.some.inj h
    subst ej
    exact hs
theorem law8_tossed_ok {r : Bool} (h : law8_tossed = some r) : PureOk Try.prog 9 [] (.c (bool r)) := by
 unfold PureOk
 refine FnOk.enter (rs := [.t 0]) Try.func9 rfl Try.ntmps9 Try.results9 rfl ⟨trivial, trivial⟩ (by kernel_rfl) rfl ?_
 unfold law8_tossed at h
 refine AWP.seq (.region (.assign rfl rfl (.nil (thn_normal (.seq ?_)))))
 obtain ⟨a5, ha5, h⟩ := bind_some h
 obtain ⟨a6, ha6, h⟩ := bind_some h
 refine AWP.region (.callR rfl rfl rfl rfl (law8_coin_ok ha5) rfl (.callR rfl rfl rfl rfl (PureOk.nil (by exact ⟨⟨(.inl rfl), (.inl rfl), (.inl rfl), (.inl rfl), trivial⟩, (.inr ⟨rfl, _, rfl⟩), (.inl rfl), trivial⟩) (open_Outcomes_ok ha6)) rfl (.move rfl rfl (.extract rfl rfl rfl (.extract rfl rfl rfl (.extract rfl rfl rfl (W.alloc rfl rfl rfl rfl (.assign rfl rfl (.assign rfl rfl (W.storeAgg rfl rfl rfl rfl rfl rfl rfl (.nil (thn_normal ?_))))))))))))
 obtain ⟨t1, hx2, h⟩ := bind_some h
 refine AWP.seqJ (⟨[(0, .c (bool t1))], []⟩) ?_ ?_
 ·rcases Bool.eq_false_or_eq_true (decide (a6.2.2.code = 0)) with hb3 | hb3
  ·replace hx2 := iteDT hb3 hx2
   obtain ⟨a17, ha17, hx2⟩ := bind_some hx2
   rcases Bool.eq_false_or_eq_true (a17) with hb4 | hb4
   ·replace hx2 := iteBT hb4 hx2
    obtain ⟨a22, ha22, hx2⟩ := bind_some hx2
    refine AWP.region (W.fieldAddr rfl rfl rfl rfl (.load rfl rfl rfl rfl rfl rfl (.eql rfl rfl rfl (.move rfl rfl (.guardT rfl rfl rfl hb3 (.move rfl rfl (.guardT rfl rfl rfl hb3 (S.lit (f := intI) (l := [0]) (ess := [[int 0]]) rfl rfl rfl rfl rfl rfl rfl ⟨⟨.inl rfl, trivial⟩, trivial⟩ rfl rfl rfl ?_))))))))
    refine AOps.guardT rfl rfl rfl hb3 ?_; refine AOps.frzV (id := 1) (l := [0]) (env2 := [(2, .c (row 1 intI a6.2.1)), (13, .c (bool (decide (a6.2.2.code = 0)))), (14, .c (row 1 eLi64 a6.1)), (15, .c (row 1 intI [0]))]) (σ2 := [.one (.cells 2 [[int a6.2.2.code, int a6.2.2.index]]), .dead]) rfl rfl (by exact ⟨⟨_, rfl, .inl ⟨rfl, rfl⟩⟩, ⟨_, rfl, .inl ⟨rfl, rfl⟩⟩, ⟨_, rfl, .inl ⟨rfl, rfl⟩⟩, ⟨_, rfl, .inr ⟨_, rfl, rfl, rfl⟩⟩, trivial⟩) rfl (by exact ⟨⟨rfl, .inl ⟨rfl, rfl⟩, .inl ⟨rfl, rfl⟩, trivial⟩, trivial, trivial⟩) ?_; refine S.lit (f := eLi64) (l := [[], [0]]) (ess := [[.imm (.val (.slice none 0 0))], [row 1 intI [0]]]) rfl rfl rfl rfl rfl rfl rfl ⟨⟨.inr ⟨rfl, _, rfl⟩, trivial⟩, ⟨.inl rfl, trivial⟩, trivial⟩ rfl rfl rfl ?_
    refine AOps.guardT rfl rfl rfl hb3 (.callL rfl rfl (.cons (.c .imm) (.cons (.c (.own rfl rfl)) .nil)) rfl (equal_Sets_ok ha17) rfl (.pickT rfl hb3 rfl rfl (.move rfl rfl (.guardT rfl rfl rfl hb4 (.move rfl rfl (.guardT rfl rfl rfl hb4 (S.lit (f := intI) (l := [2, 1]) (ess := [[int 2], [int 1]]) rfl rfl rfl rfl rfl rfl rfl ⟨⟨.inl rfl, trivial⟩, ⟨.inl rfl, trivial⟩, trivial⟩ rfl rfl rfl (.guardT rfl rfl rfl hb4 (.callL rfl rfl (.cons (.c .imm) (.cons (.c (.own rfl rfl)) .nil)) rfl (equal_Numbers_ok ha22) rfl (.pickT rfl hb4 rfl rfl (.assign rfl rfl (.nil ?_))))))))))))
    have ej := Option.some.inj hx2
    subst ej
    refine thn_normal (Sub.cut ⟨rfl, trivial⟩ rfl trivial rfl)
   ·replace hx2 := iteBF hb4 hx2
    refine AWP.region (W.fieldAddr rfl rfl rfl rfl (.load rfl rfl rfl rfl rfl rfl (.eql rfl rfl rfl (.move rfl rfl (.guardT rfl rfl rfl hb3 (.move rfl rfl (.guardT rfl rfl rfl hb3 (S.lit (f := intI) (l := [0]) (ess := [[int 0]]) rfl rfl rfl rfl rfl rfl rfl ⟨⟨.inl rfl, trivial⟩, trivial⟩ rfl rfl rfl ?_))))))))
    refine AOps.guardT rfl rfl rfl hb3 ?_; refine AOps.frzV (id := 1) (l := [0]) (env2 := [(2, .c (row 1 intI a6.2.1)), (13, .c (bool (decide (a6.2.2.code = 0)))), (14, .c (row 1 eLi64 a6.1)), (15, .c (row 1 intI [0]))]) (σ2 := [.one (.cells 2 [[int a6.2.2.code, int a6.2.2.index]]), .dead]) rfl rfl (by exact ⟨⟨_, rfl, .inl ⟨rfl, rfl⟩⟩, ⟨_, rfl, .inl ⟨rfl, rfl⟩⟩, ⟨_, rfl, .inl ⟨rfl, rfl⟩⟩, ⟨_, rfl, .inr ⟨_, rfl, rfl, rfl⟩⟩, trivial⟩) rfl (by exact ⟨⟨rfl, .inl ⟨rfl, rfl⟩, .inl ⟨rfl, rfl⟩, trivial⟩, trivial, trivial⟩) ?_; refine S.lit (f := eLi64) (l := [[], [0]]) (ess := [[.imm (.val (.slice none 0 0))], [row 1 intI [0]]]) rfl rfl rfl rfl rfl rfl rfl ⟨⟨.inr ⟨rfl, _, rfl⟩, trivial⟩, ⟨.inl rfl, trivial⟩, trivial⟩ rfl rfl rfl ?_
    refine AOps.guardT rfl rfl rfl hb3 (.callL rfl rfl (.cons (.c .imm) (.cons (.c (.own rfl rfl)) .nil)) rfl (equal_Sets_ok ha17) rfl (.pickT rfl hb3 rfl rfl (.move rfl rfl (.guardF rfl rfl rfl hb4 (.guardF rfl rfl rfl hb4 (.guardF rfl rfl rfl hb4 (.pickF rfl hb4 rfl rfl (.assign rfl rfl (.nil ?_)))))))))
    have ej := Option.some.inj hx2
    subst ej
    refine thn_normal (Sub.cut ⟨rfl, trivial⟩ rfl trivial rfl)
  ·replace hx2 := iteDF hb3 hx2
   refine AWP.region (W.fieldAddr rfl rfl rfl rfl (.load rfl rfl rfl rfl rfl rfl (.eql rfl rfl rfl (.move rfl rfl (.guardF rfl rfl rfl hb3 (.guardF rfl rfl rfl hb3 (.guardF rfl rfl rfl hb3 (.guardF rfl rfl rfl hb3 (.pickF rfl hb3 rfl rfl (.move rfl rfl (.guardF rfl rfl rfl rfl (.guardF rfl rfl rfl rfl (.guardF rfl rfl rfl rfl (.pickF rfl rfl rfl rfl (.assign rfl rfl (.nil ?_))))))))))))))))
   have ej := Option.some.inj hx2
   subst ej
   refine thn_normal (Sub.cut ⟨rfl, trivial⟩ rfl trivial rfl)
 ·refine AWP.ret ?_
  have ej := Option.some.inj h
  subst ej
  exact Done.ret rfl rfl
theorem ref1_Ints_ok {av : List Int} {bv : List Int} {r : Bool} (h : ref1_Ints av bv = some r) : PureOk Try.prog 36 [.c (row 1 intI av), .c (row 1 intI bv)] (.c (bool r)) := by
 unfold PureOk
 refine FnOk.enter (rs := [.t 4]) Try.func36 rfl Try.ntmps36 Try.results36 rfl ⟨trivial, trivial⟩ (by kernel_rfl) rfl ?_
 unfold ref1_Ints at h
 refine AWP.seq (.region (.assign rfl rfl (.nil (thn_normal (.seq (.seq (.region (.move rfl rfl (S.len rfl rfl (fun hl7 => .move rfl rfl (S.len rfl rfl (fun hl9 => .neq rfl rfl rfl (.nil (thn_normal (.iteN rfl h (fun hc3 h => ?_) (fun hc3 h => ?_))))))))))))))))
 ·refine AWP.seq (.region (.assign rfl rfl (.nil (thn_normal (.ret (thn_ret ?_))))))
  have ej := Option.some.inj h
  subst ej
  exact Done.ret rfl rfl
 ·refine AWP.skip (thn_normal (.seq (.seq (.region (.assign rfl rfl (.nil (thn_normal (.block ?_))))))))
  obtain ⟨oo, ho1, h⟩ := bind_some h
  refine AWP.rngS ho1 (fun iv4 _ => ⟨[(0, .c (row 1 intI av)), (1, .c (row 1 intI bv)), (5, .c (int iv4))], []⟩) (fun o e st => match o with | .inl _ => e = .exit 0 ∧ Sub [] st ⟨[], []⟩ | .inr x => e = .ret ∧ Done [.t 4] (fun t _ => t = .c (bool x)) .ret st) ?_ ?_ ?_ ?_
  ·try dsimp only
   exact Sub.env ⟨rfl, rfl, rfl, trivial⟩
  ·intro iv4 s hloiv4 hltiv4 _
   try dsimp only
   refine AWP.seq (.seq (.region (.move rfl rfl (.move rfl rfl (S.len rfl rfl (fun hl13 => .lss rfl rfl rfl (.nil (thn_normal (.condNP rfl hltiv4 (.exit (thn_exit (thn_exit ⟨rfl, ?_⟩))))))))))))
   exact Sub.env trivial
  ·intro iv4 s o hloiv4 hltiv4 h
   unfold ref1_Ints_l1 at h
   try dsimp only at h ⊢
   refine AWP.seq (.seq (.region (.move rfl rfl (.move rfl rfl (S.len rfl rfl (fun hl13 => .lss rfl rfl rfl (.nil (thn_normal (.condP rfl hltiv4 (.skip (thn_normal (.seq (.block (.seq ?_))))))))))))))
   obtain ⟨a19, ha19, h⟩ := bind_some h
   obtain ⟨a23, ha23, h⟩ := bind_some h
   refine AWP.drawI mixed rfl ?_
   apply DrawSeq.consF; exact rfl; intro E
   refine AOps.move rfl rfl (.nil ⟨rfl, rfl⟩)
   exact rfl
   apply DrawSeq.consF; exact rfl; intro E
   refine AOps.move rfl rfl (.nil ⟨rfl, rfl⟩)
   exact rfl
   apply DrawSeq.consF; exact rfl; intro E
   refine S.idx ha19 rfl rfl rfl rfl (.nil ⟨rfl, rfl⟩)
   exact rfl
   apply DrawSeq.consF; exact rfl; intro E
   refine AOps.loadI rfl rfl rfl rfl (.nil ⟨rfl, rfl⟩)
   exact rfl
   apply DrawSeq.consF; exact rfl; intro E
   refine AOps.move rfl rfl (.nil ⟨rfl, rfl⟩)
   exact rfl
   apply DrawSeq.consF; exact rfl; intro E
   refine AOps.move rfl rfl (.nil ⟨rfl, rfl⟩)
   exact rfl
   apply DrawSeq.consF; exact rfl; intro E
   refine S.idx ha23 rfl rfl rfl rfl (.nil ⟨rfl, rfl⟩)
   exact rfl
   apply DrawSeq.consF; exact rfl; intro E
   refine AOps.loadI rfl rfl rfl rfl (.nil ⟨rfl, rfl⟩)
   exact rfl
   apply DrawSeq.consF; exact rfl; intro E
   refine AOps.neq rfl rfl rfl (.nil ⟨rfl, rfl⟩)
   exact rfl
   refine DrawSeq.done ?_
   dsimp only [envEnd]
   refine thn_normal (.iteN rfl h (fun hc5 h => ?_) (fun hc5 h => ?_))
   ·refine AWP.seq (.region (.assign rfl rfl (.nil (thn_normal (.ret (inB_ret (thn_ret ?_)))))))
    have ej := Option.some.inj h
    subst ej
    refine thn_ret ⟨_, rfl, rfl, ?_⟩
    exact Done.ret rfl rfl
   ·refine AWP.skip (inB_normal (thn_normal (.region (.move rfl rfl (.add rfl rfl rfl (by omega) (.assign rfl rfl (.nil ?_)))))))
    have ej := Option.some.inj h
    subst ej
    refine thn_normal ⟨_, rfl, ?_⟩
    exact Sub.env ⟨rfl, rfl, rfl, trivial⟩
  ·intro e s hq
   rcases oo with u | x
   ·try dsimp only at h hq
    obtain ⟨rfl, hs⟩ := hq
    refine ⟨_, hs, ?_⟩
    refine inB_exit (thn_normal (.seq (.region (.assign rfl rfl (.nil (thn_normal (.ret ?_)))))))
    have ej := Option.some.inj h
    subst ej
    exact Done.ret rfl rfl
   ·try dsimp only at h hq
    obtain ⟨rfl, hs⟩ := hq
    refine ⟨_, Sub.refl _ _, ?_⟩
    refine inB_ret (thn_ret ?_)
    have ej := Option.some.inj h
    subst ej
    exact hs
theorem ref8_Chosen_ok {p : List TChoice} {sv : List Int} {r : Int} (h : ref8_Chosen p sv = some r) : PureOk Try.prog 13 [.c (row 2 eTChoice p), .c (row 1 intI sv)] (.c (int r)) := by
 unfold PureOk
 refine FnOk.enter (rs := [.t 4]) Try.func13 rfl Try.ntmps13 Try.results13 rfl ⟨trivial, trivial⟩ (by kernel_rfl) rfl ?_
 unfold ref8_Chosen at h
 refine AWP.seq (.region (.assign rfl rfl (.nil (thn_normal (.seq (.seq (.region (.assign rfl rfl (.nil (thn_normal (.block ?_)))))))))))
 obtain ⟨oo, ho1, h⟩ := bind_some h
 refine AWP.rngS ho1 (fun iv3 _ => ⟨[(0, .c (row 2 eTChoice p)), (1, .c (row 1 intI sv)), (5, .c (int iv3))], []⟩) (fun o e st => match o with | .inl _ => e = .exit 0 ∧ Sub [] st ⟨[], []⟩ | .inr x => e = .ret ∧ Done [.t 4] (fun t _ => t = .c (int x)) .ret st) ?_ ?_ ?_ ?_
 ·try dsimp only
  exact Sub.env ⟨rfl, rfl, rfl, trivial⟩
 ·intro iv3 s hloiv3 hltiv3 _
  try dsimp only
  refine AWP.seq (.seq (.region (.move rfl rfl (.move rfl rfl (S.len rfl rfl (fun hl8 => .lss rfl rfl rfl (.nil (thn_normal (.condNP rfl hltiv3 (.exit (thn_exit (thn_exit ⟨rfl, ?_⟩))))))))))))
  exact Sub.env trivial
 ·intro iv3 s o hloiv3 hltiv3 h
  unfold ref8_Chosen_l1 at h
  try dsimp only at h ⊢
  refine AWP.seq (.seq (.region (.move rfl rfl (.move rfl rfl (S.len rfl rfl (fun hl8 => .lss rfl rfl rfl (.nil (thn_normal (.condP rfl hltiv3 (.skip (thn_normal (.seq (.block (.seq ?_))))))))))))))
  obtain ⟨a14, ha14, h⟩ := bind_some h
  obtain ⟨a18, ha18, h⟩ := bind_some h
  refine AWP.region (.move rfl rfl (.move rfl rfl (S.idx ha14 rfl rfl rfl rfl (W.fieldAddrI rfl rfl rfl rfl (.loadI rfl rfl rfl rfl (.move rfl rfl (.callR rfl rfl rfl rfl (ref1_Ints_ok ha18) rfl (.nil (thn_normal (.iteB rfl h (fun hc4 h => ?_) (fun hc4 h => ?_)))))))))))
  ·refine AWP.seq ?_
   obtain ⟨a21, ha21, h⟩ := bind_some h
   refine AWP.region (.move rfl rfl (.move rfl rfl (S.idx ha21 rfl rfl rfl rfl (W.fieldAddrI rfl rfl rfl rfl (.loadI rfl rfl rfl rfl (.assign rfl rfl (.nil (thn_normal (.ret (inB_ret (thn_ret ?_)))))))))))
   have ej := Option.some.inj h
   subst ej
   refine thn_ret ⟨_, rfl, rfl, ?_⟩
   exact Done.ret rfl rfl
  ·refine AWP.skip (inB_normal (thn_normal (.region (.move rfl rfl (.add rfl rfl rfl (by omega) (.assign rfl rfl (.nil ?_)))))))
   have ej := Option.some.inj h
   subst ej
   refine thn_normal ⟨_, rfl, ?_⟩
   exact Sub.env ⟨rfl, rfl, rfl, trivial⟩
 ·intro e s hq
  rcases oo with u | x
  ·try dsimp only at h hq
   obtain ⟨rfl, hs⟩ := hq
   refine ⟨_, hs, ?_⟩
   refine inB_exit (thn_normal (.seq (.region (.assign rfl rfl (.nil (thn_normal (.ret ?_)))))))
   have ej := Option.some.inj h
   subst ej
   exact Done.ret rfl rfl
  ·try dsimp only at h hq
   obtain ⟨rfl, hs⟩ := hq
   refine ⟨_, Sub.refl _ _, ?_⟩
   refine inB_ret (thn_ret ?_)
   have ej := Option.some.inj h
   subst ej
   exact hs
end Ab
end
section
namespace Ab
open Go Go.Proofs
set_option maxHeartbeats 4000000
set_option linter.all false
attribute [local irreducible] AWP AOps thn inB Done PureOk FreshOk Sub
theorem ref1_Place_ok {l : List (List Int)} {sv : List Int} {r : Int} (h : ref1_Place l sv = some r) : PureOk Try.prog 15 [.c (row 1 eLi64 l), .c (row 1 intI sv)] (.c (int r)) := by
 unfold PureOk
 refine FnOk.enter (rs := [.t 4]) Try.func15 rfl Try.ntmps15 Try.results15 rfl ⟨trivial, trivial⟩ (by kernel_rfl) rfl ?_
 unfold ref1_Place at h
 refine AWP.seq (.region (.assign rfl rfl (.nil (thn_normal (.seq (.seq (.region (.assign rfl rfl (.nil (thn_normal (.block ?_)))))))))))
 obtain ⟨oo, ho1, h⟩ := bind_some h
 refine AWP.rngS ho1 (fun iv3 _ => ⟨[(0, .c (row 1 eLi64 l)), (1, .c (row 1 intI sv)), (5, .c (int iv3))], []⟩) (fun o e st => match o with | .inl _ => e = .exit 0 ∧ Sub [] st ⟨[], []⟩ | .inr x => e = .ret ∧ Done [.t 4] (fun t _ => t = .c (int x)) .ret st) ?_ ?_ ?_ ?_
 ·try dsimp only
  exact Sub.env ⟨rfl, rfl, rfl, trivial⟩
 ·intro iv3 s hloiv3 hltiv3 _
  try dsimp only
  refine AWP.seq (.seq (.region (.move rfl rfl (.move rfl rfl (S.len rfl rfl (fun hl8 => .lss rfl rfl rfl (.nil (thn_normal (.condNP rfl hltiv3 (.exit (thn_exit (thn_exit ⟨rfl, ?_⟩))))))))))))
  exact Sub.env trivial
 ·intro iv3 s o hloiv3 hltiv3 h
  unfold ref1_Place_l1 at h
  try dsimp only at h ⊢
  refine AWP.seq (.seq (.region (.move rfl rfl (.move rfl rfl (S.len rfl rfl (fun hl8 => .lss rfl rfl rfl (.nil (thn_normal (.condP rfl hltiv3 (.skip (thn_normal (.seq (.block (.seq ?_))))))))))))))
  obtain ⟨a14, ha14, h⟩ := bind_some h
  obtain ⟨a17, ha17, h⟩ := bind_some h
  refine AWP.region (.move rfl rfl (.move rfl rfl (S.idx ha14 rfl rfl rfl rfl (.loadI rfl rfl rfl rfl (.move rfl rfl (.callR rfl rfl rfl rfl (ref1_Ints_ok ha17) rfl (.nil (thn_normal (.iteB rfl h (fun hc4 h => ?_) (fun hc4 h => ?_))))))))))
  ·refine AWP.seq (.region (.move rfl rfl (.assign rfl rfl (.nil (thn_normal (.ret (inB_ret (thn_ret ?_))))))))
   have ej := Option.some.inj h
   subst ej
   refine thn_ret ⟨_, rfl, rfl, ?_⟩
   exact Done.ret rfl rfl
  ·refine AWP.skip (inB_normal (thn_normal (.region (.move rfl rfl (.add rfl rfl rfl (by omega) (.assign rfl rfl (.nil ?_)))))))
   have ej := Option.some.inj h
   subst ej
   refine thn_normal ⟨_, rfl, ?_⟩
   exact Sub.env ⟨rfl, rfl, rfl, trivial⟩
 ·intro e s hq
  rcases oo with u | x
  ·try dsimp only at h hq
   obtain ⟨rfl, hs⟩ := hq
   refine ⟨_, hs, ?_⟩
   refine inB_exit (thn_normal (.seq (.region (.assign rfl rfl (.nil (thn_normal (.ret ?_)))))))
   have ej := Option.some.inj h
   subst ej
   exact Done.ret rfl rfl
  ·try dsimp only at h hq
   obtain ⟨rfl, hs⟩ := hq
   refine ⟨_, Sub.refl _ _, ?_⟩
   refine inB_ret (thn_ret ?_)
   have ej := Option.some.inj h
   subst ej
   exact hs
theorem law8_OpenFollowsOutcomes_ok {ov : TOpenTask} {p : List TChoice} {outcomes : List Int} {iv : Int} {r : Bool} (h : law8_OpenFollowsOutcomes ov p outcomes iv = some r) : PureOk Try.prog 4 [.agg [int ov.facts, row 1 intI ov.init, row 1 intI ov.goal, row 3 eTOpenOperator ov.operators], .c (row 2 eTChoice p), .c (row 1 intI outcomes), .c (int iv)] (.c (bool r)) := by
 unfold PureOk
 refine FnOk.enter (rs := [.t 8]) Try.func4 rfl Try.ntmps4 Try.results4 rfl ⟨trivial, trivial⟩ (by kernel_rfl) rfl ?_
 unfold law8_OpenFollowsOutcomes at h
 refine AWP.seq (.region (W.box rfl rfl rfl rfl rfl rfl (.assign rfl rfl (.nil (thn_normal (.seq ?_))))))
 obtain ⟨a19, ha19, h⟩ := bind_some h
 refine AWP.region (W.loadAgg rfl rfl rfl rfl rfl rfl rfl (.move rfl rfl (.move rfl rfl (.callR rfl rfl rfl rfl (open_Follow_ok ha19) rfl (.move rfl rfl (.extract rfl rfl rfl (.extract rfl rfl rfl (W.alloc rfl rfl rfl rfl (.assign rfl rfl (W.storeAgg rfl rfl rfl rfl rfl rfl rfl (.nil (thn_normal (.seq ?_)))))))))))))
 obtain ⟨t5, hx6, h⟩ := bind_some h
 refine AWP.seqJ (⟨[(1, .c (row 2 eTChoice p)), (3, .c (int iv)), (4, .c (.ptr 0 0 0)), (9, .c (row 1 eLi64 a19.1)), (32, .c (bool t5))], [.one (.cells 4 [[int ov.facts, row 1 intI ov.init, row 1 intI ov.goal, row 3 eTOpenOperator ov.operators]])]⟩) ?_ ?_
 ·rcases Bool.eq_false_or_eq_true (!(decide (a19.2.code = 0))) with hb7 | hb7
  ·replace hx6 := iteBT hb7 hx6
   refine AWP.region (W.fieldAddr rfl rfl rfl rfl (.load rfl rfl rfl rfl rfl rfl (.neq rfl rfl rfl (.move rfl rfl (.guardF rfl rfl rfl hb7 (.guardF rfl rfl rfl hb7 (.guardF rfl rfl rfl hb7 (.guardF rfl rfl rfl hb7 (.guardF rfl rfl rfl hb7 (.guardF rfl rfl rfl hb7 (.pickT rfl hb7 rfl rfl (.nil ?_))))))))))))
   have ej := Option.some.inj hx6
   subst ej
   refine thn_normal (Sub.cut ⟨rfl, rfl, rfl, rfl, rfl, trivial⟩ rfl ⟨.one rfl, trivial⟩ rfl)
  ·replace hx6 := iteBF hb7 hx6
   obtain ⟨a30, ha30, hx6⟩ := bind_some hx6
   refine AWP.region (W.fieldAddr rfl rfl rfl rfl (.load rfl rfl rfl rfl rfl rfl (.neq rfl rfl rfl (.move rfl rfl (.guardT rfl rfl rfl hb7 (.move rfl rfl (.guardT rfl rfl rfl hb7 (.move rfl rfl ?_))))))))
   refine AOps.guardT rfl rfl rfl hb7 ?_; refine S.len rfl rfl (fun hl28 => ?_)
   refine AOps.guardT rfl rfl rfl hb7 (.sub' rfl rfl rfl (by omega) (.guardT rfl rfl rfl hb7 (.callR rfl rfl rfl rfl (ref1_In_ok ha30) rfl (.guardT rfl rfl rfl hb7 (.not rfl rfl (.pickF rfl hb7 rfl rfl (.nil ?_)))))))
   have ej := Option.some.inj hx6
   subst ej
   refine thn_normal (Sub.cut ⟨rfl, rfl, rfl, rfl, rfl, trivial⟩ rfl ⟨.one rfl, trivial⟩ rfl)
 ·refine AWP.iteB rfl h (fun hc8 h => ?_) (fun hc8 h => ?_)
  ·refine AWP.seq ?_
   obtain ⟨a33, ha33, h⟩ := bind_some h
   refine AWP.region (.callR rfl rfl rfl rfl (law8_tossed_ok ha33) rfl (.assign rfl rfl (.nil (thn_normal (.ret (thn_ret ?_))))))
   have ej := Option.some.inj h
   subst ej
   exact Done.ret rfl rfl
  ·refine AWP.skip (thn_normal (.seq ?_))
   obtain ⟨a37, ha37, h⟩ := bind_some h
   obtain ⟨a39, ha39, h⟩ := bind_some h
   refine AWP.region (.move rfl rfl (.move rfl rfl (.move rfl rfl (S.idx ha37 rfl rfl rfl rfl (.loadI rfl rfl rfl rfl (.callR rfl rfl rfl rfl (ref8_Chosen_ok ha39) rfl (.assign rfl rfl (.nil (thn_normal (.seq ?_))))))))))
   obtain ⟨a44, ha44, h⟩ := bind_some h
   obtain ⟨a47, ha47, h⟩ := bind_some h
   refine AWP.drawEI [11, 14] mixed rfl rfl rfl ?_
   apply DrawSeqE.consN; exact rfl; exact rfl; intro E
   refine W.loadAgg rfl rfl rfl rfl rfl rfl rfl (.nil ⟨rfl, rfl⟩)
   exact rfl
   apply DrawSeqE.consN; exact rfl; exact rfl; intro E
   refine AOps.move rfl rfl (.nil ⟨rfl, rfl⟩)
   exact rfl
   apply DrawSeqE.consN; exact rfl; exact rfl; intro E
   refine AOps.move rfl rfl (.nil ⟨rfl, rfl⟩)
   exact rfl
   apply DrawSeqE.consN; exact rfl; exact rfl; intro E
   refine S.idx ha44 rfl rfl rfl rfl (.nil ⟨rfl, rfl⟩)
   exact rfl
   apply DrawSeqE.consN; exact rfl; exact rfl; intro E
   refine AOps.loadI rfl rfl rfl rfl (.nil ⟨rfl, rfl⟩)
   exact rfl
   apply DrawSeqE.consN; exact rfl; exact rfl; intro E
   refine AOps.move rfl rfl (.nil ⟨rfl, rfl⟩)
   exact rfl
   apply DrawSeqE.consN; exact rfl; exact rfl; intro E
   refine AOps.callR rfl rfl rfl rfl (open_Outcomes_ok ha47) rfl (.nil ⟨rfl, rfl⟩)
   exact rfl
   apply DrawSeqE.consN; exact rfl; exact rfl; intro E
   refine AOps.move rfl rfl (.nil ⟨rfl, rfl⟩)
   exact rfl
   apply DrawSeqE.consN; exact rfl; exact rfl; intro E
   refine AOps.extract rfl rfl rfl (.nil ⟨rfl, rfl⟩)
   exact rfl
   apply DrawSeqE.consN; exact rfl; exact rfl; intro E
   refine AOps.extract rfl rfl rfl (.nil ⟨rfl, rfl⟩)
   exact rfl
   apply DrawSeqE.consN; exact rfl; exact rfl; intro E
   refine AOps.extract rfl rfl rfl (.nil ⟨rfl, rfl⟩)
   exact rfl
   apply DrawSeqE.consE; exact rfl; exact rfl; intro E
   refine W.alloc rfl rfl rfl rfl (.nil ⟨rfl, rfl⟩)
   exact rfl
   exact rfl
   apply DrawSeqE.consN; exact rfl; exact rfl; intro E
   refine AOps.assign rfl rfl (.nil ⟨rfl, rfl⟩)
   exact rfl
   apply DrawSeqE.consN; exact rfl; exact rfl; intro E
   refine AOps.assign rfl rfl (.nil ⟨rfl, rfl⟩)
   exact rfl
   apply DrawSeqE.consE (v := .undef); exact rfl; exact rfl; intro E
   refine W.storeAgg rfl rfl rfl rfl rfl rfl rfl (.nil ⟨rfl, rfl⟩)
   exact rfl
   exact rfl
   refine DrawSeqE.done rfl ?_ ?_
   ·apply RestI.cons; exact rfl; exact rfl
    first | refine RestK.skip rfl ?_ | (apply RestK.go; exact rfl; exact rfl; intro E; (refine W.loadAgg rfl rfl rfl rfl rfl rfl rfl ?_); exact AOps.nil ⟨rfl, rfl⟩)
    first | refine RestK.skip rfl ?_ | (apply RestK.go; exact rfl; exact rfl; intro E; (refine W.loadAgg rfl rfl rfl rfl rfl rfl rfl ?_); exact AOps.nil ⟨rfl, rfl⟩)
    first | refine RestK.skip rfl ?_ | (apply RestK.go; exact rfl; exact rfl; intro E; (refine W.loadAgg rfl rfl rfl rfl rfl rfl rfl ?_); exact AOps.nil ⟨rfl, rfl⟩)
    exact RestK.nil
    apply RestI.cons; exact rfl; exact rfl
    first | refine RestK.skip rfl ?_ | (apply RestK.go; exact rfl; exact rfl; intro E; (refine AOps.move rfl rfl ?_); exact AOps.nil ⟨rfl, rfl⟩)
    first | refine RestK.skip rfl ?_ | (apply RestK.go; exact rfl; exact rfl; intro E; (refine AOps.move rfl rfl ?_); exact AOps.nil ⟨rfl, rfl⟩)
    first | refine RestK.skip rfl ?_ | (apply RestK.go; exact rfl; exact rfl; intro E; (refine AOps.move rfl rfl ?_); exact AOps.nil ⟨rfl, rfl⟩)
    exact RestK.nil
    apply RestI.cons; exact rfl; exact rfl
    first | refine RestK.skip rfl ?_ | (apply RestK.go; exact rfl; exact rfl; intro E; (refine AOps.move rfl rfl ?_); exact AOps.nil ⟨rfl, rfl⟩)
    first | refine RestK.skip rfl ?_ | (apply RestK.go; exact rfl; exact rfl; intro E; (refine AOps.move rfl rfl ?_); exact AOps.nil ⟨rfl, rfl⟩)
    first | refine RestK.skip rfl ?_ | (apply RestK.go; exact rfl; exact rfl; intro E; (refine AOps.move rfl rfl ?_); exact AOps.nil ⟨rfl, rfl⟩)
    exact RestK.nil
    apply RestI.cons; exact rfl; exact rfl
    first | refine RestK.skip rfl ?_ | (apply RestK.go; exact rfl; exact rfl; intro E; (refine S.idx ha44 rfl rfl rfl rfl ?_); exact AOps.nil ⟨rfl, rfl⟩)
    first | refine RestK.skip rfl ?_ | (apply RestK.go; exact rfl; exact rfl; intro E; (refine S.idx ha44 rfl rfl rfl rfl ?_); exact AOps.nil ⟨rfl, rfl⟩)
    first | refine RestK.skip rfl ?_ | (apply RestK.go; exact rfl; exact rfl; intro E; (refine S.idx ha44 rfl rfl rfl rfl ?_); exact AOps.nil ⟨rfl, rfl⟩)
    exact RestK.nil
    apply RestI.cons; exact rfl; exact rfl
    first | refine RestK.skip rfl ?_ | (apply RestK.go; exact rfl; exact rfl; intro E; (refine AOps.loadI rfl rfl rfl rfl ?_); exact AOps.nil ⟨rfl, rfl⟩)
    first | refine RestK.skip rfl ?_ | (apply RestK.go; exact rfl; exact rfl; intro E; (refine AOps.loadI rfl rfl rfl rfl ?_); exact AOps.nil ⟨rfl, rfl⟩)
    first | refine RestK.skip rfl ?_ | (apply RestK.go; exact rfl; exact rfl; intro E; (refine AOps.loadI rfl rfl rfl rfl ?_); exact AOps.nil ⟨rfl, rfl⟩)
    exact RestK.nil
    apply RestI.cons; exact rfl; exact rfl
    first | refine RestK.skip rfl ?_ | (apply RestK.go; exact rfl; exact rfl; intro E; (refine AOps.move rfl rfl ?_); exact AOps.nil ⟨rfl, rfl⟩)
    first | refine RestK.skip rfl ?_ | (apply RestK.go; exact rfl; exact rfl; intro E; (refine AOps.move rfl rfl ?_); exact AOps.nil ⟨rfl, rfl⟩)
    first | refine RestK.skip rfl ?_ | (apply RestK.go; exact rfl; exact rfl; intro E; (refine AOps.move rfl rfl ?_); exact AOps.nil ⟨rfl, rfl⟩)
    exact RestK.nil
    apply RestI.cons; exact rfl; exact rfl
    first | refine RestK.skip rfl ?_ | (apply RestK.go; exact rfl; exact rfl; intro E; (refine AOps.callR rfl rfl rfl rfl (open_Outcomes_ok ha47) rfl ?_); exact AOps.nil ⟨rfl, rfl⟩)
    first | refine RestK.skip rfl ?_ | (apply RestK.go; exact rfl; exact rfl; intro E; (refine AOps.callR rfl rfl rfl rfl (open_Outcomes_ok ha47) rfl ?_); exact AOps.nil ⟨rfl, rfl⟩)
    first | refine RestK.skip rfl ?_ | (apply RestK.go; exact rfl; exact rfl; intro E; (refine AOps.callR rfl rfl rfl rfl (open_Outcomes_ok ha47) rfl ?_); exact AOps.nil ⟨rfl, rfl⟩)
    exact RestK.nil
    apply RestI.cons; exact rfl; exact rfl
    first | refine RestK.skip rfl ?_ | (apply RestK.go; exact rfl; exact rfl; intro E; (refine AOps.move rfl rfl ?_); exact AOps.nil ⟨rfl, rfl⟩)
    first | refine RestK.skip rfl ?_ | (apply RestK.go; exact rfl; exact rfl; intro E; (refine AOps.move rfl rfl ?_); exact AOps.nil ⟨rfl, rfl⟩)
    first | refine RestK.skip rfl ?_ | (apply RestK.go; exact rfl; exact rfl; intro E; (refine AOps.move rfl rfl ?_); exact AOps.nil ⟨rfl, rfl⟩)
    exact RestK.nil
    apply RestI.cons; exact rfl; exact rfl
    first | refine RestK.skip rfl ?_ | (apply RestK.go; exact rfl; exact rfl; intro E; (refine AOps.extract rfl rfl rfl ?_); exact AOps.nil ⟨rfl, rfl⟩)
    first | refine RestK.skip rfl ?_ | (apply RestK.go; exact rfl; exact rfl; intro E; (refine AOps.extract rfl rfl rfl ?_); exact AOps.nil ⟨rfl, rfl⟩)
    first | refine RestK.skip rfl ?_ | (apply RestK.go; exact rfl; exact rfl; intro E; (refine AOps.extract rfl rfl rfl ?_); exact AOps.nil ⟨rfl, rfl⟩)
    exact RestK.nil
    apply RestI.cons; exact rfl; exact rfl
    first | refine RestK.skip rfl ?_ | (apply RestK.go; exact rfl; exact rfl; intro E; (refine AOps.extract rfl rfl rfl ?_); exact AOps.nil ⟨rfl, rfl⟩)
    first | refine RestK.skip rfl ?_ | (apply RestK.go; exact rfl; exact rfl; intro E; (refine AOps.extract rfl rfl rfl ?_); exact AOps.nil ⟨rfl, rfl⟩)
    first | refine RestK.skip rfl ?_ | (apply RestK.go; exact rfl; exact rfl; intro E; (refine AOps.extract rfl rfl rfl ?_); exact AOps.nil ⟨rfl, rfl⟩)
    exact RestK.nil
    apply RestI.cons; exact rfl; exact rfl
    first | refine RestK.skip rfl ?_ | (apply RestK.go; exact rfl; exact rfl; intro E; (refine AOps.extract rfl rfl rfl ?_); exact AOps.nil ⟨rfl, rfl⟩)
    first | refine RestK.skip rfl ?_ | (apply RestK.go; exact rfl; exact rfl; intro E; (refine AOps.extract rfl rfl rfl ?_); exact AOps.nil ⟨rfl, rfl⟩)
    first | refine RestK.skip rfl ?_ | (apply RestK.go; exact rfl; exact rfl; intro E; (refine AOps.extract rfl rfl rfl ?_); exact AOps.nil ⟨rfl, rfl⟩)
    exact RestK.nil
    refine RestI.skip rfl ?_
    apply RestI.cons; exact rfl; exact rfl
    first | refine RestK.skip rfl ?_ | (apply RestK.go; exact rfl; exact rfl; intro E; (refine AOps.assign rfl rfl ?_); exact AOps.nil ⟨rfl, rfl⟩)
    first | refine RestK.skip rfl ?_ | (apply RestK.go; exact rfl; exact rfl; intro E; (refine AOps.assign rfl rfl ?_); exact AOps.nil ⟨rfl, rfl⟩)
    first | refine RestK.skip rfl ?_ | (apply RestK.go; exact rfl; exact rfl; intro E; (refine AOps.assign rfl rfl ?_); exact AOps.nil ⟨rfl, rfl⟩)
    exact RestK.nil
    apply RestI.cons; exact rfl; exact rfl
    first | refine RestK.skip rfl ?_ | (apply RestK.go; exact rfl; exact rfl; intro E; (refine AOps.assign rfl rfl ?_); exact AOps.nil ⟨rfl, rfl⟩)
    first | refine RestK.skip rfl ?_ | (apply RestK.go; exact rfl; exact rfl; intro E; (refine AOps.assign rfl rfl ?_); exact AOps.nil ⟨rfl, rfl⟩)
    first | refine RestK.skip rfl ?_ | (apply RestK.go; exact rfl; exact rfl; intro E; (refine AOps.assign rfl rfl ?_); exact AOps.nil ⟨rfl, rfl⟩)
    exact RestK.nil
    refine RestI.skip rfl (RestI.nil)
   dsimp only [envEnd]
   refine thn_normal ?_
   obtain ⟨t9, hx10, h⟩ := bind_some h
   refine AWP.seqJ (⟨[(8, .c (bool t9))], []⟩) ?_ ?_
   ·rcases Bool.eq_false_or_eq_true (decide (a47.2.2.code = 0)) with hb11 | hb11
    ·replace hx10 := iteDT hb11 hx10
     obtain ⟨a59, ha59, hx10⟩ := bind_some hx10
     obtain ⟨a61, ha61, hx10⟩ := bind_some hx10
     rcases Bool.eq_false_or_eq_true (decide (0 ≤ a61)) with hb12 | hb12
     ·replace hx10 := iteDT hb12 hx10
      obtain ⟨a65, ha65, hx10⟩ := bind_some hx10
      refine AWP.region (W.fieldAddr rfl rfl rfl rfl (.load rfl rfl rfl rfl rfl rfl (.eql rfl rfl rfl (.move rfl rfl (.guardT rfl rfl rfl hb11 (.move rfl rfl (.guardT rfl rfl rfl hb11 (.move rfl rfl (.guardT rfl rfl rfl hb11 (.move rfl rfl (.guardT rfl rfl rfl hb11 (S.add rfl rfl rfl (.guardT rfl rfl rfl hb11 (S.idx ha59 rfl rfl rfl rfl (.guardT rfl rfl rfl hb11 (.loadI rfl rfl rfl rfl (.guardT rfl rfl rfl hb11 (.callR rfl rfl rfl rfl (ref1_Place_ok ha61) rfl (.guardT rfl rfl rfl hb11 (.geq rfl rfl rfl (.pickT rfl hb11 rfl rfl (.move rfl rfl (.guardT rfl rfl rfl hb12 (.callR rfl rfl rfl rfl (law8_tossed_ok ha65) rfl (.pickT rfl hb12 rfl rfl (.assign rfl rfl (.nil ?_)))))))))))))))))))))))))))
      have ej := Option.some.inj hx10
      subst ej
      refine thn_normal (Sub.cut ⟨rfl, trivial⟩ rfl trivial rfl)
     ·replace hx10 := iteDF hb12 hx10
      refine AWP.region (W.fieldAddr rfl rfl rfl rfl (.load rfl rfl rfl rfl rfl rfl (.eql rfl rfl rfl (.move rfl rfl (.guardT rfl rfl rfl hb11 (.move rfl rfl (.guardT rfl rfl rfl hb11 (.move rfl rfl (.guardT rfl rfl rfl hb11 (.move rfl rfl (.guardT rfl rfl rfl hb11 (S.add rfl rfl rfl (.guardT rfl rfl rfl hb11 (S.idx ha59 rfl rfl rfl rfl (.guardT rfl rfl rfl hb11 (.loadI rfl rfl rfl rfl (.guardT rfl rfl rfl hb11 (.callR rfl rfl rfl rfl (ref1_Place_ok ha61) rfl (.guardT rfl rfl rfl hb11 (.geq rfl rfl rfl (.pickT rfl hb11 rfl rfl (.move rfl rfl (.guardF rfl rfl rfl hb12 (.pickF rfl hb12 rfl rfl (.assign rfl rfl (.nil ?_))))))))))))))))))))))))))
      have ej := Option.some.inj hx10
      subst ej
      refine thn_normal (Sub.cut ⟨rfl, trivial⟩ rfl trivial rfl)
    ·replace hx10 := iteDF hb11 hx10
     refine AWP.region (W.fieldAddr rfl rfl rfl rfl (.load rfl rfl rfl rfl rfl rfl (.eql rfl rfl rfl (.move rfl rfl (.guardF rfl rfl rfl hb11 (.guardF rfl rfl rfl hb11 (.guardF rfl rfl rfl hb11 (.guardF rfl rfl rfl hb11 (.guardF rfl rfl rfl hb11 (.guardF rfl rfl rfl hb11 (.guardF rfl rfl rfl hb11 (.guardF rfl rfl rfl hb11 (.pickF rfl hb11 rfl rfl (.move rfl rfl (.guardF rfl rfl rfl rfl (.pickF rfl rfl rfl rfl (.assign rfl rfl (.nil ?_))))))))))))))))))
     have ej := Option.some.inj hx10
     subst ej
     refine thn_normal (Sub.cut ⟨rfl, trivial⟩ rfl trivial rfl)
   ·refine AWP.ret ?_
    have ej := Option.some.inj h
    subst ej
    exact Done.ret rfl rfl
end Ab
end
section
namespace Ab
open Go
theorem ix_nat {α : Type} {l : List α} {k : Nat} : ix l (k : Int) = l[k]? := by simp [ix]
theorem ix_of {α : Type} {l : List α} {i : Int} (h0 : 0 ≤ i) (h1 : i < l.length) : ∃ a, ix l i = some a ∧ l[i.toNat]? = some a := by
  have h : i.toNat < l.length := by omega
  exact ⟨l[i.toNat], by simp [ix, h0, h], by simp [h]⟩
theorem ix_lo {α : Type} {l : List α} {i : Int} {a : α} (h : ix l i = some a) : 0 ≤ i ∧ i < l.length ∧ l[i.toNat]? = some a := by
  unfold ix at h
  split at h
  · have := (List.getElem?_eq_some_iff.1 h).1
    exact ⟨by assumption, by omega, h⟩
  · cases h
theorem w64_of {n : Int} (h1 : -9223372036854775808 ≤ n) (h2 : n ≤ 9223372036854775807) : w64 n = n := w64_eq ⟨h1, h2⟩
theorem forN_inv {S : Type} {body : Int → S → Option S} (P : Int → S → Prop) : ∀ (k : Nat) (i : Int) (s : S), P i s →
    (∀ j s, i ≤ j → j < i + k → P j s → ∃ s', body j s = some s' ∧ P (j + 1) s') → ∃ s', forN body k i s = some s' ∧ P (i + k) s'
  | 0, i, s, h, _ => ⟨s, rfl, by simpa using h⟩
  | k + 1, i, s, h, hb => by
    obtain ⟨s1, h1, h2⟩ := hb i s (Int.le_refl _) (by omega) h
    obtain ⟨s2, h3, h4⟩ := forN_inv P k (i + 1) s1 h2 (fun j s g1 g2 => hb j s (by omega) (by omega))
    exact ⟨s2, by simp only [forN, h1]; exact h3, by rw [show i + ((k + 1 : Nat) : Int) = i + 1 + k by omega]; exact h4⟩
/-- A loop over numbers, from what it keeps. -/
theorem forR_inv {S : Type} {body : Int → S → Option S} {n : Int} (P : Int → S → Prop) {s : S} (hn : 0 ≤ n) (h0 : P 0 s)
    (hb : ∀ j s, 0 ≤ j → j < n → P j s → ∃ s', body j s = some s' ∧ P (j + 1) s') : ∃ s', forR 0 n body s = some s' ∧ P n s' := by
  obtain ⟨s', h1, h2⟩ := forN_inv P (n - 0).toNat 0 s h0 (fun j s g1 g2 => hb j s g1 (by omega))
  exact ⟨s', h1, by rwa [show (0 : Int) + ((n - 0).toNat : Int) = n by omega] at h2⟩
theorem rngN_inv {S O : Type} {body : Int → S → Option (S ⊕ O)} (P : Int → S → Prop) (Q : O → Prop) : ∀ (k : Nat) (i : Int) (s : S), P i s →
    (∀ j s, i ≤ j → j < i + k → P j s → (∃ s', body j s = some (.inl s') ∧ P (j + 1) s') ∨ ∃ o, body j s = some (.inr o) ∧ Q o) →
    (∃ s', rngN body k i s = some (.inl s') ∧ P (i + k) s') ∨ ∃ o, rngN body k i s = some (.inr o) ∧ Q o
  | 0, i, s, h, _ => .inl ⟨s, rfl, by simpa using h⟩
  | k + 1, i, s, h, hb => by
    rcases hb i s (Int.le_refl _) (by omega) h with ⟨s1, h1, h2⟩ | ⟨o, h1, h2⟩
    · rcases rngN_inv P Q k (i + 1) s1 h2 (fun j s g1 g2 => hb j s (by omega) (by omega)) with ⟨s2, h3, h4⟩ | ⟨o, h3, h4⟩
      · exact .inl ⟨s2, by simp only [rngN, h1]; exact h3, by rw [show i + ((k + 1 : Nat) : Int) = i + 1 + k by omega]; exact h4⟩
      · exact .inr ⟨o, by simp only [rngN, h1]; exact h3, h4⟩
    · exact .inr ⟨o, by simp only [rngN, h1], h2⟩
/-- A loop over numbers with ways out, from what it keeps. -/
theorem rngX_inv {S O : Type} {body : Int → S → Option (S ⊕ O)} {n : Int} (P : Int → S → Prop) (Q : O → Prop) {s : S} (hn : 0 ≤ n) (h0 : P 0 s)
    (hb : ∀ j s, 0 ≤ j → j < n → P j s → (∃ s', body j s = some (.inl s') ∧ P (j + 1) s') ∨ ∃ o, body j s = some (.inr o) ∧ Q o) :
    (∃ s', rngX 0 n body s = some (.inl s') ∧ P n s') ∨ ∃ o, rngX 0 n body s = some (.inr o) ∧ Q o := by
  rcases rngN_inv P Q (n - 0).toNat 0 s h0 (fun j s g1 g2 => hb j s g1 (by omega)) with ⟨s', h1, h2⟩ | h
  · exact .inl ⟨s', h1, by rwa [show (0 : Int) + ((n - 0).toNat : Int) = n by omega] at h2⟩
  · exact .inr h
theorem LoopN_inv {S O : Type} {body : S → Option (S ⊕ O)} (P : S → Prop) (Q : O → Prop) (μ : S → Nat) (hb : ∀ s, P s → (∃ s', body s = some (.inl s') ∧ P s' ∧ μ s' < μ s) ∨ ∃ o, body s = some (.inr o) ∧ Q o) :
    ∀ (k : Nat) (s : S), μ s < k → P s → ∃ o, LoopN body k s = some o ∧ Q o
  | 0, s, h, _ => by omega
  | k + 1, s, h, hs => by
    rcases hb s hs with ⟨s', h1, h2, h3⟩ | ⟨o, h1, h2⟩
    · obtain ⟨o, g1, g2⟩ := LoopN_inv P Q μ hb k s' (by omega) h2
      exact ⟨o, by simp only [LoopN, h1]; exact g1, g2⟩
    · exact ⟨o, by simp only [LoopN, h1], h2⟩
/-- A loop, from what it keeps and a measure that sinks. -/
theorem Loop_inv {S O : Type} {body : S → Option (S ⊕ O)} (P : S → Prop) (Q : O → Prop) (μ : S → Nat) {s : S} (hs : P s)
    (hb : ∀ s, P s → (∃ s', body s = some (.inl s') ∧ P s' ∧ μ s' < μ s) ∨ ∃ o, body s = some (.inr o) ∧ Q o) : ∃ o, Loop body s = some o ∧ Q o := by
  obtain ⟨o, h1, h2⟩ := LoopN_inv P Q μ hb (μ s + 1) s (by omega) hs
  exact ⟨o, Loop_iff.2 ⟨_, h1⟩, h2⟩
/-! ### Two loops that do the same -/
theorem rngN_eq {S O : Type} {b1 b2 : Int → S → Option (S ⊕ O)} (P : Int → S → Prop) : ∀ (k : Nat) (i : Int) (s : S), P i s →
    (∀ j s, i ≤ j → j < i + k → P j s → b1 j s = b2 j s ∧ b1 j s ≠ none ∧ ∀ s', b1 j s = some (.inl s') → P (j + 1) s') →
    rngN b1 k i s = rngN b2 k i s ∧ rngN b1 k i s ≠ none ∧ ∀ s', rngN b1 k i s = some (.inl s') → P (i + k) s'
  | 0, i, s, h, _ => ⟨rfl, by simp [rngN], fun s' hs => by simp only [rngN, Option.some.injEq, Sum.inl.injEq] at hs; subst hs; simpa using h⟩
  | k + 1, i, s, h, hb => by
    obtain ⟨h1, h2, h3⟩ := hb i s (Int.le_refl _) (by omega) h
    simp only [rngN]
    rw [← h1]
    cases hc : b1 i s with
    | none => exact absurd hc h2
    | some x =>
      cases x with
      | inr o => exact ⟨rfl, by simp, fun s' hs => by simp at hs⟩
      | inl s1 =>
        dsimp only
        have := rngN_eq (b1 := b1) (b2 := b2) P k (i + 1) s1 (h3 s1 hc) (fun j s g1 g2 => hb j s (by omega) (by omega))
        rwa [show i + 1 + (k : Int) = i + ((k + 1 : Nat) : Int) by omega] at this
theorem rngX_eq {S O : Type} {b1 b2 : Int → S → Option (S ⊕ O)} {n : Int} (P : Int → S → Prop) {s : S} (hn : 0 ≤ n) (h0 : P 0 s)
    (hb : ∀ j s, 0 ≤ j → j < n → P j s → b1 j s = b2 j s ∧ b1 j s ≠ none ∧ ∀ s', b1 j s = some (.inl s') → P (j + 1) s') :
    rngX 0 n b1 s = rngX 0 n b2 s ∧ rngX 0 n b1 s ≠ none ∧ ∀ s', rngX 0 n b1 s = some (.inl s') → P n s' := by
  have := rngN_eq P (n - 0).toNat 0 s h0 (fun j s g1 g2 => hb j s g1 (by omega))
  rwa [show (0 : Int) + ((n - 0).toNat : Int) = n by omega] at this
end Ab
end
section
namespace Ab
open Go
/-- A proposition as' a truth value. -/
noncomputable def dec (p : Prop) : Bool := @decide p (Classical.propDecidable p)
@[simp] theorem dec_true {p : Prop} : dec p = true ↔ p := by simp [dec]
@[simp] theorem dec_false {p : Prop} : dec p = false ↔ ¬ p := by simp [dec]
@[simp] theorem dec_not {p : Prop} : (!dec p) = dec (¬ p) := by by_cases h : p <;> simp [dec, h]
theorem decide_dec {p : Prop} [Decidable p] : decide p = dec p := by by_cases h : p <;> simp [dec, h]
theorem dec_of {p : Prop} (h : p) : dec p = true := dec_true.2 h
theorem dec_no {p : Prop} (h : ¬ p) : dec p = false := dec_false.2 h
theorem dec_congr {p q : Prop} (h : p ↔ q) : dec p = dec q := by rw [propext h]
theorem dec_and {p q : Prop} : (dec p && dec q) = dec (p ∧ q) := by by_cases h : p <;> by_cases g : q <;> simp [dec, h, g]
theorem ifP {α : Type} {p : Prop} {a b : α} (h : p) : (if dec p = true then a else b) = a := if_pos (dec_of h)
theorem ifN {α : Type} {p : Prop} {a b : α} (h : ¬ p) : (if dec p = true then a else b) = b := if_neg fun g => h (dec_true.1 g)
theorem ifNN {α : Type} {p : Prop} {a b : α} (h : p) : (if dec (¬ p) = true then a else b) = b := ifN (not_not_intro h)
theorem ix_mem {α : Type} {l : List α} {i : Int} {a : α} (h : ix l i = some a) : a ∈ l := List.mem_of_getElem? (ix_lo h).2.2
theorem mem_ix {α : Type} {l : List α} {a : α} (h : a ∈ l) : ∃ i : Int, 0 ≤ i ∧ i < l.length ∧ ix l i = some a := by
  obtain ⟨k, hk⟩ := List.getElem?_of_mem h
  exact ⟨k, by omega, by have := (List.getElem?_eq_some_iff.1 hk).1; omega, by rw [ix_nat, hk]⟩
/-- A loop that tests: the first number that fails ends it. -/
theorem rngX_test {O : Type} {body : Int → Unit → Option (Unit ⊕ O)} {n : Int} (g : Int → Option O) (hn : 0 ≤ n)
    (hb : ∀ j, 0 ≤ j → j < n → (∀ i, 0 ≤ i → i < j → g i = none) → body j () = some (match g j with | none => .inl () | some o => .inr o)) :
    (rngX 0 n body () = some (.inl ()) ∧ ∀ j, 0 ≤ j → j < n → g j = none) ∨ ∃ j o, 0 ≤ j ∧ j < n ∧ g j = some o ∧ (∀ i, 0 ≤ i → i < j → g i = none) ∧ rngX 0 n body () = some (.inr o) := by
  rcases rngX_inv (body := body) (n := n) (fun j _ => ∀ i, 0 ≤ i → i < j → g i = none) (fun o => ∃ j, 0 ≤ j ∧ j < n ∧ g j = some o ∧ ∀ i, 0 ≤ i → i < j → g i = none) (s := ()) hn (fun i h1 h2 => by omega) (fun j s h0 h1 hP => by
    have := hb j h0 h1 hP
    cases hg : g j with
    | none => rw [hg] at this; exact .inl ⟨(), this, fun i h2 h3 => by
        rcases Int.lt_or_eq_of_le (Int.le_of_lt_add_one h3) with h | h
        · exact hP i h2 h
        · rw [h, hg]⟩
    | some o => rw [hg] at this; exact .inr ⟨o, this, j, h0, h1, hg, hP⟩) with ⟨s', h1, h2⟩ | ⟨o, h1, j, h2, h3, h4, h5⟩
  · exact .inl ⟨h1, h2⟩
  · exact .inr ⟨j, o, h2, h3, h4, h5, h1⟩
/-- A loop over a list that tests its elements. -/
theorem rng_list {α O : Type} {l : List α} {body : Int → Unit → Option (Unit ⊕ O)} (q : α → Prop) (b : O)
    (hb : ∀ j a, ix l j = some a → (q a ∧ body j () = some (.inl ())) ∨ (¬ q a ∧ body j () = some (.inr b))) :
    rngX 0 (l.length : Int) body () = some (if dec (∀ a ∈ l, q a) = true then .inl () else .inr b) := by
  rcases rngX_test (body := body) (n := (l.length : Int)) (fun j => match ix l j with | some a => if dec (q a) = true then none else some b | none => none) (by omega) (fun j h0 h1 _ => by
    obtain ⟨a, h2, _⟩ := ix_of h0 h1
    rw [h2]
    rcases hb j a h2 with ⟨h3, h4⟩ | ⟨h3, h4⟩
    · rw [h4]; simp [h3]
    · rw [h4]; simp [h3]) with ⟨h1, h2⟩ | ⟨j, o, h0, h1, h2, _, h4⟩
  · rw [h1, if_pos]
    rw [dec_true]
    intro a ha
    obtain ⟨i, g1, g2, g3⟩ := mem_ix ha
    have := h2 i g1 g2
    rw [g3] at this
    simpa using this
  · rw [h4]
    obtain ⟨a, g1, _⟩ := ix_of h0 h1
    rw [g1] at h2
    simp only [dec_true] at h2
    split at h2
    · cases h2
    · rename_i hq
      cases h2
      rw [if_neg]
      rw [dec_true]
      exact fun h => hq (dec_of (h a (ix_mem g1)))
/-- Rising lists. -/
abbrev Inc (l : List Int) : Prop := l.Pairwise (· < ·)
theorem inc_of_adj : ∀ {l : List Int}, (∀ (k : Nat) a b, l[k]? = some a → l[k + 1]? = some b → a < b) → Inc l
  | [], _ => .nil
  | [_], _ => by simp
  | a :: b :: l, h => by
    have ih : Inc (b :: l) := inc_of_adj fun k x y h1 h2 => h (k + 1) x y (by simpa using h1) (by simpa using h2)
    have hab : a < b := h 0 a b rfl rfl
    refine List.pairwise_cons.2 ⟨fun c hc => ?_, ih⟩
    rcases List.mem_cons.1 hc with rfl | hc
    · exact hab
    · exact Int.lt_trans hab ((List.pairwise_cons.1 ih).1 c hc)
theorem Inc.get {l : List Int} (h : Inc l) {i j : Nat} {a b : Int} (hi : l[i]? = some a) (hj : l[j]? = some b) (hij : i < j) : a < b := by
  obtain ⟨h1, rfl⟩ := List.getElem?_eq_some_iff.1 hi
  obtain ⟨h2, rfl⟩ := List.getElem?_eq_some_iff.1 hj
  exact List.pairwise_iff_getElem.1 h i j h1 h2 hij
theorem Inc.ext : ∀ {l m : List Int}, Inc l → Inc m → (∀ x, x ∈ l ↔ x ∈ m) → l = m
  | [], [], _, _, _ => rfl
  | [], b :: m, _, _, h => absurd ((h b).2 (by simp)) (by simp)
  | a :: l, [], _, _, h => absurd ((h a).1 (by simp)) (by simp)
  | a :: l, b :: m, hl, hm, h => by
    obtain ⟨l1, l2⟩ := List.pairwise_cons.1 hl
    obtain ⟨m1, m2⟩ := List.pairwise_cons.1 hm
    have hab : a = b := by
      rcases List.mem_cons.1 ((h a).1 (by simp)) with e | e
      · exact e
      · rcases List.mem_cons.1 ((h b).2 (by simp)) with e' | e'
        · exact e'.symm
        · have := l1 b e'; have := m1 a e; omega
    subst hab
    rw [Inc.ext l2 m2 fun x => ⟨fun hx => ?_, fun hx => ?_⟩]
    · rcases List.mem_cons.1 ((h x).1 (by simp [hx])) with e | e
      · have := l1 x hx; omega
      · exact e
    · rcases List.mem_cons.1 ((h x).2 (by simp [hx])) with e | e
      · have := m1 x hx; omega
      · exact e
theorem Inc.filter {l : List Int} (h : Inc l) (p : Int → Bool) : Inc (l.filter p) := List.Pairwise.filter p h
/-- Numbers from lo on. -/
def nums (lo : Int) : Nat → List Int
  | 0 => []
  | k + 1 => lo :: nums (lo + 1) k
theorem mem_nums {x : Int} : ∀ {k : Nat} {lo : Int}, x ∈ nums lo k ↔ lo ≤ x ∧ x < lo + k
  | 0, lo => by simp [nums]
  | k + 1, lo => by
    rw [nums, List.mem_cons, mem_nums (k := k)]
    omega
theorem inc_nums : ∀ (k : Nat) (lo : Int), Inc (nums lo k)
  | 0, _ => .nil
  | k + 1, lo => List.pairwise_cons.2 ⟨fun x hx => by have := mem_nums.1 hx; omega, inc_nums k (lo + 1)⟩
theorem len_nums : ∀ (k : Nat) (lo : Int), (nums lo k).length = k
  | 0, _ => rfl
  | k + 1, lo => by simp [nums, len_nums k]
/-- The set of the numbers below n of which p holds. -/
noncomputable def setOf (p : Int → Prop) (n : Int) : List Int := (nums 0 n.toNat).filter fun x => dec (p x)
theorem mem_setOf {p : Int → Prop} {n x : Int} : x ∈ setOf p n ↔ 0 ≤ x ∧ x < n ∧ p x := by
  rw [setOf, List.mem_filter, mem_nums, dec_true]
  constructor
  · rintro ⟨⟨h1, h2⟩, h3⟩; exact ⟨h1, by omega, h3⟩
  · rintro ⟨h1, h2, h3⟩; exact ⟨⟨h1, by omega⟩, h3⟩
theorem inc_setOf (p : Int → Prop) (n : Int) : Inc (setOf p n) := (inc_nums _ _).filter _
theorem setOf_congr {p q : Int → Prop} {n : Int} (h : ∀ x, 0 ≤ x → x < n → (p x ↔ q x)) : setOf p n = setOf q n := by
  refine List.filter_congr fun x hx => dec_congr ?_
  have := mem_nums.1 hx
  exact h x (by omega) (by omega)
/-- A rising list of numbers below n. -/
def SetN (l : List Int) (n : Int) : Prop := Inc l ∧ ∀ x ∈ l, 0 ≤ x ∧ x < n
theorem setN_setOf (p : Int → Prop) (n : Int) : SetN (setOf p n) n := ⟨inc_setOf p n, fun x hx => by have := mem_setOf.1 hx; exact ⟨this.1, this.2.1⟩⟩
theorem SetN.eq {l : List Int} {n : Int} (h : SetN l n) : l = setOf (· ∈ l) n :=
  h.1.ext (inc_setOf _ _) fun x => ⟨fun hx => mem_setOf.2 ⟨(h.2 x hx).1, (h.2 x hx).2, hx⟩, fun hx => (mem_setOf.1 hx).2.2⟩
theorem SetN.eq_of {l : List Int} {n : Int} (h : SetN l n) {p : Int → Prop} (hp : ∀ x, 0 ≤ x → x < n → (x ∈ l ↔ p x)) : l = setOf p n :=
  h.eq.trans (setOf_congr hp)
theorem SetN.len {l : List Int} {n : Int} (h : SetN l n) : l.length ≤ n.toNat := by
  rw [h.eq, setOf]
  exact Nat.le_trans (List.length_filter_le _ _) (Nat.le_of_eq (len_nums _ _))
theorem setN_nil (n : Int) : SetN [] n := ⟨.nil, by simp⟩
/-- A list of the elements that pass, made by appending. -/
theorem forR_filter {α : Type} {l : List α} {b : Nat} {body : Int → List α → Option (List α)} (q : α → Prop)
    (hb : ∀ j a c, ix l j = some a → (q a → body j c = app b c [a]) ∧ (¬ q a → body j c = some c)) (c0 : List α) (hl : (c0.length + l.length) * b ≤ 140737488355328) :
    forR 0 (l.length : Int) body c0 = some (c0 ++ l.filter fun a => dec (q a)) := by
  obtain ⟨s', h1, h2⟩ := forR_inv (body := body) (n := (l.length : Int)) (s := c0) (fun j c => c = c0 ++ (l.take j.toNat).filter fun a => dec (q a)) (by omega) (by simp) (fun j c h0 h1 hP => by
    obtain ⟨a, g1, g2⟩ := ix_of h0 h1
    have e : (j + 1).toNat = j.toNat + 1 := by omega
    have ht : l.take (j + 1).toNat = l.take j.toNat ++ [a] := by rw [e, List.take_add_one, g2]; rfl
    by_cases hq : q a
    · have happ : app b c [a] = some (c ++ [a]) := by
        rw [app, if_pos]
        have h3 : ((l.take j.toNat).filter fun a => dec (q a)).length ≤ (l.take j.toNat).length := List.length_filter_le _ _
        rw [List.length_take] at h3
        have h5 : c.length + 1 ≤ c0.length + l.length := by rw [hP, List.length_append]; omega
        refine Nat.le_trans (Nat.mul_le_mul_right b ?_) hl
        simpa using h5
      refine ⟨c ++ [a], by rw [(hb j a c g1).1 hq, happ], ?_⟩
      rw [ht, List.filter_append, hP]
      simp [hq]
    · refine ⟨c, (hb j a c g1).2 hq, ?_⟩
      rw [ht, List.filter_append, hP]
      simp [hq])
  rw [h1, h2]
  simp
/-- The same over numbers. -/
theorem forR_setOf {b : Nat} {n : Int} {body : Int → List Int → Option (List Int)} (q : Int → Prop) (hn : 0 ≤ n) (hl : n.toNat * b ≤ 140737488355328)
    (hb : ∀ j c, 0 ≤ j → j < n → (q j → body j c = app b c [j]) ∧ (¬ q j → body j c = some c)) : forR 0 n body [] = some (setOf q n) := by
  obtain ⟨s', h1, h2⟩ := forR_inv (body := body) (n := n) (s := []) (fun j c => c = setOf q j) hn (by simp [setOf, nums]) (fun j c h0 h1 hP => by
    have hs : setOf q (j + 1) = setOf q j ++ if dec (q j) = true then [j] else [] := by
      refine (inc_setOf q (j + 1)).ext ?_ fun x => ?_
      · refine List.pairwise_append.2 ⟨inc_setOf _ _, by split <;> simp, fun a ha b hb => ?_⟩
        have := mem_setOf.1 ha
        split at hb
        · simp at hb; omega
        · cases hb
      · rw [List.mem_append, mem_setOf, mem_setOf]
        by_cases hq : q j
        · rw [if_pos (dec_of hq)]
          simp only [List.mem_singleton]
          refine ⟨fun h => ?_, fun h => ?_⟩
          · by_cases e : x = j
            · exact .inr e
            · exact .inl ⟨h.1, by omega, h.2.2⟩
          · rcases h with h | rfl
            · exact ⟨h.1, by omega, h.2.2⟩
            · exact ⟨h0, by omega, hq⟩
        · rw [if_neg (by simpa using hq)]
          simp only [List.not_mem_nil, or_false]
          refine ⟨fun h => ⟨h.1, ?_, h.2.2⟩, fun h => ⟨h.1, by omega, h.2.2⟩⟩
          rcases Int.lt_or_eq_of_le (Int.le_of_lt_add_one h.2.1) with e | e
          · exact e
          · rw [e] at h; exact absurd h.2.2 hq
    by_cases hq : q j
    · refine ⟨c ++ [j], ?_, by rw [hs, hP, if_pos (dec_of hq)]⟩
      rw [(hb j c h0 h1).1 hq, app, if_pos]
      have h3 : c.length ≤ j.toNat := by rw [hP]; exact (setN_setOf q j).len
      refine Nat.le_trans (Nat.mul_le_mul_right b ?_) hl
      simp; omega
    · refine ⟨c, (hb j c h0 h1).2 hq, ?_⟩
      rw [hs, hP, if_neg (by simpa using hq), List.append_nil])
  rw [h1, h2]
end Ab
end
section
namespace Ab
open Go
theorem has_eq (l : List Int) (n : Int) : ref1_Has l n = some (dec (n ∈ l)) := by
  unfold ref1_Has
  rw [rng_list (l := l) (fun a => a ≠ n) true (fun j a h => by
    unfold ref1_Has_l1
    rw [h]
    by_cases e : a = n <;> simp [e])]
  by_cases h : n ∈ l
  · rw [if_neg (by simp only [dec_true]; exact fun g => g n h rfl)]
    simp [h]
  · rw [if_pos (by simp only [dec_true]; exact fun a ha e => h (e ▸ ha))]
    simp [h]
theorem subset_eq (part l : List Int) : ref1_Subset part l = some (dec (∀ x ∈ part, x ∈ l)) := by
  unfold ref1_Subset
  rw [rng_list (l := part) (fun a => a ∈ l) false (fun j a h => by
    unfold ref1_Subset_l1
    rw [h]
    by_cases e : a ∈ l <;> simp [e, has_eq])]
  by_cases h : ∀ x ∈ part, x ∈ l
  · rw [if_pos (dec_of h), dec_of h]; rfl
  · rw [if_neg (by rw [dec_no h]; simp), dec_no h]; rfl
theorem disjoint_eq (a b : List Int) : ref1_Disjoint a b = some (dec (∀ x ∈ a, x ∉ b)) := by
  unfold ref1_Disjoint
  rw [rng_list (l := a) (fun x => x ∉ b) false (fun j x h => by
    unfold ref1_Disjoint_l1
    rw [h]
    by_cases e : x ∈ b <;> simp [e, has_eq])]
  by_cases h : ∀ x ∈ a, x ∉ b
  · rw [if_pos (dec_of h), dec_of h]; rfl
  · rw [if_neg (by rw [dec_no h]; simp), dec_no h]; rfl
theorem in_eq (n lo hi : Int) : ref1_In n lo hi = some (dec (lo ≤ n ∧ n ≤ hi)) := by
  unfold ref1_In; rw [decide_dec, decide_dec, dec_and]
theorem at_eq (c i : Int) : ref1_At c i = some ⟨c, i⟩ := rfl
/-- What a test of a rising list asks at a place. -/
def stepOk (l : List Int) (n j : Int) : Prop := ∀ a, ix l j = some a → (0 ≤ a ∧ a < n) ∧ ∀ b, 0 < j → ix l (j - 1) = some b → b < a
theorem stepOk_iff {l : List Int} {n : Int} : (∀ j : Int, 0 ≤ j → j < l.length → stepOk l n j) ↔ SetN l n := by
  constructor
  · intro h
    refine ⟨inc_of_adj fun k a b h1 h2 => ?_, fun x hx => ?_⟩
    · have hk := (List.getElem?_eq_some_iff.1 h2).1
      have := (h ((k + 1 : Nat) : Int) (by omega) (by omega) b (by rw [ix_nat]; exact h2)).2 a (by omega)
      rw [show ((k + 1 : Nat) : Int) - 1 = (k : Nat) by omega] at this
      exact this (by rw [ix_nat]; exact h1)
    · obtain ⟨i, h1, h2, h3⟩ := mem_ix hx
      exact (h i h1 h2 x h3).1
  · intro h j h0 h1 a ha
    refine ⟨h.2 a (ix_mem ha), fun b hj hb => ?_⟩
    obtain ⟨_, _, ga⟩ := ix_lo ha
    obtain ⟨_, _, gb⟩ := ix_lo hb
    exact h.1.get gb ga (by omega)
theorem isSet_eq (l : List Int) (n : Int) : strips_IsSet l n = some (dec (SetN l n)) := by
  unfold strips_IsSet
  rcases rngX_test (body := strips_IsSet_l1 l n) (n := (l.length : Int)) (fun j => if dec (stepOk l n j) = true then none else some false) (by omega) (fun j h0 h1 _ => by
    obtain ⟨a, ha, _⟩ := ix_of (l := l) h0 h1
    unfold strips_IsSet_l1
    rw [ha]
    simp only [Option.bind_some]
    by_cases c1 : a < 0
    · rw [if_pos c1, if_neg]
      · rfl
      · rw [dec_true]; intro h; have := (h a ha).1; omega
    · rw [if_neg c1]
      by_cases c2 : n ≤ a
      · rw [if_pos c2, if_neg]
        · rfl
        · rw [dec_true]; intro h; have := (h a ha).1; omega
      · rw [if_neg c2]
        by_cases c3 : 0 < j
        · obtain ⟨b, hb, _⟩ := ix_of (l := l) (i := j - 1) (by omega) (by omega)
          rw [if_pos c3, hb]
          simp only [Option.bind_some]
          by_cases c4 : a ≤ b
          · rw [if_pos (by simpa using c4), if_neg]
            rw [dec_true]; intro h; have := (h a ha).2 b c3 hb; omega
          · rw [if_neg (by simpa using c4), if_pos]
            rw [dec_true]; intro x hx
            rw [ha] at hx; cases hx
            exact ⟨by omega, fun y _ hy => by rw [hb] at hy; cases hy; omega⟩
        · rw [if_neg c3]
          simp only [Option.bind_some]
          rw [if_neg (by simp), if_pos]
          rw [dec_true]; intro x hx
          rw [ha] at hx; cases hx
          exact ⟨by omega, fun y hy => absurd hy c3⟩) with ⟨h1, h2⟩ | ⟨j, o, h0, h1, h2, _, h4⟩
  · rw [h1, dec_of]
    · rfl
    · exact stepOk_iff.1 fun j g1 g2 => by have := h2 j g1 g2; simpa using this
  · rw [h4]
    split at h2
    · cases h2
    · rename_i hs
      cases h2
      rw [dec_no]
      · rfl
      · exact fun h => hs (dec_of (stepOk_iff.2 h j h0 h1))
theorem rIsSet_eq (l : List Int) {n : Int} (hn : -9223372036854775808 < n) (hn' : n ≤ 9223372036854775807) : ref1_IsSet l n = some (dec (SetN l n)) := by
  unfold ref1_IsSet
  rcases rngX_test (body := ref1_IsSet_l1 l n) (n := (l.length : Int)) (fun j => if dec (stepOk l n j) = true then none else some false) (by omega) (fun j h0 h1 _ => by
    obtain ⟨a, ha, _⟩ := ix_of (l := l) h0 h1
    unfold ref1_IsSet_l1
    rw [ha]
    simp only [Option.bind_some, in_eq, w64_of (n := n - 1) (by omega) (by omega), dec_not]
    by_cases c1 : 0 ≤ a ∧ a ≤ n - 1
    · rw [if_neg (by simpa using c1)]
      by_cases c3 : 0 < j
      · obtain ⟨b, hb, _⟩ := ix_of (l := l) (i := j - 1) (by omega) (by omega)
        rw [if_pos c3, hb]
        simp only [Option.bind_some]
        by_cases c4 : a ≤ b
        · rw [if_pos (by simpa using c4), if_neg]
          rw [dec_true]; intro h; have := (h a ha).2 b c3 hb; omega
        · rw [if_neg (by simpa using c4), if_pos]
          rw [dec_true]; intro x hx
          rw [ha] at hx; cases hx
          exact ⟨by omega, fun y _ hy => by rw [hb] at hy; cases hy; omega⟩
      · rw [if_neg c3]
        simp only [Option.bind_some]
        rw [if_neg (by simp), if_pos]
        rw [dec_true]; intro x hx
        rw [ha] at hx; cases hx
        exact ⟨by omega, fun y hy => absurd hy c3⟩
    · rw [if_pos (by simpa using c1), if_neg]
      · rfl
      · rw [dec_true]; intro h; have := (h a ha).1; omega) with ⟨h1, h2⟩ | ⟨j, o, h0, h1, h2, _, h4⟩
  · rw [h1, dec_of]
    · rfl
    · exact stepOk_iff.1 fun j g1 g2 => by have := h2 j g1 g2; simpa using this
  · rw [h4]
    split at h2
    · cases h2
    · rename_i hs
      cases h2
      rw [dec_no]
      · rfl
      · exact fun h => hs (dec_of (stepOk_iff.2 h j h0 h1))
theorem containsLoop {s : List Int} (hs : Inc s) (hl : s.length ≤ 1000000) (x : Int) {i : Int} (h0 : 0 ≤ i) (h1 : i ≤ s.length) (hlt : ∀ k a, 0 ≤ k → k < i → ix s k = some a → a < x) :
    ∃ i', Loop (strips_Contains_l2 s x) i = some i' ∧ i ≤ i' ∧ i' ≤ s.length ∧ (∀ k a, 0 ≤ k → k < i' → ix s k = some a → a < x) ∧ (∀ a, ix s i' = some a → x ≤ a) := by
  obtain ⟨o, h2, h3⟩ := Loop_inv (body := strips_Contains_l2 s x) (fun j => i ≤ j ∧ j ≤ s.length ∧ ∀ k a, 0 ≤ k → k < j → ix s k = some a → a < x) (fun i' => i ≤ i' ∧ i' ≤ s.length ∧ (∀ k a, 0 ≤ k → k < i' → ix s k = some a → a < x) ∧ (∀ a, ix s i' = some a → x ≤ a)) (fun j => (s.length - j).toNat) (s := i) ⟨Int.le_refl _, h1, hlt⟩ (fun j ⟨g1, g2, g3⟩ => by
    unfold strips_Contains_l2
    by_cases c : j < s.length
    · obtain ⟨a, ha, _⟩ := ix_of (l := s) (i := j) (by omega) c
      rw [if_pos c, ha]
      simp only [Option.bind_some, decide_eq_true_eq]
      by_cases c2 : a < x
      · rw [if_pos c2]
        rw [w64_of (by omega) (by omega)]
        refine .inl ⟨j + 1, rfl, ⟨by omega, by omega, fun k b k0 k1 hb => ?_⟩, by omega⟩
        by_cases e : k = j
        · subst e; rw [ha] at hb; cases hb; exact c2
        · exact g3 k b k0 (by omega) hb
      · rw [if_neg c2]
        exact .inr ⟨j, rfl, g1, g2, g3, fun b hb => by rw [ha] at hb; cases hb; omega⟩
    · rw [if_neg c]
      exact .inr ⟨j, rfl, g1, g2, g3, fun b hb => by have := (ix_lo hb).2.1; omega⟩)
  exact ⟨o, h2, h3⟩
theorem contains_eq {s part : List Int} (hs : Inc s) (hp : Inc part) (hl : s.length ≤ 1000000) : strips_Contains s part = some (dec (∀ x ∈ part, x ∈ s)) := by
  unfold strips_Contains
  rcases rngX_inv (body := strips_Contains_l1 s part) (n := (part.length : Int)) (fun j i => (0 ≤ i ∧ i ≤ s.length ∧ ∀ k a, 0 ≤ k → k < i → ix s k = some a → ∀ m x, j ≤ m → ix part m = some x → a < x) ∧ ∀ m x, 0 ≤ m → m < j → ix part m = some x → x ∈ s) (fun o => o = false ∧ ¬ ∀ x ∈ part, x ∈ s) (s := 0) (by omega) ⟨⟨by omega, by omega, fun k a h1 h2 => by omega⟩, fun m x h1 h2 => by omega⟩ (fun j i h0 h1 ⟨⟨g1, g2, g3⟩, g4⟩ => by
    obtain ⟨x, hx, gx⟩ := ix_of (l := part) h0 h1
    unfold strips_Contains_l1
    obtain ⟨i', e1, e2, e3, e4, e5⟩ := containsLoop hs hl x g1 g2 (fun k a k0 k1 ha => g3 k a k0 k1 ha j x (Int.le_refl _) hx)
    rw [hx]
    simp only [Option.bind_some, e1]
    have nin : (∀ a, ix s i' = some a → x < a) → x ∉ s := fun hgt hin => by
      obtain ⟨k, k0, k1, hk⟩ := mem_ix hin
      rcases Int.lt_trichotomy k i' with c | c | c
      · have := e4 k x k0 c hk; omega
      · subst c; have := hgt x hk; omega
      · obtain ⟨b, hb, gb⟩ := ix_of (l := s) (i := i') (by omega) (by omega)
        obtain ⟨_, _, gk⟩ := ix_lo hk
        have := hs.get gb gk (by omega)
        have := e5 b hb
        omega
    by_cases c : i' = s.length
    · rw [if_pos c]
      refine .inr ⟨false, rfl, rfl, fun h => ?_⟩
      exact nin (fun a ha => by have := (ix_lo ha).2.1; omega) (h x (ix_mem hx))
    · rw [if_neg c]
      obtain ⟨b, hb, gb⟩ := ix_of (l := s) (i := i') (by omega) (by omega)
      rw [hb]
      simp only [Option.bind_some]
      have hxb := e5 b hb
      by_cases c2 : b = x
      · subst c2
        rw [if_neg (by simp)]
        refine .inl ⟨i', rfl, ⟨by omega, e3, fun k a k0 k1 ha m y hm hy => ?_⟩, fun m y m0 m1 hy => ?_⟩
        · obtain ⟨_, _, gy⟩ := ix_lo hy
          have := hp.get gx gy (by omega)
          have := e4 k a k0 k1 ha
          omega
        · by_cases e : m = j
          · subst e; rw [hx] at hy; cases hy; exact ix_mem hb
          · exact g4 m y m0 (by omega) hy
      · rw [if_pos (by simpa using c2)]
        refine .inr ⟨false, rfl, rfl, fun h => ?_⟩
        exact nin (fun a ha => by rw [hb] at ha; cases ha; omega) (h x (ix_mem hx))) with ⟨s', h1, _, h2⟩ | ⟨o, h1, rfl, h2⟩
  · rw [h1, dec_of]
    · rfl
    · intro x hx
      obtain ⟨m, m0, m1, hm⟩ := mem_ix hx
      exact h2 m x m0 m1 hm
  · rw [h1, dec_no h2]; rfl
end Ab
end
section
namespace Ab
open Go
theorem half_eq {i j : Int} (h0 : 0 ≤ i) (h1 : i ≤ j) (h2 : j ≤ 1000000) : w64 (shrW .u64 ((IntKind.u64).wrap (w64 (i + j))) 1) = (i + j) / 2 := by
  rw [w64_of (n := i + j) (by omega) (by omega), IntKind.wrap_u64, Int.emod_eq_of_lt (by omega) (by omega)]
  have : shrW .u64 (i + j) 1 = (i + j) / 2 := by
    simp only [shrW, IntKind.bits]
    rw [show min (1 : Int).toNat 64 = 1 by rfl, Int.fdiv_eq_ediv_of_nonneg _ (by decide)]
    rfl
  rw [this]
  exact w64_of (by omega) (by omega)
theorem less_eq (a b : Int) : cmp_Less_int a b = some (decide (a < b)) := by simp [cmp_Less_int, cmp_isNaN_int]
theorem bsearch_eq {xs : List Int} (hs : Inc xs) (hl : xs.length ≤ 500000) (t : Int) : ∃ i, slices_BinarySearch_int_int xs t = some (i, dec (t ∈ xs)) ∧ 0 ≤ i ∧ i ≤ xs.length ∧ (∀ k a, 0 ≤ k → k < i → ix xs k = some a → a < t) ∧ (∀ k a, i ≤ k → ix xs k = some a → t ≤ a) := by
  unfold slices_BinarySearch_int_int
  obtain ⟨i, h1, h2, h3, h4, h5⟩ := Loop_inv (body := slices_BinarySearch_int_int_l1 xs t) (fun p => (0 ≤ p.1 ∧ p.1 ≤ p.2 ∧ p.2 ≤ xs.length) ∧ (∀ k a, 0 ≤ k → k < p.1 → ix xs k = some a → a < t) ∧ (∀ k a, p.2 ≤ k → ix xs k = some a → t ≤ a))
    (fun i => 0 ≤ i ∧ i ≤ xs.length ∧ (∀ k a, 0 ≤ k → k < i → ix xs k = some a → a < t) ∧ (∀ k a, i ≤ k → ix xs k = some a → t ≤ a)) (fun p => (p.2 - p.1).toNat) (s := (0, (xs.length : Int)))
    ⟨⟨by simp, by simp, by simp⟩, fun k a h1 h2 => by simp at h2; omega, fun k a h1 h2 => by have := (ix_lo h2).2.1; simp at h1; omega⟩ (fun ⟨i, j⟩ ⟨⟨g1, g2, g3⟩, g4, g5⟩ => by
    dsimp only at g1 g2 g3 g4 g5 ⊢
    unfold slices_BinarySearch_int_int_l1
    dsimp only
    by_cases c : i < j
    · rw [if_pos c, half_eq g1 g2 (by omega)]
      obtain ⟨a, ha, ga⟩ := ix_of (l := xs) (i := (i + j) / 2) (by omega) (by omega)
      rw [ha]
      simp only [Option.bind_some, less_eq, decide_eq_true_eq]
      by_cases c2 : a < t
      · rw [if_pos c2, w64_of (by omega) (by omega)]
        refine .inl ⟨_, rfl, ⟨⟨by dsimp only; omega, by dsimp only; omega, g3⟩, fun k b k0 k1 hb => ?_, g5⟩, by dsimp only; omega⟩
        dsimp only at k1
        obtain ⟨_, _, gb⟩ := ix_lo hb
        by_cases e : k = (i + j) / 2
        · subst e; rw [ha] at hb; cases hb; exact c2
        · have := hs.get gb ga (by omega); omega
      · rw [if_neg c2]
        refine .inl ⟨_, rfl, ⟨⟨g1, by dsimp only; omega, by dsimp only; omega⟩, g4, fun k b k0 hb => ?_⟩, by dsimp only; omega⟩
        dsimp only at k0
        obtain ⟨_, _, gb⟩ := ix_lo hb
        by_cases e : k = (i + j) / 2
        · subst e; rw [ha] at hb; cases hb; omega
        · have := hs.get ga gb (by omega); omega
    · rw [if_neg c]
      have : i = j := by omega
      subst this
      exact .inr ⟨i, rfl, g1, g3, g4, g5⟩)
  rw [h1]
  simp only [Option.bind_some]
  refine ⟨i, ?_, h2, h3, h4, h5⟩
  have nin : (∀ a, ix xs i = some a → a ≠ t) → t ∉ xs := fun hne hin => by
    obtain ⟨k, k0, k1, hk⟩ := mem_ix hin
    rcases Int.lt_trichotomy k i with c | c | c
    · have := h4 k t k0 c hk; omega
    · subst c; exact hne t hk rfl
    · obtain ⟨b, hb, gb⟩ := ix_of (l := xs) (i := i) (by omega) (by omega)
      obtain ⟨_, _, gk⟩ := ix_lo hk
      have := hs.get gb gk (by omega)
      have := h5 i b (Int.le_refl _) hb
      omega
  by_cases c : i < xs.length
  · obtain ⟨a, ha, ga⟩ := ix_of (l := xs) (i := i) (by omega) c
    rw [if_pos c, ha]
    simp only [Option.bind_some]
    by_cases c2 : a = t
    · subst c2
      rw [if_pos rfl, dec_of (ix_mem ha)]
      rfl
    · rw [if_neg c2]
      simp only [slices_isNaN_int, decide_true, Bool.not_true, Bool.false_eq_true, if_false, Option.bind_some]
      rw [dec_no (nin fun b hb => by rw [ha] at hb; cases hb; exact c2)]
  · rw [if_neg c]
    simp only [Option.bind_some]
    rw [dec_no (nin fun b hb => by have := (ix_lo hb).2.1; omega)]
theorem bsearch2 {xs : List Int} (hs : Inc xs) (hl : xs.length ≤ 500000) (t : Int) : ∃ i, slices_BinarySearch_int_int xs t = some (i, dec (t ∈ xs)) :=
  let ⟨i, h, _⟩ := bsearch_eq hs hl t
  ⟨i, h⟩
theorem containsFunc_eq {l : List Int} {f : Int → Option Bool} (p : Int → Prop) (hf : ∀ x ∈ l, f x = some (dec (p x))) : slices_ContainsFunc_int_int l f = some (dec (∃ x ∈ l, p x)) := by
  unfold slices_ContainsFunc_int_int slices_IndexFunc_int_int
  rcases rngX_test (body := slices_IndexFunc_int_int_l1 l f) (n := (l.length : Int)) (fun j => if dec (∀ a, ix l j = some a → ¬ p a) = true then none else some j) (by omega) (fun j h0 h1 _ => by
    obtain ⟨a, ha, _⟩ := ix_of (l := l) h0 h1
    unfold slices_IndexFunc_int_int_l1
    rw [ha]
    simp only [Option.bind_some, hf a (ix_mem ha)]
    by_cases c : p a
    · rw [if_pos (dec_of c), if_neg (by rw [dec_true]; exact fun h => h a rfl c)]
    · rw [if_neg (by rw [dec_no c]; simp), if_pos (dec_of fun b hb => by cases hb; exact c)]) with ⟨h1, h2⟩ | ⟨j, o, h0, h1, h2, _, h4⟩
  · rw [h1]
    simp only [Option.bind_some]
    rw [dec_no]
    · rfl
    · rintro ⟨x, hx, hp⟩
      obtain ⟨i, g1, g2, g3⟩ := mem_ix hx
      have := h2 i g1 g2
      split at this
      · rename_i h; exact dec_true.1 h x g3 hp
      · cases this
  · rw [h4]
    split at h2
    · cases h2
    · rename_i h
      cases h2
      simp only [Option.bind_some]
      rw [dec_of]
      · simp [h0]
      · simp only [dec_true] at h
        obtain ⟨a, g1, _⟩ := ix_of (l := l) h0 h1
        refine ⟨a, ix_mem g1, ?_⟩
        rcases Classical.em (p a) with c | c
        · exact c
        · exact absurd (fun b hb => by rw [g1] at hb; cases hb; exact c) h
theorem meets_eq {a b : List Int} (hb : Inc b) (hl : b.length ≤ 500000) : strips_Meets a b = some (dec (∃ x ∈ a, x ∈ b)) := by
  unfold strips_Meets
  rw [containsFunc_eq (fun x => x ∈ b) (fun x _ => by
    unfold strips_Meets_1
    obtain ⟨i, h⟩ := bsearch2 hb hl x
    rw [h]; rfl)]
  rfl
/-! ### Sorted, and equal neighbours made one -/
theorem compact_spec {l : List Int} (hs : l.Pairwise (· ≤ ·)) : Inc (compactL l) ∧ ∀ x, x ∈ compactL l ↔ x ∈ l := by
  have key : ∀ m, m ≤ l.length → Inc (Go.Lib.compactUpTo l.toArray m) ∧ (∀ x, x ∈ Go.Lib.compactUpTo l.toArray m ↔ x ∈ l.take m) := by
    intro m
    induction m with
    | zero => intro _; simp [Go.Lib.compactUpTo]
    | succ m ih =>
      intro hm
      obtain ⟨h1, h2⟩ := ih (by omega)
      have hlt : m < l.length := by omega
      have hd : l.toArray[m]! = l[m] := by simp [hlt]
      have ht : l.take (m + 1) = l.take m ++ [l[m]] := by rw [List.take_add_one]; simp [hlt]
      rw [Go.Lib.compactUpTo_succ, ht]
      by_cases hk : Go.Lib.keeps l.toArray m = true
      · rw [if_pos hk, hd]
        refine ⟨List.pairwise_append.2 ⟨h1, by simp, fun a ha b hb => ?_⟩, fun x => by rw [List.mem_append, List.mem_append, h2]⟩
        simp only [List.mem_singleton] at hb
        subst hb
        have ha' := (h2 a).1 ha
        obtain ⟨i, hi, rfl⟩ := List.mem_iff_getElem.1 ha'
        rw [List.length_take] at hi
        rw [List.getElem_take]
        simp only [Go.Lib.keeps, decide_eq_true_eq] at hk
        rcases hk with hk | hk
        · omega
        · have hm1 : l.toArray[m - 1]! = l[m - 1] := by simp [show m - 1 < l.length by omega]
          rw [hd, hm1] at hk
          have e1 : l[m - 1] ≤ l[m] := List.pairwise_iff_getElem.1 hs (m - 1) m (by omega) hlt (by omega)
          have e2 : l[i] ≤ l[m - 1] := by
            rcases Nat.lt_or_ge i (m - 1) with c | c
            · exact List.pairwise_iff_getElem.1 hs i (m - 1) (by omega) (by omega) c
            · have : i = m - 1 := by omega
              subst this; exact Int.le_refl _
          omega
      · rw [if_neg hk, List.append_nil]
        refine ⟨h1, fun x => ?_⟩
        rw [h2, List.mem_append]
        refine ⟨.inl, fun h => ?_⟩
        rcases h with h | h
        · exact h
        · simp only [List.mem_singleton] at h
          subst h
          have hm0 : m ≠ 0 := fun e => hk (by simp [Go.Lib.keeps, e])
          have hm1 : l.toArray[m - 1]! = l[m - 1] := by simp [show m - 1 < l.length by omega]
          have he : l[m] = l[m - 1] := by
            simp only [Go.Lib.keeps, decide_eq_true_eq, not_or] at hk
            have h3 : l.toArray[m]! = l.toArray[m - 1]! := Classical.not_not.1 (fun h => hk.2 h)
            rw [hd, hm1] at h3; exact h3
          rw [he, List.mem_take_iff_getElem]
          exact ⟨m - 1, by omega, rfl⟩
  obtain ⟨h1, h2⟩ := key l.length (Nat.le_refl _)
  refine ⟨?_, fun x => ?_⟩
  · simpa [compactL, Go.Lib.compact] using h1
  · have := h2 x
    rw [List.take_length] at this
    simpa [compactL, Go.Lib.compact] using this
theorem srt_spec (l : List Int) : (srt l).Pairwise (· ≤ ·) ∧ ∀ x, x ∈ srt l ↔ x ∈ l := by
  refine ⟨?_, fun x => by simp [srt]⟩
  have := List.pairwise_mergeSort (le := fun x y : Int => decide (x ≤ y)) (fun a b c h1 h2 => by simp at h1 h2 ⊢; omega) (fun a b => by simp; omega) l
  refine this.imp fun h => by simpa using h
theorem sortL_eq {l : List Int} (h : l.length < 4611686018427387904) : sortL l = some (srt l) := by rw [sortL, if_pos h]
theorem update_inc {s add del : List Int} (hd : Inc del) (hl : del.length ≤ 500000) (h1 : s.length ≤ 500000) (h2 : add.length ≤ 500000) :
    ∃ r, strips_Update s add del = some r ∧ Inc r ∧ ∀ x, x ∈ r ↔ (x ∈ s ∧ x ∉ del) ∨ x ∈ add := by
  unfold strips_Update
  rw [forR_filter (l := s) (b := 8) (fun a => a ∉ del) (fun j a c h => by
    obtain ⟨i, hi⟩ := bsearch2 hd hl a
    unfold strips_Update_l1
    rw [h]
    simp only [Option.bind_some, hi, dec_not]
    refine ⟨fun hq => ?_, fun hq => ?_⟩
    · rw [if_pos (dec_of hq)]
      cases app 8 c [a] <;> rfl
    · rw [if_neg (by simpa using hq)]; rfl) [] (by simp; omega)]
  simp only [Option.bind_some, List.nil_append]
  have hle : (s.filter fun a => dec (a ∉ del)).length ≤ s.length := List.length_filter_le _ _
  rw [show app 8 (s.filter fun a => dec (a ∉ del)) add = some ((s.filter fun a => dec (a ∉ del)) ++ add) by rw [app, if_pos]; omega]
  simp only [Option.bind_some]
  rw [sortL_eq (by rw [List.length_append]; omega)]
  simp only [Option.bind_some]
  obtain ⟨e1, e2⟩ := srt_spec ((s.filter fun a => dec (a ∉ del)) ++ add)
  obtain ⟨e3, e4⟩ := compact_spec e1
  refine ⟨_, rfl, e3, fun x => ?_⟩
  rw [e4, e2, List.mem_append, List.mem_filter, dec_true]
theorem update_eq {s add del : List Int} {n : Int} (hn : n ≤ 1000) (hd : Inc del) (hl : del.length ≤ 500000) (hs : SetN s n) (ha : SetN add n) :
    strips_Update s add del = some (setOf (fun x => (x ∈ s ∧ x ∉ del) ∨ x ∈ add) n) := by
  have h1 := hs.len; have h2 := ha.len
  obtain ⟨r, e1, e2, e3⟩ := update_inc (s := s) (add := add) hd hl (by omega) (by omega)
  rw [e1, SetN.eq_of (n := n) ⟨e2, fun x hx => ?_⟩ (fun x _ _ => e3 x)]
  rcases (e3 x).1 hx with h | h
  · exact hs.2 x h.1
  · exact ha.2 x h
end Ab
end
section
namespace Ab
open Go
def opSets (o : TOperator) (n : Int) : Prop := SetN o.pre n ∧ SetN o.add n ∧ SetN o.del n ∧ ∀ x ∈ o.add, x ∉ o.del
def opCost (o : TOperator) : Prop := 0 ≤ o.cost ∧ o.cost ≤ 100
structure TaskOk (t : TTask) : Prop where
  n0 : 0 ≤ t.facts
  n1 : t.facts ≤ 24
  init : SetN t.init t.facts
  goal : SetN t.goal t.facts
  ops : t.operators.length ≤ 40
  op : ∀ o ∈ t.operators, opSets o t.facts ∧ opCost o
theorem fault_no {f : TFault} (h : f.code ≠ 0) : (!((decide (f.code = 0)) && (decide (f.index = 0)))) = true := by simp [h]
/-! ### What operators and plans do -/
def noOp : TOperator := ⟨[], [], [], 0⟩
def opAt (t : TTask) (op : Int) : TOperator := (t.operators[op.toNat]?).getD noOp
theorem ix_op {t : TTask} {op : Int} (h0 : 0 ≤ op) (h1 : op < t.operators.length) : ix t.operators op = some (opAt t op) := by
  obtain ⟨a, h2, h3⟩ := ix_of h0 h1
  rw [h2, opAt, h3]; rfl
theorem TaskOk.at {t : TTask} (h : TaskOk t) {op : Int} (h0 : 0 ≤ op) (h1 : op < t.operators.length) : opSets (opAt t op) t.facts ∧ opCost (opAt t op) := h.op _ (ix_mem (ix_op h0 h1))
def can (t : TTask) (s : List Int) (op : Int) : Prop := ∀ x ∈ (opAt t op).pre, x ∈ s
theorem clone_eq {s : List Int} (h : s.length ≤ 1000000) : slices_Clone_int_int s = some s := by
  rw [slices_Clone_int_int, app, if_pos (by simp; omega)]; rfl
end Ab
end
section
namespace Ab
open Go
theorem numbers_eq (a b : List Int) : equal_Numbers a b = some (dec (a = b)) := by
  unfold equal_Numbers
  by_cases hl : (a.length : Int) = b.length
  · rw [if_pos hl]
    rcases rngX_test (body := equal_Numbers_l1 a b) (n := (a.length : Int)) (fun j => if dec (ix a j = ix b j) = true then none else some false) (by omega) (fun j h0 h1 _ => by
      obtain ⟨x, hx, _⟩ := ix_of (l := a) h0 h1
      obtain ⟨y, hy, _⟩ := ix_of (l := b) (i := j) h0 (by omega)
      unfold equal_Numbers_l1
      rw [hx, hy]
      simp only [Option.bind_some]
      by_cases e : x = y
      · rw [if_pos e, ifP (by rw [e])]
      · rw [if_neg e, ifN (by simpa using e)]) with ⟨h1, h2⟩ | ⟨j, o, h0, h1, h2, _, h4⟩
    · rw [h1, dec_of]
      · rfl
      · refine List.ext_getElem? fun k => ?_
        by_cases hk : k < a.length
        · have := h2 k (by omega) (by omega)
          split at this
          · rename_i e
            have := dec_true.1 e
            rwa [ix_nat, ix_nat] at this
          · cases this
        · rw [List.getElem?_eq_none (by omega), List.getElem?_eq_none (by omega)]
    · rw [h4]
      split at h2
      · cases h2
      · rename_i e
        cases h2
        rw [dec_no (fun h => e (dec_of (by rw [h])))]; rfl
  · rw [if_neg hl, dec_no (fun h => hl (by rw [h]))]
theorem setN1 (a : Int) {n : Int} (h0 : 0 ≤ a) (h1 : a < n) : SetN [a] n := ⟨by simp, by simp [h0, h1]⟩
end Ab
end
section
namespace Ab
open Go
/-- Lexicographic order. -/
def llt : List Int → List Int → Prop
  | [], [] => False
  | [], _ :: _ => True
  | _ :: _, [] => False
  | a :: l, b :: m => a < b ∨ a = b ∧ llt l m
theorem llt_irrefl : ∀ l : List Int, ¬ llt l l
  | [] => id
  | a :: l => fun h => by
    rcases h with h | ⟨_, h⟩
    · omega
    · exact llt_irrefl l h
theorem llt_trans : ∀ {a b c : List Int}, llt a b → llt b c → llt a c
  | [], [], _, h, _ => h.elim
  | [], _ :: _, [], _, h => h.elim
  | [], _ :: _, _ :: _, _, _ => trivial
  | _ :: _, [], _, h, _ => h.elim
  | _ :: _, _ :: _, [], _, h => h.elim
  | x :: a, y :: b, z :: c, h, g => by
    rcases h with h | ⟨rfl, h⟩ <;> rcases g with g | ⟨rfl, g⟩
    · exact .inl (by omega)
    · exact .inl h
    · exact .inl g
    · exact .inr ⟨rfl, llt_trans h g⟩
theorem llt_total : ∀ a b : List Int, llt a b ∨ a = b ∨ llt b a
  | [], [] => .inr (.inl rfl)
  | [], _ :: _ => .inl trivial
  | _ :: _, [] => .inr (.inr trivial)
  | x :: a, y :: b => by
    rcases Int.lt_trichotomy x y with h | rfl | h
    · exact .inl (.inl h)
    · rcases llt_total a b with h | rfl | h
      · exact .inl (.inr ⟨rfl, h⟩)
      · exact .inr (.inl rfl)
      · exact .inr (.inr (.inr ⟨rfl, h⟩))
    · exact .inr (.inr (.inl h))
theorem llt_asymm {a b : List Int} (h : llt a b) (g : llt b a) : False := llt_irrefl a (llt_trans h g)
/-- What Compare tells. -/
noncomputable def cmpL (a b : List Int) : Int := if dec (llt a b) = true then -1 else if dec (a = b) = true then 0 else 1
theorem cmpL_lt {a b : List Int} : cmpL a b < 0 ↔ llt a b := by
  unfold cmpL
  by_cases h : llt a b
  · rw [ifP h]; simp [h]
  · rw [ifN h]
    split <;> simp [h]
theorem cmpL_eq {a b : List Int} : cmpL a b = 0 ↔ a = b := by
  unfold cmpL
  by_cases h : llt a b
  · rw [ifP h]
    constructor
    · intro e; omega
    · rintro rfl; exact absurd h (llt_irrefl _)
  · rw [ifN h]
    by_cases g : a = b
    · rw [ifP g]; simp [g]
    · rw [ifN g]; simp [g]
theorem cmpL_ge {a b : List Int} : 0 ≤ cmpL a b ↔ ¬ llt a b := by rw [← cmpL_lt]; omega
theorem cmpInt_eq (x y : Int) : cmp_Compare_int x y = some (if x < y then -1 else if y < x then 1 else 0) := by
  unfold cmp_Compare_int cmp_isNaN_int
  simp only [decide_true, Bool.not_true, Option.bind_some, Bool.false_eq_true, if_false]
  split
  · rfl
  · split <;> rfl
theorem llt_drop : ∀ {a b : List Int} (k : Nat), k ≤ a.length → k ≤ b.length → a.take k = b.take k → (llt a b ↔ llt (a.drop k) (b.drop k))
  | _, _, 0, _, _, _ => by simp
  | [], _, k + 1, h, _, _ => by simp at h
  | _ :: _, [], k + 1, _, h, _ => by simp at h
  | x :: a, y :: b, k + 1, h1, h2, h3 => by
    simp only [List.take_succ_cons, List.cons.injEq] at h3
    obtain ⟨rfl, h3⟩ := h3
    simp only [List.drop_succ_cons]
    rw [← llt_drop k (by simpa using h1) (by simpa using h2) h3]
    simp [llt]
theorem compare_eq (a b : List Int) : slices_Compare_int_int a b = some (cmpL a b) := by
  unfold slices_Compare_int_int
  rcases rngX_inv (body := slices_Compare_int_int_l1 a b) (n := (a.length : Int)) (s := ()) (fun j _ => j ≤ b.length ∧ a.take j.toNat = b.take j.toNat) (fun o => o = cmpL a b) (by omega) ⟨by omega, by simp⟩ (fun j _ j0 j1 ⟨k1, k2⟩ => by
    obtain ⟨x, hx, gx⟩ := ix_of (l := a) j0 j1
    have hxl := (List.getElem?_eq_some_iff.1 gx).2
    unfold slices_Compare_int_int_l1
    rw [hx]
    simp only [Option.bind_some]
    have hd := llt_drop (a := a) (b := b) j.toNat (by omega) (by omega) k2
    have da : a.drop j.toNat = x :: a.drop (j.toNat + 1) := by rw [← hxl]; exact List.drop_eq_getElem_cons (by omega)
    by_cases c : (b.length : Int) ≤ j
    · rw [if_pos c]
      refine .inr ⟨_, rfl, ?_⟩
      have db : b.drop j.toNat = [] := List.drop_of_length_le (by omega)
      rw [da, db] at hd
      unfold cmpL
      rw [ifN (fun h => (hd.1 h).elim), ifN]
      rintro rfl; omega
    · rw [if_neg c]
      obtain ⟨y, hy, gy⟩ := ix_of (l := b) (i := j) j0 (by omega)
      have hyl := (List.getElem?_eq_some_iff.1 gy).2
      have db : b.drop j.toNat = y :: b.drop (j.toNat + 1) := by rw [← hyl]; exact List.drop_eq_getElem_cons (by omega)
      rw [hy]
      simp only [Option.bind_some, cmpInt_eq]
      rw [da, db] at hd
      have hne : x ≠ y → a ≠ b := fun h e => by subst e; rw [hx] at hy; cases hy; exact h rfl
      rcases Int.lt_trichotomy x y with h | rfl | h
      · rw [if_pos h, if_neg (by decide)]
        refine .inr ⟨_, rfl, ?_⟩
        unfold cmpL
        rw [ifP (hd.2 (.inl h))]
      · simp only [Int.lt_irrefl, if_false, if_true]
        refine .inl ⟨(), trivial, by omega, ?_⟩
        rw [show (j + 1).toNat = j.toNat + 1 by omega, List.take_add_one, List.take_add_one, gx, gy, k2]
      · rw [if_neg (show ¬ x < y by omega), if_pos h, if_neg (by decide)]
        refine .inr ⟨_, rfl, ?_⟩
        unfold cmpL
        rw [ifN, ifN (hne (by omega))]
        intro g
        rcases hd.1 g with g | ⟨g, _⟩ <;> omega) with ⟨_, r1, r2, r3⟩ | ⟨o, r1, rfl⟩
  · rw [r1]
    simp only [Option.bind_some]
    have hd := llt_drop (a := a) (b := b) a.length (Nat.le_refl _) (by omega) (by simpa using r3)
    have da : a.drop a.length = [] := by simp
    rw [da] at hd
    have e3 : a = b.take a.length := by simpa using r3
    by_cases c : (a.length : Int) < b.length
    · rw [if_pos c]
      have : b.drop a.length ≠ [] := by simp; omega
      unfold cmpL
      rw [ifP]
      rw [hd]
      cases h : b.drop a.length with
      | nil => exact absurd h this
      | cons x l => trivial
    · rw [if_neg c]
      have : a = b := by rw [e3, List.take_of_length_le (by omega)]
      rw [cmpL_eq.2 this]
  · rw [r1]; rfl
theorem cmp_ok : CmpOk slices_Compare_int_int cmpL := by
  refine ⟨compare_eq, ⟨fun x => ?_, fun x y z h1 h2 => ?_, fun x y z h1 h2 => ?_⟩, fun a b h1 h2 => ?_⟩
  · simp only [Go.Proofs.ltOf, decide_eq_false_iff_not, cmpL_lt]
    exact llt_irrefl x
  · simp only [Go.Proofs.ltOf, decide_eq_true_eq, cmpL_lt] at h1 h2 ⊢
    exact llt_trans h1 h2
  · simp only [Go.Proofs.ltOf, decide_eq_false_iff_not, cmpL_lt] at h1 h2 ⊢
    intro h
    rcases llt_total x y with g | rfl | g
    · exact h1 g
    · exact h2 h
    · exact h2 (llt_trans g h)
  · rw [cmpL_lt] at h1 h2
    rcases llt_total a b with g | g | g
    · exact absurd g h1
    · exact g
    · exact absurd g h2
/-! ### Lists compared -/
/-- Two lists compared element by element. -/
theorem listEq {α : Type} {a b : List α} {body : Int → Unit → Option (Unit ⊕ Bool)} (hl : a.length = b.length) (hb : ∀ j x y, ix a j = some x → ix b j = some y → (x = y ∧ body j () = some (.inl ())) ∨ (x ≠ y ∧ body j () = some (.inr false))) :
    (Option.bind (rngX 0 (a.length : Int) body ()) fun | .inl _ => some true | .inr x => some x) = some (dec (a = b)) := by
  rcases rngX_test (body := body) (n := (a.length : Int)) (fun j => if dec (ix a j = ix b j) = true then none else some false) (by omega) (fun j h0 h1 _ => by
    obtain ⟨x, hx, _⟩ := ix_of (l := a) h0 h1
    obtain ⟨y, hy, _⟩ := ix_of (l := b) (i := j) h0 (by omega)
    rcases hb j x y hx hy with ⟨e, h⟩ | ⟨e, h⟩
    · rw [h, ifP (by rw [hx, hy, e])]
    · rw [h, ifN (by rw [hx, hy]; simpa using e)]) with ⟨h1, h2⟩ | ⟨j, o, h0, h1, h2, _, h4⟩
  · rw [h1, dec_of]
    · rfl
    · refine List.ext_getElem? fun k => ?_
      by_cases hk : k < a.length
      · have := h2 k (by omega) (by omega)
        split at this
        · rename_i e
          have := dec_true.1 e
          rwa [ix_nat, ix_nat] at this
        · cases this
      · rw [List.getElem?_eq_none (by omega), List.getElem?_eq_none (by omega)]
  · rw [h4]
    split at h2
    · cases h2
    · rename_i e
      cases h2
      rw [dec_no (fun h => e (dec_of (by rw [h])))]; rfl
theorem sets_eq (a b : List (List Int)) : equal_Sets a b = some (dec (a = b)) := by
  unfold equal_Sets
  by_cases hl : (a.length : Int) = b.length
  · rw [if_pos hl]
    refine listEq (by omega) fun j x y hx hy => ?_
    unfold equal_Sets_l1
    simp only [hx, hy, Option.bind_some, numbers_eq, dec_not]
    by_cases e : x = y
    · rw [ifNN e]; exact .inl ⟨e, rfl⟩
    · rw [ifP e]; exact .inr ⟨e, rfl⟩
  · rw [if_neg hl, dec_no (fun h => hl (by rw [h]))]
theorem ints_eq (a b : List Int) : ref1_Ints a b = some (dec (a = b)) := by
  unfold ref1_Ints
  by_cases hl : (a.length : Int) = b.length
  · rw [if_pos hl]
    refine listEq (by omega) fun j x y hx hy => ?_
    unfold ref1_Ints_l1
    simp only [hx, hy, Option.bind_some]
    by_cases e : x = y
    · rw [if_pos e]; exact .inl ⟨e, rfl⟩
    · rw [if_neg e]; exact .inr ⟨e, rfl⟩
  · rw [if_neg hl, dec_no (fun h => hl (by rw [h]))]
theorem equal_eq (a b : List Int) : slices_Equal_int_int a b = some (dec (a = b)) := by
  unfold slices_Equal_int_int
  by_cases hl : (a.length : Int) = b.length
  · rw [if_pos hl]
    refine listEq (by omega) fun j x y hx hy => ?_
    unfold slices_Equal_int_int_l1
    simp only [hx, hy, Option.bind_some]
    by_cases e : x = y
    · rw [if_pos e]; exact .inl ⟨e, rfl⟩
    · rw [if_neg e]; exact .inr ⟨e, rfl⟩
  · rw [if_neg hl, dec_no (fun h => hl (by rw [h]))]
theorem place_eq (l : List (List Int)) (s : List Int) : ∃ r, ref1_Place l s = some r ∧ ((r = -1 ∧ s ∉ l) ∨ (0 ≤ r ∧ r < l.length ∧ ix l r = some s ∧ ∀ j, 0 ≤ j → j < r → ix l j ≠ some s)) := by
  unfold ref1_Place
  rcases rngX_test (body := ref1_Place_l1 l s) (n := (l.length : Int)) (fun j => if dec (ix l j = some s) = true then some j else none) (by omega) (fun j h0 h1 _ => by
    obtain ⟨x, hx, _⟩ := ix_of (l := l) h0 h1
    unfold ref1_Place_l1
    simp only [hx, Option.bind_some, ints_eq]
    by_cases e : x = s
    · rw [ifP e, ifP (by rw [e])]
    · rw [ifN e, ifN (by simpa using e)]) with ⟨h1, h2⟩ | ⟨j, o, h0, h1, h2, h3, h4⟩
  · rw [h1]
    refine ⟨-1, rfl, .inl ⟨rfl, fun hs => ?_⟩⟩
    obtain ⟨i, i0, i1, hi⟩ := mem_ix hs
    have := h2 i i0 i1
    rw [ifP hi] at this
    cases this
  · rw [h4]
    split at h2
    · rename_i e
      cases h2
      refine ⟨_, rfl, .inr ⟨h0, h1, dec_true.1 e, fun i i0 i1 => ?_⟩⟩
      have := h3 i i0 i1
      split at this
      · cases this
      · rename_i e
        exact fun h => e (dec_of h)
    · cases h2
/-! ### Ordered lists -/
abbrev Ord (l : List (List Int)) : Prop := l.Pairwise llt
theorem Ord.ext : ∀ {l m : List (List Int)}, Ord l → Ord m → (∀ x, x ∈ l ↔ x ∈ m) → l = m
  | [], [], _, _, _ => rfl
  | [], b :: m, _, _, h => absurd ((h b).2 (by simp)) (by simp)
  | a :: l, [], _, _, h => absurd ((h a).1 (by simp)) (by simp)
  | a :: l, b :: m, hl, hm, h => by
    obtain ⟨l1, l2⟩ := List.pairwise_cons.1 hl
    obtain ⟨m1, m2⟩ := List.pairwise_cons.1 hm
    have hab : a = b := by
      rcases List.mem_cons.1 ((h a).1 (by simp)) with e | e
      · exact e
      · rcases List.mem_cons.1 ((h b).2 (by simp)) with e' | e'
        · exact e'.symm
        · exact (llt_asymm (l1 b e') (m1 a e)).elim
    subst hab
    rw [Ord.ext l2 m2 fun x => ⟨fun hx => ?_, fun hx => ?_⟩]
    · rcases List.mem_cons.1 ((h x).1 (by simp [hx])) with e | e
      · subst e; exact absurd (l1 x hx) (llt_irrefl x)
      · exact e
    · rcases List.mem_cons.1 ((h x).2 (by simp [hx])) with e | e
      · subst e; exact absurd (m1 x hx) (llt_irrefl x)
      · exact e
theorem Ord.get {l : List (List Int)} (h : Ord l) {i j : Int} {a b : List Int} (hi : ix l i = some a) (hj : ix l j = some b) (hij : i < j) : llt a b := by
  obtain ⟨i0, i1, hi⟩ := ix_lo hi
  obtain ⟨j0, j1, hj⟩ := ix_lo hj
  obtain ⟨h1, rfl⟩ := List.getElem?_eq_some_iff.1 hi
  obtain ⟨h2, rfl⟩ := List.getElem?_eq_some_iff.1 hj
  exact List.pairwise_iff_getElem.1 h _ _ h1 h2 (by omega)
/-- Equal neighbours made one: what is kept of the first m elements. -/
def ddN (l : List (List Int)) : Nat → List (List Int)
  | 0 => []
  | m + 1 => ddN l m ++ if decide (m = 0 ∨ l[m]? ≠ l[m - 1]?) = true then l[m]?.toList else []
theorem ddN_spec {l : List (List Int)} (hs : l.Pairwise fun a b => ¬ llt b a) : ∀ m, m ≤ l.length → Ord (ddN l m) ∧ ∀ x, x ∈ ddN l m ↔ x ∈ l.take m := by
  intro m
  induction m with
  | zero => intro _; simp [ddN]
  | succ m ih =>
    intro hm
    obtain ⟨h1, h2⟩ := ih (by omega)
    have hlt : m < l.length := by omega
    have ht : l.take (m + 1) = l.take m ++ [l[m]] := by rw [List.take_add_one]; simp [hlt]
    rw [ddN, ht]
    by_cases hk : m = 0 ∨ l[m]? ≠ l[m - 1]?
    · rw [if_pos (by simpa using hk)]
      simp only [List.getElem?_eq_getElem hlt, Option.toList_some]
      refine ⟨List.pairwise_append.2 ⟨h1, by simp, fun a ha b hb => ?_⟩, fun x => by rw [List.mem_append, List.mem_append, h2]⟩
      simp only [List.mem_singleton] at hb
      subst hb
      have ha' := (h2 a).1 ha
      obtain ⟨i, hi, rfl⟩ := List.mem_iff_getElem.1 ha'
      rw [List.length_take] at hi
      rw [List.getElem_take]
      rcases hk with hk | hk
      · omega
      · have hm1 : m - 1 < l.length := by omega
        rw [List.getElem?_eq_getElem hlt, List.getElem?_eq_getElem hm1] at hk
        have e1 : ¬ llt l[m] l[m - 1] := List.pairwise_iff_getElem.1 hs (m - 1) m hm1 hlt (by omega)
        have e2 : llt l[m - 1] l[m] := by
          rcases llt_total l[m - 1] l[m] with h | h | h
          · exact h
          · exact absurd (by rw [h]) hk
          · exact absurd h e1
        by_cases hi2 : i = m - 1
        · subst hi2; exact e2
        · have e3 : ¬ llt l[m - 1] l[i] := List.pairwise_iff_getElem.1 hs i (m - 1) (by omega) hm1 (by omega)
          rcases llt_total l[i] l[m] with h | h | h
          · exact h
          · rw [h] at e3; exact absurd e2 e3
          · exact absurd (llt_trans e2 h) e3
    · rw [if_neg (by simpa using hk), List.append_nil]
      refine ⟨h1, fun x => ?_⟩
      rw [h2, List.mem_append]
      refine ⟨.inl, fun h => ?_⟩
      rcases h with h | h
      · exact h
      · simp only [List.mem_singleton] at h
        subst h
        have hm0 : m ≠ 0 := fun e => hk (.inl e)
        have he : l[m]? = l[m - 1]? := Classical.not_not.1 fun e => hk (.inr e)
        rw [List.getElem?_eq_getElem hlt, List.getElem?_eq_getElem (show m - 1 < l.length by omega)] at he
        rw [Option.some.inj he, List.mem_take_iff_getElem]
        exact ⟨m - 1, by omega, rfl⟩
theorem ddN_len (l : List (List Int)) : ∀ m, (ddN l m).length ≤ m
  | 0 => by simp [ddN]
  | m + 1 => by
    have := ddN_len l m
    rw [ddN, List.length_append]
    split
    · have : (l[m]?.toList).length ≤ 1 := by cases l[m]? <;> simp
      omega
    · simp; omega
theorem ddN_all {l : List (List Int)} : ∀ m, m ≤ l.length → (∀ i, 0 < i → i < m → l[i]? ≠ l[i - 1]?) → ddN l m = l.take m
  | 0, _, _ => by simp [ddN]
  | m + 1, hm, h => by
    rw [ddN, ddN_all m (by omega) fun i h0 h1 => h i h0 (by omega), if_pos, List.take_add_one]
    rw [decide_eq_true_eq]
    by_cases e : m = 0
    · exact .inl e
    · exact .inr (h m (by omega) (by omega))
theorem compactF_eq {l : List (List Int)} (hl : l.length ≤ 1000000) : slices_CompactFunc_int_int_w l = some (ddN l l.length) := by
  unfold slices_CompactFunc_int_int_w
  by_cases c0 : (l.length : Int) < 2
  · rw [if_pos c0, ddN_all l.length (Nat.le_refl _) fun i h0 h1 => by omega, List.take_length]
  · rw [if_neg c0]
    have key := rngN_inv (body := slices_CompactFunc_int_int_w_l1 l) (fun j _ => ∀ i : Nat, 0 < i → (i : Int) < j → l[i]? ≠ l[i - 1]?) (fun o => o = ddN l l.length) ((l.length : Int) - 1).toNat 1 () (fun i h0 h1 => by omega) (fun j _ j0 j1 hP => by
      obtain ⟨a, ha, ga⟩ := ix_of (l := l) (i := j) (by omega) (by omega)
      obtain ⟨b, hb, gb⟩ := ix_of (l := l) (i := j - 1) (by omega) (by omega)
      unfold slices_CompactFunc_int_int_w_l1
      simp only [ha, hb, Option.bind_some, equal_eq]
      have ej : (j - 1).toNat = j.toNat - 1 := by omega
      rw [ej] at gb
      by_cases c : a = b
      · rw [ifP c]
        subst c
        right
        rw [show cutV (l.length : Int) j (l.length : Int) = some () by rw [cutV, if_pos (by omega)]]
        simp only [Option.bind_some]
        obtain ⟨⟨cs, kv⟩, r1, r2, r3, r4, r5, r6⟩ := forN_inv (body := slices_CompactFunc_int_int_w_l2 l j) (fun k2 p => p.1.length = l.length ∧ j ≤ p.2 ∧ p.2 ≤ j + k2 - 1 ∧ p.1.take p.2.toNat = ddN l (j + k2).toNat ∧ ∀ i : Nat, j + k2 - 1 ≤ i → p.1[i]? = l[i]?) ((l.length : Int) - j - 1).toNat 1 (l, j) ⟨rfl, by simp, by dsimp only; omega, by
            dsimp only
            rw [show (j + 1).toNat = j.toNat + 1 by omega, ddN, if_neg, List.append_nil, ddN_all j.toNat (by omega) fun i h0 h1 => hP i h0 (by omega)]
            rw [decide_eq_true_eq]
            rintro (h | h)
            · omega
            · exact h (ga.trans gb.symm), fun i _ => rfl⟩ (fun k2 ⟨cs, kv⟩ k0 k1 ⟨g1, g2, g3, g4, g5⟩ => by
            dsimp only at g1 g2 g3 g4 g5 ⊢
            obtain ⟨x, hx, gx⟩ := ix_of (l := l) (i := j + k2) (by omega) (by omega)
            obtain ⟨y, hy, gy⟩ := ix_of (l := l) (i := j + k2 - 1) (by omega) (by omega)
            have iv : ∀ i : Int, 0 ≤ i → i < (l.length : Int) - j → ixV cs (0 + j) ((l.length : Int) - j) i = ix cs (j + i) := fun i h0 h1 => by
              rw [ixV, if_pos (by omega), Int.zero_add]
            have same : ∀ i : Int, j + k2 - 1 ≤ i → ix cs i = ix l i := fun i hi => by
              have := g5 i.toNat (by omega)
              simp only [ix]
              rw [this]
            unfold slices_CompactFunc_int_int_w_l2
            dsimp only
            rw [iv k2 (by omega) (by omega), iv (k2 - 1) (by omega) (by omega), show j + (k2 - 1) = j + k2 - 1 by omega, same _ (by omega), same _ (by omega), hx, hy]
            simp only [Option.bind_some, equal_eq, dec_not]
            have ek : (j + (k2 + 1)).toNat = (j + k2).toNat + 1 := by omega
            have ek1 : (j + k2 - 1).toNat = (j + k2).toNat - 1 := by omega
            rw [ek1] at gy
            by_cases cx : x = y
            · rw [ifNN cx]
              refine ⟨_, rfl, g1, g2, by omega, ?_, fun i hi => g5 i (by omega)⟩
              dsimp only
              rw [ek, ddN, if_neg, List.append_nil]
              · exact g4
              · rw [decide_eq_true_eq]
                rintro (h | h)
                · omega
                · exact h (by rw [gx, gy, cx])
            · rw [ifP cx]
              obtain ⟨z, hz, gz⟩ := ix_of (l := cs) (i := kv) (by omega) (by omega)
              simp only [hz, Option.bind_some]
              rw [w64_of (by omega) (by omega)]
              refine ⟨_, rfl, by rw [List.length_set]; exact g1, by omega, by omega, ?_, fun i hi => ?_⟩
              · dsimp only
                rw [ek, ddN, if_pos, gx, show (kv + 1).toNat = kv.toNat + 1 by omega, List.take_add_one, List.getElem?_set, if_pos rfl, if_pos (by omega), List.take_set_of_le (Nat.le_refl _), g4]
                rw [decide_eq_true_eq]
                exact .inr (by rw [gx, gy]; simpa using cx)
              · dsimp only
                rw [List.getElem?_set, if_neg (by omega)]
                exact g5 i (by omega))
        have ef : forR 1 ((l.length : Int) - j) (slices_CompactFunc_int_int_w_l2 l j) (l, j) = some (cs, kv) := r1
        dsimp only at r2 r3 r4 r5 r6
        rw [ef]
        simp only [Option.bind_some]
        have hcl : (clrL cs (0 + kv) ((cs.length : Int) - kv) []).length = cs.length := by simp [clrL]; omega
        rw [show cutV (cs.length : Int) kv (cs.length : Int) = some () by rw [cutV, if_pos (by omega)]]
        simp only [Option.bind_some, hcl]
        rw [show cutV (cs.length : Int) 0 kv = some () by rw [cutV, if_pos (by omega)]]
        refine ⟨_, rfl, ?_⟩
        have e1 : viewL (clrL cs (0 + kv) ((cs.length : Int) - kv) []) 0 kv = cs.take kv.toNat := by
          simp only [viewL, clrL, Int.zero_add, Int.toNat_zero, List.drop_zero]
          rw [List.append_assoc, List.take_append_of_le_length (by simp; omega), List.take_take, Nat.min_self]
        rw [e1, r5]
        congr 1
        omega
      · rw [ifN c]
        left
        refine ⟨(), rfl, fun i h0 h1 => ?_⟩
        by_cases e : (i : Int) = j
        · have : i = j.toNat := by omega
          subst this
          rw [ga, gb]
          simpa using c
        · exact hP i h0 (by omega))
    rcases key with ⟨_, h1, h2⟩ | ⟨o, h1, rfl⟩
    · have : rngX 1 (l.length : Int) (slices_CompactFunc_int_int_w_l1 l) () = some (.inl ()) := h1
      rw [this]
      simp only [Option.bind_some]
      rw [ddN_all l.length (Nat.le_refl _) fun i h0 h1 => h2 i h0 (by omega), List.take_length]
    · have : rngX 1 (l.length : Int) (slices_CompactFunc_int_int_w_l1 l) () = some (.inr (ddN l l.length)) := h1
      rw [this]; rfl
theorem normal_eq {l : List (List Int)} (hl : l.length ≤ 1000000) : ∃ r, belief_Normal_w l = some r ∧ Ord r ∧ (∀ x, x ∈ r ↔ x ∈ l) ∧ r.length ≤ l.length := by
  unfold belief_Normal_w
  rw [sortFL_eq (by omega) cmp_ok]
  simp only [Option.bind_some]
  have hlen : (l.mergeSort fun x y => decide (¬ cmpL y x < 0)).length = l.length := by simp
  rw [compactF_eq (by rw [hlen]; exact hl)]
  have hs : (l.mergeSort fun x y => decide (¬ cmpL y x < 0)).Pairwise fun a b => ¬ llt b a := by
    have := List.pairwise_mergeSort (le := fun x y : List Int => decide (¬ cmpL y x < 0)) (fun a b c h1 h2 => by
      simp only [decide_eq_true_eq, cmpL_lt] at h1 h2 ⊢
      intro h
      rcases llt_total b a with g | g | g
      · exact h1 g
      · subst g; exact h2 h
      · exact h2 (llt_trans h g)) (fun a b => by
      simp only [Bool.or_eq_true, decide_eq_true_eq, cmpL_lt]
      by_cases h : llt b a
      · exact .inr fun g => llt_asymm h g
      · exact .inl h) l
    exact this.imp fun h => by simpa [cmpL_lt] using h
  obtain ⟨h1, h2⟩ := ddN_spec hs _ (Nat.le_refl _)
  refine ⟨_, rfl, h1, fun x => ?_, ?_⟩
  · rw [h2, List.take_length]; simp
  · have := ddN_len (l.mergeSort fun x y => decide (¬ cmpL y x < 0)) (l.mergeSort fun x y => decide (¬ cmpL y x < 0)).length
    rw [hlen] at this
    rw [hlen]; exact this
end Ab
end
