/-
  Texts that the proof stands on.
-/
import Derived.Test.YtfjhmljchkhpnaaGreatDoorKRwRepFails2
import Derived.Shelf.SlSortCmp.Whole1
import Derived.Laws.CopyRow
import Derived.Shelf.Small.Bits
import Derived.Shelf.Strconv.Itoa0
import Derived.Shelf.Strconv.Itoa1
import Derived.Shelf.LaysM
import Derived.Shelf.Strconv.Itoa2
import Derived.Shelf.Sort.Plain
import Derived.Shelf.Slices.Reverse
import Derived.Shelf.Slices.Equal
import Derived.Ground.Names2Prog
import Derived.Shelf.Slices.SearchI
import Derived.Shelf.Slices.Cells
import Derived.Shelf.Slices.In.SortNone
import Derived.Shelf.Slices.Empties
import Derived.Shelf.Slices.Empties2
import Derived.Ground.SlsfProg
import Derived.Shelf.SlSortCmp.Insertion
import Derived.Shelf.SlSortCmp.SiftDown1
import Derived.Shelf.SlSortCmp.HeapSort1
import Derived.Shelf.SlSortCmp.Insertion1
import Derived.Shelf.SlSortCmp.Median1
import Derived.Shelf.SlSortCmp.Pivot1
import Derived.Shelf.SlSortCmp.ReverseRange1
import Derived.Shelf.SlSortCmp.PartialInsertion1
import Derived.Shelf.SlSortCmp.PartitionEqual1
import Derived.Shelf.SlSortCmp.Partition1
import Derived.Shelf.SlSortCmp.Pdq1
import Derived.Shelf.SlSortCmp.NoneTotal
import Derived.Test.YtfjhmljchkhpnaaGreatDoorProg
set_option linter.all false
section
namespace Ab
open Go Go.Sort
theorem putCellsG_size {α : Type} [Inhabited α] {enc : α → Value} {off : Nat} {d : Array α} {arr : Array Value} : (putCells enc off d arr).size = arr.size := by simp [putCells]
theorem putCellsG_get {α : Type} [Inhabited α] {enc : α → Value} {off : Nat} {d : List α} {arr : Array Value} (h : off + d.length ≤ arr.size) {j : Nat} {x : α} (hj : d[j]? = some x) : (putCells enc off d.toArray arr)[off + j]? = some (enc x) := by
 have hjl := (List.getElem?_eq_some_iff.1 hj).1
 have hx := (List.getElem?_eq_some_iff.1 hj).2
 simp only [putCells, Array.getElem?_mapIdx]
 rw [Array.getElem?_eq_getElem (by omega)]
 simp only [Option.map_some, List.size_toArray]
 rw [if_pos (by omega)]
 simp [hjl, hx]
theorem putRowG_setRow {α : Type} [Inhabited α] {enc : α → Value} {w : World} {b off : Nat} {arr : Array Value} {ety : TypeId} {fr : Nat × Nat} {d : Array α} (hb : w.heap[b]? = some (.cells arr ety fr)) :
  putRow enc w b off d = w.setRow b (putCells enc off d arr) := by
 unfold putRow mapBlock World.setRow
 congr 1
 apply Array.ext_getElem?
 intro k
 simp only [Array.getElem?_modify]
 by_cases hk : b = k
 ·subst hk; simp only [if_true, hb, Option.map_some, onCells]
 ·simp [hk]
theorem putRowG_ahead {α : Type} [Inhabited α] (enc : α → Value) (w : World) (n b off : Nat) (d : Array α) : putRow enc (Go.Sort.ahead w n) b off d = Go.Sort.ahead (putRow enc w b off d) n := rfl
theorem putRow_other {α : Type} [Inhabited α] (enc : α → Value) (w : World) (b off : Nat) (d : Array α) {k : Nat} (hk : k ≠ b) : (putRow enc w b off d).heap[k]? = w.heap[k]? := by
 unfold putRow mapBlock
 simp only [Array.getElem?_modify]
 rw [if_neg (fun e => hk e.symm)]
theorem putRow_size {α : Type} [Inhabited α] (enc : α → Value) (w : World) (b off : Nat) (d : Array α) : (putRow enc w b off d).heap.size = w.heap.size := by simp [putRow, mapBlock]
theorem grow_of {W W' : World} (h1 : W'.os = W.os) (h2 : W'.tape = W.tape) (h3 : W.drawn ≤ W'.drawn) (h4 : W'.output = W.output) (h5 : W.heap.size ≤ W'.heap.size) (h6 : ∀ k, k < W.heap.size → W'.heap[k]? = W.heap[k]?) : ∃ q os, W' = Go.Sort.grow (W.drewN q) os := by
 refine ⟨W'.drawn - W.drawn, W'.heap.extract W.heap.size W'.heap.size, ?_⟩
 have hh : W'.heap = W.heap ++ W'.heap.extract W.heap.size W'.heap.size := by
  apply Array.ext_getElem?
  intro k
  rw [Array.getElem?_append]
  split
  ·exact h6 k ‹_›
  ·rw [Array.getElem?_extract]
   split
   ·congr 1; omega
   ·rw [Array.getElem?_eq_none (by omega)]
 obtain ⟨heap, tape, drawn, os, output⟩ := W
 obtain ⟨heap', tape', drawn', os', output'⟩ := W'
 dsimp only at h1 h2 h3 h4 hh
 subst h1 h2 h4
 unfold Go.Sort.grow World.drewN
 dsimp only
 rw [← hh]
 congr 1
 omega
section
variable {α : Type}
abbrev Shw (w : World) (A : Nat → Prop) (g0 : α → I) := {x : Value × α // RelI w A (g0 x.2) x.1}
theorem perm_unique {le : α → α → Bool} (hanti : ∀ a b, le a b = true → le b a = true → a = b) : ∀ {l m : List α}, l.Pairwise (fun a b => le a b = true) → m.Pairwise (fun a b => le a b = true) → l.Perm m → l = m
 | [], m, _, _, hp => (List.nil_perm.1 hp).symm
 | a :: l, [], _, _, hp => absurd hp.length_eq (by simp)
 | a :: l, b :: m, hl, hm, hp => by
  obtain ⟨l1, l2⟩ := List.pairwise_cons.1 hl
  obtain ⟨m1, m2⟩ := List.pairwise_cons.1 hm
  have hab : a = b := by
   rcases List.mem_cons.1 (hp.subset (List.mem_cons_self ..)) with e | e
   ·exact e
   ·rcases List.mem_cons.1 (hp.symm.subset (List.mem_cons_self ..)) with e' | e'
    ·exact e'.symm
    ·exact hanti a b (l1 b e') (m1 a e)
  subst hab
  rw [perm_unique hanti l2 m2 ((List.perm_cons a).1 hp)]
theorem sortF_fn {P : Program} {f g : FuncId} (hf : I0 P f) (hgn : I0 P g) {g0 : α → I} {cf : α → α → Int} (hO : SWO (Go.Proofs.ltOf cf)) (hT : ∀ a b, ¬ cf a b < 0 → ¬ cf b a < 0 → a = b)
  (hg : ∀ a b, f7 P g [.c (.imm (g0 a)), .c (.imm (g0 b))] (.c (int (cf a b))))
  (hC : ∀ (β : Type) [Inhabited β] (enc : β → Value), Go.Proofs.OneCell enc → ∀ (cf : β → β → Int), SWO (Go.Proofs.ltOf cf) → ∀ (g : Nat) (cb : Array Value) (blk off cap : Nat) (d : Array β) (w : World), (∀ args w, (callFunc g args).run P w = .ok (.enter g args) w) → Go.Proofs.CmpLays1 P g cb enc cf blk off d.size w → Holds enc w blk off d → blk < w.heap.size → d.size < 4611686018427387904 →
   Calls P f #[.slice (some ⟨blk, off, none⟩) d.size cap, .func (.func g) #[] cb] w fun e w' => e = .returned (.tuple #[]) ∧ ∃ d' n os, PermIn 0 d.size d d' ∧ SortedIn (Go.Proofs.ltOf cf) 0 d.size d' ∧ w' = Go.Proofs.sortWorld enc w blk off n d' os)
  (hC0 : ∀ (p : Option Addr) (cap : Nat) (fv : Value) (w : World), Calls P f #[.slice p 0 cap, fv] w fun e w' => e = .returned (.tuple #[]) ∧ w' = w)
  {σ : b6} {id : Id} {l : List α} (hσ : σ[id]? = some (some (vec 1 (fun a => [g0 a]) l))) (hl : l.length < 4611686018427387904) :
  FnOk P f [.c (.own id 0 l.length), .c (.fn g [])] σ fun r σ' => r = .tup [] ∧ σ'.length = σ.length ∧ ∀ i : Id, σ'[i]? = (σ.put id (some (vec 1 (fun a => [g0 a]) (l.mergeSort fun x y => decide (¬ cf y x < 0)))))[i]? := by
 refine ⟨hf, fun Γ vs hΓ hG hlen hrel => ?_⟩
 subst hΓ
 match vs, hlen with
 | [u, fv], _ =>
 have hu := D0 (hrel 0 _ u rfl rfl) hσ
 have hfv : fv = .func (.func g) #[] #[] := by
  have h := hrel 1 _ fv rfl rfl
  cases h with | c h => cases h with | fn us hr => rfl
 subst hfv
 have tupR : ∀ {w φ σ A}, RelT w φ σ A (.tup []) (.tuple #[]) := fun {w φ σ A} => RelT.tup (ts := []) (fun _ => undef) fun i t h => by simp at h
 have vlen : ∀ {m : List α}, ((m.map fun a => [g0 a]).map (·.map C.imm)).length = m.length := by simp
 rw [vlen] at hu
 have empty : ∀ (p : Option Addr) (cap : Nat), l = [] → Calls P f #[.slice p 0 cap, .func (.func g) #[] #[]] Γ.w0 fun e w' => ∃ v r σ' φ', e = .returned v ∧ (r = .tup [] ∧ σ'.length = Γ.σ0.length ∧ ∀ i : Id, σ'[i]? = (Γ.σ0.put id (some (vec 1 (fun a => [g0 a]) (l.mergeSort fun x y => decide (¬ cf y x < 0)))))[i]?) ∧ RelT w' φ' σ' (Al Γ.N φ' σ') r v ∧ Rs Γ σ' φ' w' := fun p cap he => by
  refine (hC0 p cap _ Γ.w0).mono ?_
  rintro e w' ⟨rfl, rfl⟩
  refine ⟨_, .tup [], Γ.σ0, Γ.φ0, rfl, ⟨rfl, rfl, fun i => ?_⟩, tupR, Rs.refl hG⟩
  have : (l.mergeSort fun x y => decide (¬ cf y x < 0)) = l := by rw [he]; simp
  rw [this]
  by_cases hi : i = id
  ·rw [hi, b6.get_put_eq hσ, hσ]
  ·rw [b6.get_put_ne hi]
 rcases hu with ⟨_, hv, _, h0⟩ | ⟨b, base, cap, arr, ety, a, hp, hv, ha, hcap, hmax, hjn, hbk, hsz⟩
 ·have he : l = [] := List.eq_nil_of_length_eq_zero (by omega)
  rw [hv]
  exact empty none 0 he
 ·rw [hv]
  by_cases hc0 : 0 < cap
  ·have := ha hc0
   subst this
   simp only [Nat.zero_mul, Nat.add_zero]
   have hR := Rs.refl hG
   rcases hR.st.blk _ _ hσ with ⟨h1, _⟩ | ⟨b', base', arr2, ety2, h1, h2, h3, h4, h5⟩
   ·rw [hp] at h1; cases h1
   ·rw [hp] at h1; cases h1
    rw [hbk] at h2; cases h2
    rw [vlen] at h3
    have hblk := (Array.getElem?_eq_some_iff.1 hbk).1
    have hAne : ∀ k, Al Γ.N Γ.φ0 Γ.σ0 k → k ≠ b := fun k hk e => by subst e; exact hk.2 id _ base hσ hp
    -- the elements
    obtain ⟨ds, d1, d2⟩ := ex_list (p := fun j (x : Shw Γ.w0 (Al Γ.N Γ.φ0 Γ.σ0) g0) => arr[base + j]? = some x.1.1 ∧ l[j]? = some x.1.2) l.length fun j hj => by
     obtain ⟨u, hu1, hu2⟩ := h5 j _ 0 (.imm (g0 l[j])) (by simp [hj]; rfl) rfl
     cases hu2 with | imm hu2 => exact ⟨⟨(u, l[j]), hu2⟩, by simpa using hu1, by simp [hj]⟩
    have dl : ds.map (fun x => x.1.2) = l := by
     refine List.ext_getElem? fun j => ?_
     rw [List.getElem?_map]
     by_cases hj : j < l.length
     ·obtain ⟨x, hx⟩ : ∃ x, ds[j]? = some x := ⟨ds[j], by simp [d1, hj]⟩
      rw [hx, (d2 j x hx).2]; rfl
     ·rw [List.getElem?_eq_none (by omega), List.getElem?_eq_none (by omega)]; rfl
    by_cases hl0 : l = []
    ·have hl1 : l.length = 0 := by rw [hl0]; rfl
     rw [hl1]
     exact empty _ cap hl0
    ·obtain ⟨x0, hx0⟩ : ∃ x, ds[0]? = some x := by
      have : 0 < ds.length := by rw [d1]; exact List.length_pos_iff.2 hl0
      exact ⟨ds[0], by simp [this]⟩
     letI : Inhabited (Shw Γ.w0 (Al Γ.N Γ.φ0 Γ.σ0) g0) := ⟨x0⟩
     have hH : Holds (fun x : Shw Γ.w0 (Al Γ.N Γ.φ0 Γ.σ0) g0 => x.1.1) Γ.w0 b base ds.toArray := by
      intro j hj
      have hjl : j < ds.length := by simpa using hj
      refine ⟨?_, by simp [World.frozen?, hbk]⟩
      rw [World.cell?]
      simp only [hbk]
      rw [(d2 j ds[j] (by simp [hjl])).1]
      simp [hjl]
     have hcmp : Go.Proofs.CmpLays1 P g #[] (fun x : Shw Γ.w0 (Al Γ.N Γ.φ0 Γ.σ0) g0 => x.1.1) (fun x y => cf x.1.2 y.1.2) b base ds.toArray.size Γ.w0 := by
      intro m os dk hdk x y
      have hW : ∀ k, Al Γ.N Γ.φ0 Γ.σ0 k → k < Γ.w0.heap.size → (Go.Proofs.sortWorld (fun x : Shw Γ.w0 (Al Γ.N Γ.φ0 Γ.σ0) g0 => x.1.1) Γ.w0 b base m dk os).heap[k]? = Γ.w0.heap[k]? := fun k hk hlt => by
       unfold Go.Proofs.sortWorld
       rw [heap_grow_old _ os (by rw [putRow_size]; exact hlt), putRow_other _ _ _ _ _ (hAne k hk)]; rfl
      have gd : ∀ W : World, Good ⟨W, fun _ => False, fun _ => none, []⟩ := fun W => ⟨⟨fun i b h => by simp at h, fun i j bi bj p q h => by simp at h⟩, fun b h => h.elim, fun i blk b base h => by simp at h⟩
      have rel : ∀ z : Shw Γ.w0 (Al Γ.N Γ.φ0 Γ.σ0) g0, RelT (Go.Proofs.sortWorld (fun x : Shw Γ.w0 (Al Γ.N Γ.φ0 Γ.σ0) g0 => x.1.1) Γ.w0 b base m dk os) (fun _ => none) [] (Al (fun _ => False) (fun _ => none) []) (.c (.imm (g0 z.1.2))) z.1.1 := fun z =>
       .c (.imm (z.2.mono hW fun k _ _ => ⟨_root_.id, fun i blk base h => by simp at h⟩))
      refine ((hg x.1.2 y.1.2).run ⟨Go.Proofs.sortWorld (fun x : Shw Γ.w0 (Al Γ.N Γ.φ0 Γ.σ0) g0 => x.1.1) Γ.w0 b base m dk os, fun _ => False, fun _ => none, []⟩ [x.1.1, y.1.1] rfl (gd _) rfl (fun i t v hi hv => ?_)).mono ?_
      ·match i with
       | 0 => cases hi; cases hv; exact rel x
       | 1 => cases hi; cases hv; exact rel y
       | i + 2 => simp at hi
      ·rintro e w' ⟨v, r, σ', φ', rfl, rfl, hr, hs⟩
       refine ⟨?_, grow_of hs.os hs.tape hs.drawn hs.output hs.size fun k hk => hs.block k ⟨hk, fun i blk base h => by simp at h⟩⟩
       cases hr with | c hr => cases hr with | imm hr => cases hr with | val => rfl
     obtain ⟨gf, gf1, gf2, gf3⟩ := hgn
     have hszd : ds.toArray.size = l.length := by simp [d1]
     have key := hC _ (fun x : Shw Γ.w0 (Al Γ.N Γ.φ0 Γ.σ0) g0 => x.1.1) (fun x => x.2.one) (fun x y => cf x.1.2 y.1.2) ⟨fun x => hO.irrefl x.1.2, fun x y z => hO.trans x.1.2 y.1.2 z.1.2, fun x y z => hO.ntrans x.1.2 y.1.2 z.1.2⟩ g #[] b base cap ds.toArray Γ.w0 (fun args w => by
      have h2' : ¬ gf.name = "runtime.NumGoroutine" := by simpa using gf2
      have h3' : ¬ gf.body = none := fun e => by rw [e] at gf3; cases gf3
      simp [callFunc, gf1, h2', h3']) hcmp hH hblk (by rw [hszd]; exact hl)
     rw [hszd] at key
     refine key.mono ?_
     rintro e w' ⟨rfl, d', n, os, hperm, hsort, rfl⟩
     obtain ⟨p1, _, p3⟩ := hperm
     have dsz : d'.size = l.length := by rw [p1]; simp [d1]
     have e1 : d'.toList.Perm ds := by
      have a1 : d'.extract 0 l.length = d' := by rw [← dsz]; simp
      have a2 : ds.toArray.extract 0 l.length = ds.toArray := by rw [← hszd]; simp
      rw [a1, a2] at p3
      simpa using p3
     have e2 : (d'.toList.map fun x => x.1.2) = l.mergeSort fun x y => decide (¬ cf y x < 0) := by
      refine perm_unique (le := fun x y => decide (¬ cf y x < 0)) (fun a b h1 h2 => ?_) ?_ ?_ ?_
      ·simp only [decide_eq_true_eq] at h1 h2
       exact hT a b h2 h1
      ·rw [List.pairwise_map, List.pairwise_iff_getElem]
       intro i j hi hj hij
       have hj' : j < d'.size := by simpa using hj
       have := hsort i j (by omega) hij (by rw [← dsz]; exact hj')
       rw [getElem!_pos d' j hj', getElem!_pos d' i (by omega)] at this
       simpa [Go.Proofs.ltOf] using this
      ·refine List.pairwise_mergeSort (fun a b c h1 h2 => ?_) (fun a b => ?_) l
       ·simp only [decide_eq_true_eq] at h1 h2 ⊢
        have := hO.ntrans c b a (by simpa [Go.Proofs.ltOf] using h2) (by simpa [Go.Proofs.ltOf] using h1)
        simpa [Go.Proofs.ltOf] using this
       ·simp only [Bool.or_eq_true, decide_eq_true_eq]
        rcases Int.lt_or_le (cf b a) 0 with h | h
        ·right
         intro h'
         have := hO.trans a b a (by simpa [Go.Proofs.ltOf] using h') (by simpa [Go.Proofs.ltOf] using h)
         rw [hO.irrefl] at this; cases this
        ·left; omega
      ·exact ((e1.map _).trans (by rw [dl])).trans (List.mergeSort_perm ..).symm
     rw [← e2]
     have hW := Rs.write (k := 1) (es' := ((d'.toList.map fun x => x.1.2).map fun a => [g0 a]).map (·.map C.imm)) (arr' := putCells (fun x : Shw Γ.w0 (Al Γ.N Γ.φ0 Γ.σ0) g0 => x.1.1) base d' arr) hR hσ hp hbk (by rw [vlen, vlen]; simp [dsz]) putCellsG_size (fun j e he => by
       simp only [List.map_map, List.getElem?_map, Option.map_eq_some_iff] at he
       obtain ⟨a, _, rfl⟩ := he; rfl) (by rw [vlen]; omega) (fun j e o x he hx => by
       simp only [List.map_map, List.getElem?_map, Option.map_eq_some_iff] at he
       obtain ⟨z, hz, rfl⟩ := he
       match o with
       | 0 =>
        cases hx
        have := putCellsG_get (enc := fun x : Shw Γ.w0 (Al Γ.N Γ.φ0 Γ.σ0) g0 => x.1.1) (off := base) (d := d'.toList) (arr := arr) (by simp [dsz]; omega) hz
        exact ⟨_, by simpa using this, .imm z.2⟩
       | o + 1 => simp at hx)
     unfold Go.Proofs.sortWorld
     rw [putRowG_ahead, putRowG_setRow hbk]
     refine ⟨_, .tup [], _, Γ.φ0, rfl, ⟨rfl, ?_, fun i => rfl⟩, tupR, (hW.2.ahead n).grow os⟩
     rw [b6.length_put]
  ·have he : l = [] := List.eq_nil_of_length_eq_zero (by omega)
   have hl0 : l.length = 0 := by rw [he]; rfl
   rw [hl0]
   exact empty (some a) cap he
end
end Ab
end
section
namespace Ab
open Go
def vw {α : Type} (l : List α) (off len : Int) : Option Unit := if 0 ≤ off ∧ 0 ≤ len ∧ off + len ≤ l.length then some () else none
def cutV (len lo hi : Int) : Option Unit := if 0 ≤ lo ∧ lo ≤ hi ∧ hi ≤ len then some () else none
def ixV {α : Type} (l : List α) (off len i : Int) : Option α := if 0 ≤ off ∧ 0 ≤ i ∧ i < len ∧ off + len ≤ l.length then ix l (off + i) else none
def n3 {α : Type} (l : List α) (off len : Int) : List α := (l.drop off.toNat).take len.toNat
def clrL {α : Type} (l : List α) (off len : Int) (z : α) : List α := l.take off.toNat ++ List.replicate len.toNat z ++ l.drop (off.toNat + len.toNat)
theorem S8 {α : Type} {l : List α} {off len : Int} {u : Unit} (h : vw l off len = some u) : 0 ≤ off ∧ 0 ≤ len ∧ off + len ≤ l.length := by
 unfold vw at h
 split at h
 ·assumption
 ·cases h
theorem ag5 {len lo hi : Int} {u : Unit} (h : cutV len lo hi = some u) : 0 ≤ lo ∧ lo ≤ hi ∧ hi ≤ len := by
 unfold cutV at h
 split at h
 ·assumption
 ·cases h
theorem ixV_get {α : Type} {l : List α} {off len i : Int} {a : α} (h : ixV l off len i = some a) : (0 ≤ off ∧ 0 ≤ i ∧ i < len ∧ off + len ≤ l.length) ∧ ix l (off + i) = some a := by
 unfold ixV at h
 split at h
 ·exact ⟨‹_›, h⟩
 ·cases h
theorem ixV_ix {α : Type} {l : List α} {off len i : Int} {a : α} (h : ixV l off len i = some a) : ix l (off + i) = some a := (ixV_get h).2
theorem viewL_len {α : Type} {l : List α} {off len : Int} {u : Unit} (h : vw l off len = some u) : (n3 l off len).length = len.toNat := by
 have := S8 h
 simp [n3]; omega
section
variable {α : Type} {f : α → List I} {l : List α} {P : Program} {σ0 : b6} {sz : Nat} {Q : Post} {env env' : Env} {σv σ' : b6} {ops : Array Oper} {rest : List Oper} {dst : Option Nat} {ty : TypeId} {pos : String} {after : Array Edge} {id : Id} {k : Nat}
theorem S.lenV {x : Operand} {t e : TypeId} {n : Int} {j : Nat} [ht : TyD P t (.slice e)] (hn : 0 ≤ n) (hx : ev env x = some (.c (.own id j n.toNat))) (hσ : σv[id]? = some (some (vec k f l))) (hd : e6 sz dst = true)
  (h : n ≤ 9223372036854775807 → AOps P σ0 sz ops Q rest (St.mk (putE env dst (.c (int n))) σv)) : AOps P σ0 sz ops Q (⟨dst, .call ⟨.builtin .len, #[x], #[t]⟩, ty, pos, after, none⟩ :: rest) (St.mk env σv) :=
 AOps.lenOwnB hx hσ hd fun hb => by
  have e1 : ((n.toNat : Nat) : Int) = n := by omega
  rw [e1]
  exact h (by omega)
theorem S.idxV {x y : Operand} {t e : TypeId} {bytes : Nat} {z : Value} {kk : IntKind} {off len i : Int} {a : α} [ht : TyD P t (.slice e)] [hs : TyS P e k bytes z]
  (he : ixV l off len i = some a) (hx : ev env x = some (.c (.own id off.toNat len.toNat))) (hσ : σv[id]? = some (some (vec k f l))) (hy : ev env y = some (.c (.imm (.val (.int kk i))))) (hd : e6 sz dst = true)
  (h : AOps P σ0 sz ops Q rest (St.mk (putE env dst (.c (.ptr id (off + i).toNat 0))) σv)) : AOps P σ0 sz ops Q (⟨dst, .indexAddr t x y, ty, pos, after, none⟩ :: rest) (St.mk env σv) := by
 obtain ⟨⟨h1, h2, h3, h4⟩, _⟩ := ixV_get he
 refine .indexAddrOwn hx hσ hy (by omega) hd ?_
 rw [show off.toNat + i.toNat = (off + i).toNat by omega]
 exact h
theorem S.vFrom {x y : Operand} {t e : TypeId} {bytes : Nat} {z : Value} {kk : IntKind} {off len lo : Int} {j n : Nat} {u u' : Unit} [ht : TyD P t (.slice e)] [hs : TyS P e k bytes z]
  (hv : vw l off len = some u) (hc : cutV len lo len = some u') (hx : ev env x = some (.c (.own id j n))) (hj : j = off.toNat) (hn : n = len.toNat) (hσ : σv[id]? = some (some (vec k f l))) (hy : ev env y = some (.c (.imm (.val (.int kk lo))))) (hd : e6 sz dst = true)
  (h : AOps P σ0 sz ops Q rest (St.mk (putE env dst (.c (.own id (off + lo).toNat (len - lo).toNat))) σv)) : AOps P σ0 sz ops Q (⟨dst, .slice t x (some y) none none, ty, pos, after, none⟩ :: rest) (St.mk env σv) := by
 have h1 := S8 hv; have h2 := ag5 hc
 subst hj hn
 have e1 : lo = ((lo.toNat : Nat) : Int) := by omega
 rw [e1] at hy
 refine AOps.sliceOwnFrom hx hσ hy (by omega) hd ?_
 rw [show off.toNat + lo.toNat = (off + lo).toNat by omega, show len.toNat - lo.toNat = (len - lo).toNat by omega]
 exact h
theorem S.vTo {x y : Operand} {t e : TypeId} {bytes : Nat} {z : Value} {kk : IntKind} {off len hi : Int} {j n : Nat} {u u' : Unit} [ht : TyD P t (.slice e)] [hs : TyS P e k bytes z]
  (hv : vw l off len = some u) (hc : cutV len 0 hi = some u') (hx : ev env x = some (.c (.own id j n))) (hj : j = off.toNat) (hn : n = len.toNat) (hσ : σv[id]? = some (some (vec k f l))) (hy : ev env y = some (.c (.imm (.val (.int kk hi))))) (hd : e6 sz dst = true)
  (h : AOps P σ0 sz ops Q rest (St.mk (putE env dst (.c (.own id off.toNat hi.toNat))) σv)) : AOps P σ0 sz ops Q (⟨dst, .slice t x none (some y) none, ty, pos, after, none⟩ :: rest) (St.mk env σv) := by
 have h1 := S8 hv; have h2 := ag5 hc
 subst hj hn
 have e1 : hi = ((hi.toNat : Nat) : Int) := by omega
 rw [e1] at hy
 exact AOps.sliceOwnTo hx hσ hy (by omega) hd h
theorem S.v3 {x y y' : Operand} {t e : TypeId} {bytes : Nat} {z : Value} {kk kk' : IntKind} {off len lo hi : Int} {j n : Nat} {u u' : Unit} [ht : TyD P t (.slice e)] [hs : TyS P e k bytes z]
  (hv : vw l off len = some u) (hc : cutV len lo hi = some u') (hx : ev env x = some (.c (.own id j n))) (hj : j = off.toNat) (hn : n = len.toNat) (hσ : σv[id]? = some (some (vec k f l))) (hy : ev env y = some (.c (.imm (.val (.int kk lo))))) (hy' : ev env y' = some (.c (.imm (.val (.int kk' hi))))) (hd : e6 sz dst = true)
  (h : AOps P σ0 sz ops Q rest (St.mk (putE env dst (.c (.own id (off + lo).toNat (hi - lo).toNat))) σv)) : AOps P σ0 sz ops Q (⟨dst, .slice t x (some y) (some y') none, ty, pos, after, none⟩ :: rest) (St.mk env σv) := by
 have h1 := S8 hv; have h2 := ag5 hc
 subst hj hn
 refine AOps.sliceOwn hx hσ hy hy' (by omega) hd ?_
 rw [show off.toNat + lo.toNat = (off + lo).toNat by omega, show hi.toNat - lo.toNat = (hi - lo).toNat by omega]
 exact h
def ReE (env : Env) (t : Nat) (c' : C) : Env → Prop
 | [] => True
 | (t', v) :: r => (t' = t ∧ v = .c c' ∨ lookup t' env = some v) ∧ ReE env t c' r
theorem ReE.get {t : Nat} {c' : C} : ∀ {env' : Env}, ReE env t c' env' → ∀ t' v, lookup t' env' = some v → t' = t ∧ v = .c c' ∨ lookup t' env = some v
 | [], _, t, v, h => by simp [lookup] at h
 | (k, x) :: r, ⟨h1, h2⟩, t', v, h => by
  simp only [lookup] at h
  split at h
  ·cases h
   rename_i e
   have : k = t' := by simpa using e
   subst this
   exact h1
  ·exact ReE.get h2 t' v h
theorem Sub.reown {off len : Int} {j n : Nat} {n' : Id} {σ1 : b6} {u : Unit} (t : Nat) (hv : vw l off len = some u) (hx : lookup t env = some (.c (.own id j n))) (hj : j = off.toNat) (hn : n = len.toNat) (hσ : σv[id]? = some (some (vec k f l))) (h0 : Nat.ble σ0.length id.1 = true) (hid : newF σv = some n')
  (h1 : putF σv id none = some σ1) (hσ' : o6 σ1 (.one (vec k f (n3 l off len))) = some σ') (henv : ReE env t (.own n' 0 (n3 l off len).length) env') : Sub σ0 ⟨env, σv⟩ ⟨env', σ'⟩ := fun Γ sz φ a w hΓ hR => by
 have h2 := w3 h1
 have h3 := v8 hid; have h4 := n5 hσ'
 have hvl := viewL_len hv
 have hvg := S8 hv
 subst hj hn h2 h3 h4
 have hidl := b6.lt_of hσ
 have at_new : (σv.put id none ++ [.one (vec k f (n3 l off len))])[((σv.length, []) : Id)]? = some (some (vec k f (n3 l off len))) := by
  rw [b6.get_right (by simp)]; simp; rfl
 obtain ⟨u0, hu0, hrel⟩ := hR.env t _ hx
 have ho := D0 hrel hσ
 have fin : ∀ (φ' : Phi) (hk : Kept w w φ φ' σv (σv.put id none ++ [.one (vec k f (n3 l off len))]) (Al Γ.N φ σv) (Al Γ.N φ' (σv.put id none ++ [.one (vec k f (n3 l off len))]))) (hs : Rs Γ (σv.put id none ++ [.one (vec k f (n3 l off len))]) φ' w) (hview : N4 w (φ' (σv.length, [])) k (n3 l off len).length 0 (n3 l off len).length u0),
   R Γ sz ⟨env', σv.put id none ++ [.one (vec k f (n3 l off len))]⟩ φ' a w := fun φ' hk hs hview => by
  have hR1 := hR.of hk hs
  refine { toRs := hs, defers := hR1.defers, asize := hR.asize, env := fun t' v' ht' => ?_ }
  rcases henv.get t' v' ht' with ⟨rfl, rfl⟩ | h
  ·refine ⟨u0, hu0, .c (.own (by simp) (by cases hrel with | c g2 => exact g2.one) fun k' es' he => ?_)⟩
   rw [at_new] at he
   cases he
   simpa using hview
  ·obtain ⟨u1, g1, g2⟩ := hR1.env t' v' h
   exact ⟨u1, g1, g2⟩
 rcases ho with ⟨p1, p2, p3, p4⟩ | ⟨b, base, cap, arr, ety, ad, hp, hvv, had, hcap, hmax, hjn, hbk, hsz⟩
 ·have hnil : n3 l off len = [] := List.eq_nil_of_length_eq_zero (by rw [hvl, p4])
  have hK := hR.toRs.kill id
  have hV := hK.2.virt k
  have e1 : σv.put id none ++ [.one (vec k f (n3 l off len))] = σv.put id none ++ [.one (.cells k [])] := by rw [hnil]; rfl
  rw [b6.length_put] at hV
  refine ⟨fun i => if i = (σv.length, []) then none else φ i, ?_⟩
  have := fin (fun i => if i = (σv.length, []) then none else φ i) (by rw [e1]; exact Kept.trans (Nat.le_refl _) hK.1 hV.1) (by rw [e1]; exact hV.2) (.inl ⟨by simp, p2, rfl, by rw [hnil]; rfl⟩)
  exact this
 ·obtain ⟨arr2, ety2, q1, q2, q3, q4⟩ := D1 hR hσ hp
  rw [hbk] at q1; cases q1
  have hO := Rs.reown (k := k) (base' := base + off.toNat * k) (es' := ((n3 l off len).map f).map (·.map C.imm)) (arr' := arr) hR.toRs hσ hp hbk (fun j e he => by
    have : ((n3 l off len).map f).map (·.map C.imm) = ((((l.map f).map (·.map C.imm)).drop off.toNat).take len.toNat) := by simp [n3, List.map_drop, List.map_take]
    rw [this, List.getElem?_take] at he
    split at he
    ·rw [List.getElem?_drop] at he
     exact q3 _ e he
    ·cases he) (by
    simp only [List.length_map, hvl]
    have : (off.toNat + cap) * k = off.toNat * k + cap * k := Nat.add_mul ..
    have : len.toNat * k ≤ cap * k := Nat.mul_le_mul_right k hcap
    omega) (fun j e o x he hx => by
    have : ((n3 l off len).map f).map (·.map C.imm) = ((((l.map f).map (·.map C.imm)).drop off.toNat).take len.toNat) := by simp [n3, List.map_drop, List.map_take]
    rw [this, List.getElem?_take] at he
    split at he
    ·rw [List.getElem?_drop] at he
     obtain ⟨u2, g1, g2⟩ := q4 _ e o x he hx
     refine ⟨u2, ?_, g2⟩
     rw [← g1, Nat.add_mul]
     congr 1; omega
    ·cases he)
  rw [Go.setRow_self w b arr ety (0, 0) hbk] at hO
  refine ⟨fun i => if i = (σv.length, []) then some (b, base + off.toNat * k) else φ i, ?_⟩
  refine fin _ hO.1 hO.2 (.inr ⟨b, base + off.toNat * k, cap, arr, ety, ad, by simp, ?_, fun hc => ?_, ?_, hmax, by omega, hbk, ?_⟩)
  ·rw [hvv, hvl]
  ·rw [had hc, Nat.zero_mul, Nat.add_zero]
  ·rw [hvl]; exact hcap
  ·have : (off.toNat + cap) * k = off.toNat * k + cap * k := Nat.add_mul ..
   rw [Nat.zero_add]; omega
theorem AWP.reown {c : Code} {off len : Int} {j n : Nat} {n' : Id} {σ1 : b6} {u : Unit} (t : Nat) (hv : vw l off len = some u) (hx : lookup t env = some (.c (.own id j n))) (hj : j = off.toNat) (hn : n = len.toNat) (hσ : σv[id]? = some (some (vec k f l))) (h0 : Nat.ble σ0.length id.1 = true) (hid : newF σv = some n')
  (h1 : putF σv id none = some σ1) (hσ' : o6 σ1 (.one (vec k f (n3 l off len))) = some σ') (henv : ReE env t (.own n' 0 (n3 l off len).length) env') (h : AWP P σ0 sz c Q ⟨env', σ'⟩) : AWP P σ0 sz c Q ⟨env, σv⟩ :=
 AWP.sub (Sub.reown t hv hx hj hn hσ h0 hid h1 hσ' henv) h
theorem zeroCells_one {v : Value} (n : Nat) : (Builtin.zeroCells #[v] n).toList = List.replicate n v := by
 refine List.ext_getElem? fun i => ?_
 simp only [Builtin.zeroCells, Array.toList_map, List.getElem?_map, List.getElem?_replicate]
 by_cases h : i < n
 ·have : (Array.range (n * (#[v] : Array Value).size)).toList[i]? = some i := by simp [h]
  rw [this, if_pos h]
  simp [Nat.mod_one]
 ·have : (Array.range (n * (#[v] : Array Value).size)).toList[i]? = none := by simp; omega
  rw [this, if_neg h]; rfl
theorem S.clear {x : Operand} {t e : TypeId} {bytes : Nat} {z : Value} {off len : Int} {j n : Nat} {u : Unit} {a0 : α} {c0 : C} [ht : TyD P t (.slice e)] [hs : TyS P e 1 bytes z] (hz1 : z.cells = #[z]) (hzc : z.oneCell' = true)
  (hf : (f a0).map C.imm = [c0]) (hrel : ∀ w φ σ A, RelC w φ σ A c0 z)
  (hv : vw l off len = some u) (hx : ev env x = some (.c (.own id j n))) (hj : j = off.toNat) (hn : n = len.toNat) (hσ : σv[id]? = some (some (vec 1 f l))) (hσ' : putF σv id (some (vec 1 f (clrL l off len a0))) = some σ')
  (h : AOps P σ0 sz ops Q rest (St.mk env σ')) : AOps P σ0 sz ops Q (⟨none, .call ⟨.builtin .clear, #[x], #[t]⟩, ty, pos, after, none⟩ :: rest) (St.mk env σv) := by
 have hvg := S8 hv
 have h2 := w3 hσ'
 subst hj hn h2
 refine .valueW rfl rfl (.tup []) (σv.put id (some (vec 1 f (clrL l off len a0)))) (fun Γ φ a w hR => ?_) h
 have tupR : ∀ {w φ σ A}, RelT w φ σ A (.tup []) (.tuple #[]) := fun {w φ σ A} => RelT.tup (ts := []) (fun _ => undef) fun i t h => by simp at h
 have ho := D0 (f9 hR hx) hσ
 have clen : (clrL l off len a0).length = l.length := by simp [clrL]; omega
 have nothing : len.toNat = 0 → clrL l off len a0 = l := fun e => by simp [clrL, e]
 have same : len.toNat = 0 → (execOp a.eval ⟨none, .call ⟨.builtin .clear, #[x], #[t]⟩, ty, pos, after, none⟩).run P w = .ok (.value (.tuple #[])) w → ∃ u w' φ', (execOp a.eval ⟨none, .call ⟨.builtin .clear, #[x], #[t]⟩, ty, pos, after, none⟩).run P w = .ok (.value u) w' ∧ RelT w' φ' (σv.put id (some (vec 1 f (clrL l off len a0)))) (Al Γ.N φ' (σv.put id (some (vec 1 f (clrL l off len a0))))) (.tup []) u ∧ R Γ sz ⟨env, σv.put id (some (vec 1 f (clrL l off len a0)))⟩ φ' a w' := fun e0 hrun => by
  rw [nothing e0]
  have hsub := Sub.blk (σ0 := Γ.σ0) (env := env) (id := id) (k := 1) (es := (l.map f).map (·.map C.imm)) (es' := (l.map f).map (·.map C.imm)) hσ rfl (fun i e' he => by
   rcases hR.st.blk _ _ hσ with ⟨_, g2⟩ | ⟨_, _, _, _, _, _, _, g4, _⟩
   ·rw [g2] at he; simp at he
   ·exact g4 i e' he) (fun i e' o x' he hx' => ⟨e', x', he, hx', fun _ _ _ _ _ hr => hr⟩)
  obtain ⟨φ', hR'⟩ := hsub Γ sz φ a w rfl hR
  exact ⟨_, w, φ', hrun, tupR, hR'⟩
 rcases ho with ⟨p1, p2, p3, p4⟩ | ⟨b, base, cap, arr, ety, ad, hp, hvv, had, hcap, hmax, hjn, hbk, hsz⟩
 ·exact same p4 (by simp [execOp, resolve, invoke, builtin, p2, Builtin.clear_, run_underlying ht.h])
 ·by_cases e0 : len.toNat = 0
  ·refine same e0 ?_
   rw [e0] at hvv
   simp [execOp, resolve, invoke, builtin, hvv, Builtin.clear_, run_underlying ht.h]
  ·have hc0 : 0 < cap := by omega
   have := had hc0
   subst this
   obtain ⟨arr2, ety2, q1, q2, q3, q4⟩ := D1 hR hσ hp
   rw [hbk] at q1; cases q1
   simp only [List.length_map] at q2 hjn
   have hst := run_storeCells_at P b (base + off.toNat * 1) ety (List.replicate len.toNat z) 0 arr w hbk (by simp; omega) (fun v hv => by rw [List.eq_of_mem_replicate hv]; exact hzc)
   simp only [Nat.add_zero, Nat.mul_one, List.length_replicate] at hst
   have hl1 : ∀ b : α, ((f b).map C.imm).length = (f b).length := fun b => by simp
   have hW := Rs.write (k := 1) (es' := ((clrL l off len a0).map f).map (·.map C.imm)) (arr' := (arr.toList.take (base + off.toNat) ++ List.replicate len.toNat z ++ arr.toList.drop (base + off.toNat + len.toNat)).toArray) hR.toRs hσ hp hbk (by simp [clen]) (by simp; omega) (fun i e' he => by
     simp only [List.map_map, List.getElem?_map, Option.map_eq_some_iff] at he
     obtain ⟨y, hy, rfl⟩ := he
     by_cases hyl : y ∈ l
     ·obtain ⟨i', hi'⟩ := List.getElem?_of_mem hyl
      exact q3 i' _ (by simp [hi'])
     ·have hy := List.mem_of_getElem? hy
      simp only [clrL, List.mem_append] at hy
      rcases hy with (hy | hy) | hy
      ·exact absurd (List.mem_of_mem_take hy) hyl
      ·rw [List.eq_of_mem_replicate hy]
       simp only [Function.comp_apply, hf]; rfl
      ·exact absurd (List.mem_of_mem_drop hy) hyl) (by simp; omega) (fun i e' o x' he hx' => by
     simp only [List.map_map, List.getElem?_map, Option.map_eq_some_iff, Function.comp_apply] at he
     obtain ⟨y, hy, rfl⟩ := he
     simp only [List.getElem?_toArray]
     have hsp := C7 arr.toList (List.replicate len.toNat z) (base + off.toNat) (base + (i * 1 + o)) (by simp; omega)
     simp only [List.length_replicate] at hsp
     rw [hsp]
     have hy' : (clrL l off len a0)[i]? = if off.toNat ≤ i ∧ i < off.toNat + len.toNat then some a0 else l[i]? := by
      have := C7 l (List.replicate len.toNat a0) off.toNat i (by simp; omega)
      simp only [List.length_replicate] at this
      rw [clrL, this]
      split
      ·rw [List.getElem?_replicate, if_pos (by omega)]
      ·rfl
     rw [hy'] at hy
     split at hy
     ·rename_i hi
      cases hy
      rw [hf] at hx'
      match o with
      | 0 =>
       cases hx'
       rw [if_pos (by omega), List.getElem?_replicate, if_pos (by omega)]
       exact ⟨z, rfl, hrel _ _ _ _⟩
      | o + 1 => simp at hx'
     ·rename_i hi
      have ho : o = 0 := by
       have h1 := q3 i ((f y).map C.imm) (by simp [hy])
       have := (List.getElem?_eq_some_iff.1 hx').1
       omega
      subst ho
      rw [if_neg (by omega)]
      obtain ⟨u2, g1, g2⟩ := q4 i ((f y).map C.imm) 0 x' (by simp [hy]) hx'
      exact ⟨u2, by simpa using g1, g2⟩)
   have hz := G3 (P := P) (t := e) w
   refine ⟨.tuple #[], _, φ, ?_, tupR, hR.of hW.1 hW.2⟩
   have hne : ¬ (len.toNat = 0) := e0
   simp [execOp, resolve, invoke, builtin, hvv, Builtin.clear_, run_underlying ht.h, hz, hz1, zeroCells_one, hst]
end
end Ab
end
section
namespace Ab
open Go Go.Sort
def CmpOk {α : Type} (cmp : α → α → Option Int) (cf : α → α → Int) : Prop := (∀ a b, cmp a b = some (cf a b)) ∧ SWO (Go.Proofs.ltOf cf) ∧ ∀ a b, ¬ cf a b < 0 → ¬ cf b a < 0 → a = b
noncomputable def ab0 {α : Type} (cmp : α → α → Option Int) (l : List α) : Option (List α) := open Classical in
 if h : l.length < 4611686018427387904 ∧ ∃ cf, CmpOk cmp cf then some (l.mergeSort fun x y => decide (¬ h.2.choose y x < 0)) else none
theorem sortFL_eq {α : Type} {cmp : α → α → Option Int} {cf : α → α → Int} {l : List α} (h : l.length < 4611686018427387904) (hc : CmpOk cmp cf) : ab0 cmp l = some (l.mergeSort fun x y => decide (¬ cf y x < 0)) := by
 unfold ab0
 have hx : l.length < 4611686018427387904 ∧ ∃ cf, CmpOk cmp cf := ⟨h, cf, hc⟩
 rw [dif_pos hx]
 have e : hx.2.choose = cf := by
  funext a b
  have := hx.2.choose_spec.1 a b
  rw [hc.1 a b] at this
  exact (Option.some.inj this).symm
 rw [e]
theorem sortFL_len {α : Type} {cmp : α → α → Option Int} {l l' : List α} (h : ab0 cmp l = some l') : l.length = l'.length := by
 unfold ab0 at h
 split at h
 ·cases h; simp
 ·cases h
def SortFOk (P : Program) (f : FuncId) : Prop := ∀ {α : Type} {g : FuncId} {g0 : α → I} {cf : α → α → Int}, I0 P g → SWO (Go.Proofs.ltOf cf) → (∀ a b, ¬ cf a b < 0 → ¬ cf b a < 0 → a = b) → (∀ a b, f7 P g [.c (.imm (g0 a)), .c (.imm (g0 b))] (.c (int (cf a b)))) →
 ∀ {σ : b6} {id : Id} {l : List α}, σ[id]? = some (some (vec 1 (fun a => [g0 a]) l)) → l.length < 4611686018427387904 →
  FnOk P f [.c (.own id 0 l.length), .c (.fn g [])] σ fun r σ' => r = .tup [] ∧ σ'.length = σ.length ∧ ∀ i : Id, σ'[i]? = (σ.put id (some (vec 1 (fun a => [g0 a]) (l.mergeSort fun x y => decide (¬ cf y x < 0)))))[i]?
section
variable {P : Program} {σ0 : b6} {sz : Nat} {Q : Post} {env : Env} {σv σ' : b6} {ops : Array Oper} {rest : List Oper} {dst : Option Nat} {ty : TypeId} {pos : String} {after : Array Edge}
theorem S.sortF {α : Type} {f : α → List I} (g0 : α → I) {cmp : α → α → Option Int} {x : Operand} {al : List Operand} {ats : Array TypeId} {fs g : FuncId} {id : Id} {n : Nat} {l l' : List α} (hs : ab0 cmp l = some l') (hfg : f = fun a => [g0 a])
  (hcmp : ∀ {a b r}, cmp a b = some r → f7 P g [.c (.imm (g0 a)), .c (.imm (g0 b))] (.c (int r))) (hf : SortFOk P fs) (hgn : I0 P g) (hx : ev env x = some (.c (.fn fs []))) (ha : evs env al = some [.c (.own id 0 n), .c (.fn g [])]) (hn : n = l.length) (hσ : σv[id]? = some (some (vec 1 f l)))
  (hd : e6 sz dst = true) (hσ' : putF σv id (some (vec 1 f l')) = some σ') (h : AOps P σ0 sz ops Q rest (St.mk (putE env dst (.tup [])) σ')) :
  AOps P σ0 sz ops Q (⟨dst, .call ⟨.value x, al.toArray, ats⟩, ty, pos, after, none⟩ :: rest) (St.mk env σv) := by
 have h2 := w3 hσ'
 subst h2 hn hfg
 unfold ab0 at hs
 split at hs
 ·rename_i hx0
  cases hs
  obtain ⟨c1, c2, c3⟩ := hx0.2.choose_spec
  refine AOps.callS hx ha hd (hf hgn c2 c3 (fun a b => hcmp (c1 a b)) hσ hx0.1) ?_
  rintro r σ2 ⟨rfl, hl, he⟩
  refine AOps.sub (s' := ⟨putE env dst (.tup []), σv.put id (some (vec 1 (fun a => [g0 a]) (l.mergeSort fun x y => decide (¬ hx0.2.choose y x < 0))))⟩) ?_ h
  have := Sub.same (σ0 := σ0) (env := putE env dst (.tup [])) (σ1 := σ2) (σ2 := σv.put id (some (vec 1 (fun a => [g0 a]) (l.mergeSort fun x y => decide (¬ hx0.2.choose y x < 0))))) (by rw [b6.length_put, hl]) he
  cases dst <;> exact this
 ·cases hs
end
/-! ### Views in chains -/
theorem P1 {α : Type} (l : List α) : vw l 0 (l.length : Int) = some () := by unfold vw; rw [if_pos]; omega
theorem vw_cut {α : Type} {l : List α} {off len lo hi : Int} {u u' : Unit} (h : vw l off len = some u) (hc : cutV len lo hi = some u') : vw l (off + lo) (hi - lo) = some () := by
 have := S8 h; have := ag5 hc
 unfold vw; rw [if_pos]; omega
theorem vw_to {α : Type} {l : List α} {off len hi : Int} {u u' : Unit} (h : vw l off len = some u) (hc : cutV len 0 hi = some u') : vw l off hi = some () := by
 have := S8 h; have := ag5 hc
 unfold vw; rw [if_pos]; omega
theorem clrL_len {α : Type} {l : List α} {off len : Int} {u : Unit} {z : α} (h : vw l off len = some u) : (clrL l off len z).length = l.length := by
 have := S8 h
 simp [clrL]; omega
end Ab
end
section
namespace Ab
open Go
def shlW (k : IntKind) (a b : Int) : Int := k.wrap (a * 2 ^ (min b.toNat k.bits))
def chk0 (b : Int) : Option Unit := if b < 0 then none else some ()
def chkN (b : Int) : Option Unit := if b = 0 then none else some ()
theorem chk0_get {b : Int} {u : Unit} (h : chk0 b = some u) : ¬ b < 0 := by
 unfold chk0 at h
 split at h
 ·cases h
 ·assumption
theorem chkN_get {b : Int} {u : Unit} (h : chkN b = some u) : b ≠ 0 := by
 unfold chkN at h
 split at h
 ·cases h
 ·assumption
section
variable {P : Program} {σ0 : b6} {sz : Nat} {Q : Post} {env : Env} {σv : b6} {ops : Array Oper} {rest : List Oper} {dst : Option Nat} {ty : TypeId} {pos : String} {after : Array Edge}
theorem S.shl {t t' : TypeId} {x y : Operand} {k k' : IntKind} {a b : Int} {u : Unit} (hb : chk0 b = some u) (hx : ev env x = some (.c (.imm (.val (.int k a))))) (hy : ev env y = some (.c (.imm (.val (.int k' b))))) (hd : e6 sz dst = true)
  (h : AOps P σ0 sz ops Q rest (St.mk (putE env dst (.c (.imm (.val (.int k (shlW k a b)))))) σv)) : AOps P σ0 sz ops Q (⟨dst, .binOp .shl t x y t', ty, pos, after, none⟩ :: rest) (St.mk env σv) :=
 .bin hx hy hd rfl (fun w => by simp [go_sem]) (fun w => by simp [binOp, Op.shift, chk0_get hb, shlW]) h
theorem S.quo {t t' : TypeId} {x y : Operand} {k : IntKind} {a b : Int} {u : Unit} (hb : chkN b = some u) (hx : ev env x = some (.c (.imm (.val (.int k a))))) (hy : ev env y = some (.c (.imm (.val (.int k b))))) (hd : e6 sz dst = true)
  (h : AOps P σ0 sz ops Q rest (St.mk (putE env dst (.c (.imm (.val (.int k (k.wrap (a.tdiv b))))))) σv)) : AOps P σ0 sz ops Q (⟨dst, .binOp .quo t x y t', ty, pos, after, none⟩ :: rest) (St.mk env σv) := .quoW hx hy hd (chkN_get hb) h
end
section
variable {P : Program} {σ0 : b6} {sz : Nat} {Q : Post} {env env' : Env} {σv σ' : b6}
theorem Sub.virtB {α : Type} (k : Nat) (f : α → List I) {b n : Id} {kb o : Nat} {cs cs' : List C} {σ1 : b6} (hb : σv[b]? = some (some (.cells kb [cs]))) (hc : cs[o]? = some (.imm (.val (.slice none 0 0)))) (hn : newF σv = some n) (h1 : o6 σv (.one (vec k f [])) = some σ1)
  (hs : setF cs o (.own n 0 ([] : List α).length) = some cs') (hσ' : putF σ1 b (some (.cells kb [cs'])) = some σ') : Sub σ0 ⟨env, σv⟩ ⟨env, σ'⟩ := fun Γ sz φ a w hΓ hR => by
 have g1 := v8 hn; have g2 := n5 h1; have g3 := H9 hs; have g4 := w3 hσ'
 obtain ⟨g3, g3'⟩ := g3
 subst g1 g2 g3 g4
 have hbl := b6.lt_of hb
 have hV := hR.toRs.virt k
 have hb' : (σv ++ [.one (vec k f [])])[b]? = some (some (.cells kb [cs])) := by rw [b6.get_left hbl]; exact hb
 have e0 : (σv ++ [.one (.cells k [])] : b6) = σv ++ [.one (vec k f [])] := rfl
 rw [e0] at hV
 generalize hφ : (fun i => if i = ((σv.length, []) : Id) then none else φ i) = φ' at hV
 have φn : φ' (σv.length, []) = none := by rw [← hφ]; simp
 rcases hV.2.st.blk _ _ hb' with ⟨_, g⟩ | ⟨b0, base, arr, ety, q1, q2, q3, q4, q5⟩
 ·cases g
 ·have hW := Rs.write (k := kb) (es' := [cs.set o (.own (σv.length, []) 0 ([] : List α).length)]) (arr' := arr) hV.2 hb' q1 q2 rfl rfl (fun j e he => by
   match j with
   | 0 =>
    cases he
    rw [List.length_set]
    exact q4 0 cs rfl
   | j + 1 => simp at he) (by simpa using q3) (fun j e i x he hx => by
   match j with
   | 0 =>
    cases he
    rw [List.getElem?_set] at hx
    split at hx
    ·rename_i e
     subst e
     cases hx
     obtain ⟨u, hu, hr⟩ := q5 0 cs o _ rfl hc
     refine ⟨u, hu, ?_⟩
     cases hr with | imm hr => cases hr with | val h =>
      exact .own (by simp) rfl fun k' es' _ => .inl ⟨φn, rfl, rfl, rfl⟩
    ·exact q5 0 cs i x rfl hx
   | j + 1 => simp at he)
  rw [Go.setRow_self w b0 arr ety (0, 0) q2] at hW
  exact ⟨φ', (hR.of hV.1 hV.2).of hW.1 hW.2⟩
theorem AWP.virtB {α : Type} {c : Code} (k : Nat) (f : α → List I) {b n : Id} {kb o : Nat} {cs cs' : List C} {σ1 : b6} (hb : σv[b]? = some (some (.cells kb [cs]))) (hc : cs[o]? = some (.imm (.val (.slice none 0 0)))) (hn : newF σv = some n) (h1 : o6 σv (.one (vec k f [])) = some σ1)
  (hs : setF cs o (.own n 0 ([] : List α).length) = some cs') (hσ' : putF σ1 b (some (.cells kb [cs'])) = some σ') (h : AWP P σ0 sz c Q ⟨env, σ'⟩) : AWP P σ0 sz c Q ⟨env, σv⟩ := AWP.sub (Sub.virtB k f hb hc hn h1 hs hσ') h
def NilB : List C → List C → Prop
 | [], [] => True
 | c :: r, c' :: r' => (c' = c ∨ c = .imm (.val (.slice none 0 0)) ∧ ∃ k, c' = .imm (.sl k [])) ∧ NilB r r'
 | _, _ => False
theorem NilB.len : ∀ {l l' : List C}, NilB l l' → l'.length = l.length
 | [], [], _ => rfl
 | _ :: r, _ :: r', ⟨_, h⟩ => by simp [NilB.len h]
 | [], _ :: _, h => h.elim
 | _ :: _, [], h => h.elim
theorem NilB.get : ∀ {l l' : List C}, NilB l l' → ∀ (o : Nat) (x : C), l'[o]? = some x → ∃ x0, l[o]? = some x0 ∧ (x = x0 ∨ x0 = .imm (.val (.slice none 0 0)) ∧ ∃ k, x = .imm (.sl k []))
 | [], [], _, o, x, h => by simp at h
 | c :: r, c' :: r', ⟨h1, h2⟩, o, x, h => by
  match o with
  | 0 => cases h; exact ⟨c, rfl, h1⟩
  | o + 1 => simpa using NilB.get h2 o x (by simpa using h)
 | [], _ :: _, h, _, _, _ => h.elim
 | _ :: _, [], h, _, _, _ => h.elim
theorem Sub.nilB {b : Id} {kb : Nat} {cs : List C} (cs' : List C) (hb : σv[b]? = some (some (.cells kb [cs]))) (h : NilB cs cs') (hlen : cs.length = kb) (hσ' : putF σv b (some (.cells kb [cs'])) = some σ') : Sub σ0 ⟨env, σv⟩ ⟨env, σ'⟩ := by
 have g := w3 hσ'
 subst g
 refine Sub.blk hb rfl (fun j e he => ?_) (fun j e o x he hx => ?_)
 ·match j with
  | 0 => cases he; rw [h.len, hlen]
  | j + 1 => simp at he
 ·match j with
  | 0 =>
   cases he
   obtain ⟨x0, h1, h2⟩ := h.get o x hx
   refine ⟨cs, x0, rfl, h1, fun w φ σ A u hr => ?_⟩
   rcases h2 with rfl | ⟨rfl, k, rfl⟩
   ·exact hr
   ·cases hr with | imm hr => cases hr with | val => exact .imm .slNil
  | j + 1 => simp at he
theorem AWP.nilB {c : Code} {b : Id} {kb : Nat} {cs : List C} (cs' : List C) (hb : σv[b]? = some (some (.cells kb [cs]))) (h : NilB cs cs') (hlen : cs.length = kb) (hσ' : putF σv b (some (.cells kb [cs'])) = some σ') (hn : AWP P σ0 sz c Q ⟨env, σ'⟩) : AWP P σ0 sz c Q ⟨env, σv⟩ := AWP.sub (Sub.nilB cs' hb h hlen hσ') hn
end
end Ab
end
section
namespace Ab
open Go
section
variable {α : Type} {f : α → List I} {l : List α} {p m : Nat} {n id : Id}
abbrev vecS (f : α → List I) (l : List α) (p : Nat) (n : Id) (m : Nat) : Blk := .cells 1 (((l.map f).map (·.map C.imm)).set p [.own n 0 m])
theorem mem_set {β : Type} {x a : β} : ∀ {l : List β} {p : Nat}, x ∈ l.set p a → x ∈ l ∨ x = a
 | [], _, h => by simp at h
 | b :: l, 0, h => by
  rcases List.mem_cons.1 h with h | h
  ·exact .inr h
  ·exact .inl (List.mem_cons_of_mem _ h)
 | b :: l, p + 1, h => by
  rcases List.mem_cons.1 h with h | h
  ·exact .inl (h ▸ List.mem_cons_self ..)
  ·rcases mem_set h with h | h
   ·exact .inl (List.mem_cons_of_mem _ h)
   ·exact .inr h
theorem vs_no (h : idb n id = false) : (vecS f l p n m).no id = true := by
 simp only [Blk.no, List.all_eq_true]
 intro e he
 rcases mem_set he with h1 | rfl
 ·have := Blk.im_no id 1 (l.map f)
  simp only [Blk.im, Blk.no, List.all_eq_true] at this
  exact this e h1
 ·simp [C.noL, C.no, h]
theorem FrzB.vs {X : C → C → Prop} (h : idb n id = false) : FrzB id X (.one (vecS f l p n m)) (.one (vecS f l p n m)) := by
 have hno := vs_no (f := f) (l := l) (p := p) (m := m) h
 have imm : ∀ e ∈ ((l.map f).map (·.map C.imm)).set p [.own n 0 m], FrzL id X e e := fun e he => by
  rcases mem_set he with h1 | rfl
  ·simp only [List.map_map, List.mem_map, Function.comp_apply] at h1
   obtain ⟨a, _, rfl⟩ := h1
   exact FrzL.imm _
  ·exact ⟨.inl ⟨rfl, by simp [C.no, h]⟩, trivial⟩
 unfold FrzB
 split
 ·rename_i h1 _; cases h1
 ·rename_i k1 e k2 e' h1 h2
  simp only [Ent.one.injEq, Blk.cells.injEq] at h1 h2
  obtain ⟨rfl, h1⟩ := h1
  obtain ⟨rfl, h2⟩ := h2
  have : e = e' := by rw [h1] at h2; simpa using h2
  subst this
  exact ⟨rfl, imm e (by rw [h1]; simp)⟩
 ·rename_i h1 h2
  cases h1; cases h2
  exact ⟨rfl, hno⟩
 ·rename_i h1; cases h1
 ·rename_i h1 h2 h3 h4
  first | exact (h3 _ _ rfl rfl).elim | exact (h4 _ _ rfl rfl).elim | exact (h2 _ _ rfl rfl).elim
end
section
variable {P : Program} {σ0 : b6} {sz : Nat} {Q : Post} {env : Env} {σv σ' : b6} {ops : Array Oper} {rest : List Oper} {dst : Option Nat} {ty : TypeId} {pos : String} {after : Array Edge}
variable {α β : Type} {f : α → List I} {l : List α} {p m : Nat} {n id : Id}
inductive FrzE (id : Id) (k : Nat) (es : List (List I)) (X : C → C → Prop) : Ent → Ent → Prop
 | old {e e' : Ent} (h : FrzB id X e e') : FrzE id k es X e e'
 | vs {α : Type} {f : α → List I} {l : List α} {p m : Nat} {b : Blk} (h : Blk.frz id k es (vecS f l p id m) = b) : FrzE id k es X (.one (vecS f l p id m)) (.one b)
def FrzS2 (id : Id) (k : Nat) (es : List (List I)) (X : C → C → Prop) : b6 → b6 → Prop
 | [], [] => True
 | b :: r, b' :: r' => FrzE id k es X b b' ∧ FrzS2 id k es X r r'
 | _, _ => False
theorem FrzE.get {k : Nat} {es : List (List I)} {X : C → C → Prop} (hX : ∀ c c', X c c' → c.frz id k es = c') {e e' : Ent} (h : FrzE id k es X e e') (p : List Nat) : (e.sub p).map (Blk.frz id k es) = e'.sub p := by
 cases h with
 | old h => exact FrzB.get hX h p
 | vs h =>
  cases p with
  | nil => simp only [Ent.sub, Option.map_some, h]
  | cons => rfl
theorem FrzS2.get {k : Nat} {es : List (List I)} {X : C → C → Prop} (hX : ∀ c c', X c c' → c.frz id k es = c') : ∀ {σ σ2 : b6}, FrzS2 id k es X σ σ2 → ∀ i : Id, (σ[i]?).map (Option.map (Blk.frz id k es)) = σ2[i]?
 | [], [], _, i => rfl
 | [], _ :: _, h, _ => h.elim
 | _ :: _, [], h, _ => h.elim
 | e :: r, e' :: r', h, (0, p) => by
  rw [b6.at_eq, b6.at_eq]
  simp only [b6.at, List.getElem?_cons_zero, Option.map_some, FrzE.get hX h.1 p]
 | e :: r, e' :: r', h, (i + 1, p) => by
  have := FrzS2.get hX h.2 (i, p)
  rw [b6.at_eq, b6.at_eq] at this ⊢
  simpa [b6.at] using this
theorem FrzS2.len {k : Nat} {es : List (List I)} {X : C → C → Prop} : ∀ {σ σ2 : b6}, FrzS2 id k es X σ σ2 → σ2.length = σ.length
 | [], [], _ => rfl
 | [], _ :: _, h => h.elim
 | _ :: _, [], h => h.elim
 | e :: r, e' :: r', h => by simp [FrzS2.len h.2]
end
end Ab
end
section
namespace Ab
open Go
section
variable {P : Program} {σ0 : b6} {sz : Nat} {Q : Post} {env : Env} {σv σ' : b6} {ops : Array Oper} {rest : List Oper} {dst : Option Nat} {ty : TypeId} {pos : String} {after : Array Edge}
end
end Ab
end
section
namespace Ab
open Go
theorem Rs.allocB {Γ : Cx} {σ : b6} {φ : Phi} {w : World} (h : Rs Γ σ φ w) {p0 : Obj → List Value → Prop} {cs0 : List C} {us0 : List Value} {obj : Obj} (hob : p0 obj us0) (hcs : ∀ (i : Nat) (x : C), cs0[i]? = some x → ∃ u, us0[i]? = some u ∧ RelC w φ σ (Al Γ.N φ σ) x u) :
  Kept w (w.alloc obj) φ (l9 σ.length φ w.heap.size) σ (σ ++ [.one (.obj p0 cs0)]) (Al Γ.N φ σ) (Al Γ.N (l9 σ.length φ w.heap.size) (σ ++ [.one (.obj p0 cs0)])) ∧
  Rs Γ (σ ++ [.one (.obj p0 cs0)]) (l9 σ.length φ w.heap.size) (w.alloc obj) := by
 have old : ∀ b, b < w.heap.size → (w.alloc obj).heap[b]? = w.heap[b]? := fun b hb => by first | exact heap_alloc_old w _ hb | exact heap_alloc_old w _ _ hb
 have new : (w.alloc obj).heap[w.heap.size]? = some obj := heap_alloc_new w _
 have plo : ∀ i : Id, i.1 < σ.length → l9 σ.length φ w.heap.size i = φ i := fun i hi => by
  have : i ≠ (σ.length, []) := fun e => by rw [e] at hi; exact Nat.lt_irrefl _ hi
  simp [l9, this]
 have pnew : l9 σ.length φ w.heap.size (σ.length, []) = some (w.heap.size, 0) := by simp [l9]
 have cases2 : ∀ (i : Id) blk, (σ ++ [.one (.obj p0 cs0)])[i]? = some (some blk) → (i.1 < σ.length ∧ σ[i]? = some (some blk)) ∨ (i = (σ.length, []) ∧ blk = .obj p0 cs0) := fun i blk hi => b6.get_new hi
 have A1 : ∀ b, Al Γ.N φ σ b → b < w.heap.size → Al Γ.N (l9 σ.length φ w.heap.size) (σ ++ [.one (.obj p0 cs0)]) b := fun b hb hl => ⟨hb.1, fun i blk base hi hp => by
  rcases cases2 i blk hi with ⟨h1, h2⟩ | ⟨rfl, rfl⟩
  ·rw [plo i h1] at hp; exact hb.2 i blk base h2 hp
  ·rw [pnew] at hp; cases hp; omega⟩
 have hK : Kept w (w.alloc obj) φ (l9 σ.length φ w.heap.size) σ (σ ++ [.one (.obj p0 cs0)]) (Al Γ.N φ σ) (Al Γ.N (l9 σ.length φ w.heap.size) (σ ++ [.one (.obj p0 cs0)])) :=
  {imm := fun b _ hl => old b hl, all := A1, len := by simp,
   cells := fun i kk es' hi he => by
    rw [b6.get_left hi] at he
    exact ⟨es', he, rfl, plo i hi, fun b base arr ety hp hb => ⟨arr, (old b (Al.own_lt h.st he hp)).trans hb, rfl⟩⟩,
   obj := fun i p' cs' hi he => by
    rw [b6.get_left hi] at he
    exact ⟨plo i hi, p', cs', he⟩ }
 refine ⟨hK, ?_⟩
 exact {
  good := h.good
  st := ⟨fun i b hi => by
    rcases cases2 i b hi with ⟨h1, h2⟩ | ⟨rfl, rfl⟩
    ·rw [plo i h1]
     exact (h.st.blk i b h2).mono hK fun g base hp => old g (Al.own_lt h.st h2 hp)
    ·rw [pnew]
     exact ⟨w.heap.size, obj, us0, rfl, new, hob, fun i x hx => let ⟨u, g1, g2⟩ := hcs i x hx; ⟨u, g1, g2.mono hK⟩⟩,
   fun i j bi bj p q hi hj hp hq he => by
    obtain ⟨pb, po⟩ := p
    obtain ⟨qb, qo⟩ := q
    dsimp only at he
    subst he
    rcases cases2 i bi hi with ⟨h1, h2⟩ | ⟨rfl, rfl⟩ <;> rcases cases2 j bj hj with ⟨g1, g2⟩ | ⟨rfl, rfl⟩
    ·rw [plo i h1] at hp; rw [plo j g1] at hq
     exact h.st.inj i j bi bj _ _ h2 g2 hp hq rfl
    ·rw [plo i h1] at hp; rw [pnew] at hq; cases hq
     have := Al.own_lt h.st h2 hp; omega
    ·rw [plo j g1] at hq; rw [pnew] at hp; cases hp
     have := Al.own_lt h.st g2 hq; omega
    ·rfl⟩
  keep := fun i blk b base hi hp hKb => by
   rcases cases2 i blk hi with ⟨h1, h2⟩ | ⟨rfl, rfl⟩
   ·rw [plo i h1] at hp; exact h.keep i blk b base h2 hp hKb
   ·rw [pnew] at hp; cases hp
    have := hKb.1; have := h.size; omega
  os := h.os
  tape := h.tape
  drawn := h.drawn
  output := h.output
  size := Nat.le_trans h.size (by simp)
  block := fun b hKb => (old b (Nat.lt_of_lt_of_le hKb.1 h.size)).trans (h.block b hKb)
  kept := Kept.trans h.size h.kept hK }
theorem Rs.writeB {Γ : Cx} {σ : b6} {φ : Phi} {w : World} (h : Rs Γ σ φ w) {id : Id} {b : Nat} {q0 q1 : Obj → List Value → Prop} {cs0 cs1 : List C} {us1 : List Value} {o0 o1 : Obj} (hid : σ[id]? = some (some (.obj q0 cs0))) (hp : φ id = some (b, 0)) (hb : w.heap[b]? = some o0) (hq : q1 o1 us1) (hcs : ∀ (i : Nat) (x : C), cs1[i]? = some x → ∃ u, us1[i]? = some u ∧ RelC w φ σ (Al Γ.N φ σ) x u) :
  Kept w ({ w with heap := w.heap.setIfInBounds b o1 } : World) φ φ σ (σ.put id (some (.obj q1 cs1))) (Al Γ.N φ σ) (Al Γ.N φ (σ.put id (some (.obj q1 cs1)))) ∧ Rs Γ (σ.put id (some (.obj q1 cs1))) φ ({ w with heap := w.heap.setIfInBounds b o1 } : World) := by
 have new : ({ w with heap := w.heap.setIfInBounds b o1 } : World).heap[b]? = some o1 := (Go.MapKept.heap_set hb).1
 have old : ∀ g, g ≠ b → ({ w with heap := w.heap.setIfInBounds b o1 } : World).heap[g]? = w.heap[g]? := fun g hg => (Go.MapKept.heap_set hb).2 g hg
 have hsize : ({ w with heap := w.heap.setIfInBounds b o1 } : World).heap.size = w.heap.size := by simp
 have at_ : ∀ (i : Id) x, (σ.put id (some (.obj q1 cs1)))[i]? = some (some x) → (i = id ∧ x = .obj q1 cs1) ∨ (i ≠ id ∧ σ[i]? = some (some x)) := fun i x hi => by
  rcases b6.get_put hid hi with ⟨h1, h2⟩ | h
  ·cases h2; exact .inl ⟨h1, rfl⟩
  ·exact .inr h
 have other : ∀ (i : Id) blk g bs, i ≠ id → σ[i]? = some (some blk) → φ i = some (g, bs) → g ≠ b := fun i blk g bs hne hi hpi e => by
  subst e
  exact hne (h.st.inj i id _ _ _ _ hi hid hpi hp rfl)
 have A1 : ∀ g, Al Γ.N φ σ g → Al Γ.N φ (σ.put id (some (.obj q1 cs1))) g := fun g hg => ⟨hg.1, fun i blk bs hi hpi => by
  rcases at_ i blk hi with ⟨rfl, _⟩ | ⟨_, hi⟩
  ·exact hg.2 i _ bs hid hpi
  ·exact hg.2 i blk bs hi hpi⟩
 have hK : Kept w ({ w with heap := w.heap.setIfInBounds b o1 } : World) φ φ σ (σ.put id (some (.obj q1 cs1))) (Al Γ.N φ σ) (Al Γ.N φ (σ.put id (some (.obj q1 cs1)))) :=
  {imm := fun g hg _ => old g (fun e => by subst e; exact hg.2 id _ 0 hid hp), all := fun g hg _ => A1 g hg, len := by simp,
   cells := fun i kk es2 hi he => by
    rcases at_ i _ he with ⟨rfl, e⟩ | ⟨hne, he⟩
    ·cases e
    ·refine ⟨es2, he, rfl, rfl, fun b2 base2 arr2 ety2 hp2 hb2 => ⟨arr2, ?_, rfl⟩⟩
     exact (old b2 (other i _ b2 base2 hne he hp2)).trans hb2,
   obj := fun i p' cs' hi he => by
    rcases at_ i _ he with ⟨rfl, e⟩ | ⟨_, he⟩
    ·exact ⟨rfl, _, _, hid⟩
    ·exact ⟨rfl, p', cs', he⟩ }
 refine ⟨hK, ?_⟩
 exact {
  good := h.good
  st := ⟨fun i bk hi => by
    rcases at_ i _ hi with ⟨rfl, e⟩ | ⟨hne, hi⟩
    ·cases e
     rw [hp]
     exact ⟨b, o1, us1, rfl, new, hq, fun i x hx => let ⟨u, g1, g2⟩ := hcs i x hx; ⟨u, g1, g2.mono hK⟩⟩
    ·exact (h.st.blk i bk hi).mono hK fun g bs hpi => old g (other i bk g bs hne hi hpi),
   fun i j bi bj p q hi hj hpi hqj he => by
    have alive : ∀ (i : Id) bi, (σ.put id (some (.obj q1 cs1)))[i]? = some (some bi) → ∃ b0, σ[i]? = some (some b0) := fun i bi hi => by
     rcases at_ i _ hi with ⟨rfl, _⟩ | ⟨_, hi⟩
     ·exact ⟨_, hid⟩
     ·exact ⟨_, hi⟩
    obtain ⟨b1, h1⟩ := alive i bi hi
    obtain ⟨b2, h2⟩ := alive j bj hj
    exact h.st.inj i j b1 b2 p q h1 h2 hpi hqj he⟩
  keep := fun i blk g bs hi hpi hKb => by
   rcases at_ i _ hi with ⟨rfl, _⟩ | ⟨_, hi⟩
   ·exact h.keep i _ g bs hid hpi hKb
   ·exact h.keep i blk g bs hi hpi hKb
  os := h.os
  tape := h.tape
  drawn := h.drawn
  output := h.output
  size := by rw [hsize]; exact h.size
  block := fun g hKb => (old g (fun e => by subst e; exact h.keep id _ g 0 hid hp hKb)).trans (h.block g hKb)
  kept := Kept.trans h.size h.kept hK }
/-! ### What the slots hold that rounds read -/
def slotsP : List (Nat × Option Nat) → List Value → Array Value → Prop
 | [], _, _ => True
 | (t, none) :: r, us, a => (∃ u, us.head? = some u ∧ a[t]? = some u) ∧ slotsP r us.tail a
 | (t, some n) :: r, us, a => ((us.take n).length = n ∧ a[t]? = some (.agg (us.take n).toArray)) ∧ slotsP r (us.drop n) a
def slotE : List (Nat × Option Nat) → List C → Env
 | [], _ => []
 | (_, none) :: _, [] => []
 | (t, none) :: r, c :: cs => (t, .c c) :: slotE r cs
 | (t, some n) :: r, cs => match Nat.beq (cs.take n).length n with
  | true => (t, .agg (cs.take n)) :: slotE r (cs.drop n)
  | false => []
def slotC : List (Nat × Option Nat) → Env → Option (List C)
 | [], _ => some []
 | (t, none) :: r, env => match lookup t env, slotC r env with
  | some (.c c), some cs => some (c :: cs)
  | _, _ => none
 | (t, some n) :: r, env => match lookup t env, slotC r env with
  | some (.agg l), some cs => match Nat.beq l.length n with
   | true => some (l ++ cs)
   | false => none
  | _, _ => none
section
variable {w : World} {φ : Phi} {σ : b6} {A : Nat → Prop}
theorem slot_env : ∀ (sh : List (Nat × Option Nat)) {us : List Value} {a : Array Value} {cs : List C}, slotsP sh us a → (∀ (i : Nat) (x : C), cs[i]? = some x → ∃ u, us[i]? = some u ∧ RelC w φ σ A x u) →
  ∀ (t : Nat) (v : T), lookup t (slotE sh cs) = some v → ∃ u, a[t]? = some u ∧ RelT w φ σ A v u
 | [], us, a, cs, _, _, t, v, h => by simp [slotE, lookup] at h
 | (s, none) :: r, us, a, [], _, _, t, v, h => by simp [slotE, lookup] at h
 | (s, none) :: r, us, a, c :: cs, hs, hr, t, v, h => by
  simp only [slotE, lookup] at h
  obtain ⟨⟨u, hu, ha⟩, hs⟩ := hs
  obtain ⟨u0, hu0, hr0⟩ := hr 0 c rfl
  rw [List.head?_eq_getElem?] at hu
  rw [hu] at hu0; cases hu0
  split at h
  ·rename_i e
   cases h
   have := Nat.eq_of_beq_eq_true e
   subst this
   exact ⟨u, ha, .c hr0⟩
  ·exact slot_env r hs (fun i x hx => by
    obtain ⟨u, g1, g2⟩ := hr (i + 1) x hx
    exact ⟨u, by rw [← g1]; cases us <;> simp, g2⟩) t v h
 | (s, some n) :: r, us, a, cs, hs, hr, t, v, h => by
  simp only [slotE] at h
  obtain ⟨⟨hl, ha⟩, hs⟩ := hs
  cases hb : Nat.beq (cs.take n).length n with
  | false => rw [hb] at h; simp [lookup] at h
  | true =>
   rw [hb] at h
   have hlen := Nat.eq_of_beq_eq_true hb
   simp only [lookup] at h
   split at h
   ·rename_i e
    cases h
    have := Nat.eq_of_beq_eq_true e
    subst this
    refine ⟨_, ha, RelT.agg' (by rw [hl, hlen]) fun i c v hc hv => ?_⟩
    rw [List.getElem?_take] at hc hv
    split at hc
    ·rename_i hi
     rw [if_pos hi] at hv
     obtain ⟨u, g1, g2⟩ := hr i c hc
     rw [hv] at g1; cases g1; exact g2
    ·cases hc
   ·exact slot_env r hs (fun i x hx => by
     rw [List.getElem?_drop] at hx
     obtain ⟨u, g1, g2⟩ := hr _ x hx
     exact ⟨u, by rw [List.getElem?_drop]; exact g1, g2⟩) t v h
theorem slot_mk : ∀ (sh : List (Nat × Option Nat)) {env : Env} {a : Array Value} {cs : List C}, (∀ t v, lookup t env = some v → ∃ u, a[t]? = some u ∧ RelT w φ σ A v u) → slotC sh env = some cs →
  ∃ us, slotsP sh us a ∧ us.length = cs.length ∧ ∀ (i : Nat) (x : C), cs[i]? = some x → ∃ u, us[i]? = some u ∧ RelC w φ σ A x u
 | [], env, a, cs, _, h => by cases h; exact ⟨[], trivial, rfl, fun i x hx => by simp at hx⟩
 | (s, none) :: r, env, a, cs, he, h => by
  simp only [slotC] at h
  split at h <;> cases h
  rename_i c cs' h1 h2
  obtain ⟨us, g1, g0, g2⟩ := slot_mk r he h2
  obtain ⟨u, k1, k2⟩ := he s _ h1
  cases k2 with | c k2 =>
  refine ⟨u :: us, ⟨⟨u, rfl, k1⟩, g1⟩, by simp [g0], fun i x hx => ?_⟩
  match i with
  | 0 => cases hx; exact ⟨u, rfl, k2⟩
  | i + 1 => exact g2 i x hx
 | (s, some n) :: r, env, a, cs, he, h => by
  simp only [slotC] at h
  split at h
  ·rename_i l cs' h1 h2
   split at h <;> cases h
   rename_i hb
   have hn := Nat.eq_of_beq_eq_true hb
   obtain ⟨us, g1, g0, g2⟩ := slot_mk r he h2
   obtain ⟨u, k1, k2⟩ := he s _ h1
   obtain ⟨vs, rfl, k3, k4⟩ := RelT.agg_inv k2
   have hvn : vs.length = n := by omega
   refine ⟨vs ++ us, ⟨⟨by rw [List.take_left' hvn]; exact hvn, by rw [List.take_left' hvn]; exact k1⟩, by rw [List.drop_left' hvn]; exact g1⟩, by simp [g0, k3], fun i x hx => ?_⟩
   rw [List.getElem?_append] at hx ⊢
   rw [k3]
   split at hx
   ·rename_i hi; rw [if_pos hi]; exact k4 i x hx
   ·rename_i hi; rw [if_neg hi]; exact g2 _ x hx
  ·cases h
end
def loopP (szc : Nat) (ps : List Nat) (asg body : Code) (st : LoopState) (pend : Option Code) (sh : List (Nat × Option Nat)) : Obj → List Value → Prop := fun o us =>
 ∃ r : Go.Loop, o = .loop r ∧ r.state = st ∧ r.pending = pend ∧ r.params = ps.toArray ∧ r.assign = asg ∧ r.body = body ∧ r.tmps.size = szc ∧ slotsP sh us r.tmps
abbrev j6 (szc : Nat) (ps : List Nat) (asg body : Code) (st : LoopState) (pend : Option Code) (sh : List (Nat × Option Nat)) (cs : List C) : Blk := .obj (loopP szc ps asg body st pend sh) cs
def zipE : List Nat → List T → Env → Env
 | p :: ps, t :: ts, E => zipE ps ts ((p, t) :: E)
 | _, _, E => E
theorem zip_env {w : World} {φ : Phi} {σ : b6} {A : Nat → Prop} {szc : Nat} : ∀ (ps : List Nat) (ts : List T) (us : List Value) (E : Env) (a : Array Value), a.size = szc → ts.length = us.length → (∀ p ∈ ps, p < szc) →
  (∀ (i : Nat) (t : T) (u : Value), ts[i]? = some t → us[i]? = some u → RelT w φ σ A t u) → (∀ t v, lookup t E = some v → ∃ u, a[t]? = some u ∧ RelT w φ σ A v u) →
  ((ps.zip us).foldl (fun tmps (t, a) => tmps.setIfInBounds t a) a).size = szc ∧
  ∀ t v, lookup t (zipE ps ts E) = some v → ∃ u, ((ps.zip us).foldl (fun tmps (t, a) => tmps.setIfInBounds t a) a)[t]? = some u ∧ RelT w φ σ A v u
 | [], ts, us, E, a, hz, _, _, _, he => ⟨by simpa using hz, fun t v h => by simpa using he t v (by cases ts <;> exact h)⟩
 | p :: ps, [], us, E, a, hz, hl, _, _, he => by
  cases us with
  | nil => exact ⟨by simpa using hz, fun t v h => by simpa using he t v h⟩
  | cons u us => simp at hl
 | p :: ps, t :: ts, us, E, a, hz, hl, hp, hr, he => by
  cases us with
  | nil => simp at hl
  | cons u us =>
   simp only [List.zip_cons_cons, List.foldl_cons, zipE]
   refine zip_env ps ts us _ _ (by simpa using hz) (by simpa using hl) (fun q hq => hp q (List.mem_cons_of_mem _ hq)) (fun i t u h1 h2 => hr (i + 1) t u h1 h2) (fun s v h => ?_)
   simp only [lookup] at h
   split at h
   ·rename_i e
    cases h
    have := Nat.eq_of_beq_eq_true e
    subst this
    have hlt : p < a.size := by rw [hz]; exact hp p (by simp)
    exact ⟨u, by simp [hlt], hr 0 _ u rfl rfl⟩
   ·rename_i e
    obtain ⟨y, hy, hr'⟩ := he s v h
    have hne : p ≠ s := fun e' => by subst e'; simp at e
    exact ⟨y, by simp [hne, hy], hr'⟩
theorem b6.put2 (σ : b6) (n : Nat) (b b' : Option Blk) : (σ.put (n, []) b).put (n, []) b' = σ.put (n, []) b' := by
 have : ∀ e : Ent, (e.put [] b).put [] b' = e.put [] b' := fun e => by cases e <;> cases b <;> rfl
 apply List.ext_getElem?
 intro i
 simp only [b6.put, List.getElem?_modify]
 cases hs : σ[i]? with
 | none => simp
 | some e => by_cases hi : n = i <;> simp [hi, this]
theorem Rs.allocU {Γ : Cx} {σ : b6} {φ : Phi} {w : World} (h : Rs Γ σ φ w) (obj : Obj) : Kept w (w.alloc obj) φ φ σ σ (Al Γ.N φ σ) (Al Γ.N φ σ) ∧ Rs Γ σ φ (w.alloc obj) := by
  have old : ∀ b, b < w.heap.size → (w.alloc obj).heap[b]? = w.heap[b]? := fun b hb => by first | exact heap_alloc_old w _ hb | exact heap_alloc_old w _ _ hb
  have hK : Kept w (w.alloc obj) φ φ σ σ (Al Γ.N φ σ) (Al Γ.N φ σ) :=
    { imm := fun b _ hl => old b hl, all := fun b hb _ => hb, len := Nat.le_refl _,
      cells := fun i kk es' hi he => ⟨es', he, rfl, rfl, fun b base arr ety hp hb => ⟨arr, (old b (Al.own_lt h.st he hp)).trans hb, rfl⟩⟩,
      obj := fun i p' cs' hi he => ⟨rfl, p', cs', he⟩ }
  refine ⟨hK, ?_⟩
  exact { good := h.good, st := ⟨fun i b hi => (h.st.blk i b hi).mono hK fun g base hp => old g (Al.own_lt h.st hi hp), h.st.inj⟩,
          keep := h.keep, os := h.os, tape := h.tape, drawn := h.drawn, output := h.output, size := Nat.le_trans h.size (by simp),
          block := fun b hKb => (old b (Nat.lt_of_lt_of_le hKb.1 h.size)).trans (h.block b hKb), kept := Kept.trans h.size h.kept hK }
section
variable {P : Program} {σ0 : b6} {sz : Nat} {Q : Post} {env env' : Env} {σv σ' σb : b6} {ops : Array Oper} {rest : List Oper} {dst : Option Nat} {ty : TypeId} {pos : String} {after : Array Edge}
variable {szc : Nat} {ps : List Nat} {asg body : Code} {sh : List (Nat × Option Nat)} {cs : List C}
theorem yld_inv {w : World} {φ : Phi} {σ : b6} {A : Nat → Prop} {id : Id} {p : Obj → List Value → Prop} {u : Value} (h : RelT w φ σ A (.c (.yld id)) u) (hσ : σ[id]? = some (some (.obj p cs))) : ∃ b base, φ id = some (b, base) ∧ u = .func (.yield b) #[] #[] := by
 cases h with | c h => cases h with | yld hid h1 h => exact h _ _ hσ
def yPost (P : Program) (σ0 : b6) (sz : Nat) (Q : Post) (ops : Array Oper) (rest : List Oper) (env : Env) (dst : Option Nat) (id : Id) (szc : Nat) (ps : List Nat) (asg body : Code) (sh : List (Nat × Option Nat)) : Post := fun e s' =>
 ∃ cs', s'.σ[id]? = some (some (j6 szc ps asg body .busy none sh cs')) ∧ match e with
 | .normal => AOps P σ0 sz ops Q rest ⟨putE env dst (.c (bool true)), s'.σ.put id (some (j6 szc ps asg body .ready none sh cs'))⟩
 | .ret => AOps P σ0 sz ops Q rest ⟨putE env dst (.c (bool false)), s'.σ.put id (some (j6 szc ps asg body .done (some .ret) sh cs'))⟩
 | .exit i => AOps P σ0 sz ops Q rest ⟨putE env dst (.c (bool false)), s'.σ.put id (some (j6 szc ps asg body .done (some (.exit i)) sh cs'))⟩
 | _ => False
theorem AOps.yield {x : Operand} {as' : List Operand} {ats : Array TypeId} {id : Id} {ts : List T} {E1 : Env} {σ1 : b6} (hx : ev env x = some (.c (.yld id))) (ha : evs env as' = some ts) (hσ : σv[id]? = some (some (j6 szc ps asg body .ready none sh cs)))
  (hl : Nat.beq ts.length ps.length = true) (hps : ps.all (fun p => Nat.blt p szc) = true) (hna : G4 asg = false) (hnr : G4 body = false) (hd : e6 sz dst = true) (hσ1 : σ1[id]? = some (some (j6 szc ps asg body .ready none sh cs))) (hσb : σ1.put id (some (j6 szc ps asg body .busy none sh cs)) = σb)
  (hass : AWP P σv szc asg (fun e s' => e = .normal ∧ s' = St.mk E1 σ1) ⟨zipE ps ts (slotE sh cs), σv⟩)
  (h : AWP P σv szc body (yPost P σ0 sz Q ops rest env dst id szc ps asg body sh) ⟨E1, σb⟩) :
  AOps P σ0 sz ops Q (⟨dst, .call ⟨.value x, as'.toArray, ats⟩, ty, pos, after, none⟩ :: rest) (St.mk env σv) := fun Γ φ a w hΓ hR ro => by
 subst hσb
 obtain ⟨b, base, hp, hv⟩ := yld_inv (f9 hR hx) hσ
 obtain ⟨b', o, us, g1, g2, ⟨r, rfl, r1, r2, r3, r4, r5, r6, r7⟩, g3⟩ := hR.st.blk _ _ hσ
 rw [hp] at g1; cases g1
 obtain ⟨k1, k2⟩ := evs_rel hR ha
 have hlen : ts.length = ps.length := Nat.eq_of_beq_eq_true hl
 have hrun : (execOp a.eval ⟨dst, .call ⟨.value x, as'.toArray, ats⟩, ty, pos, after, none⟩).run P w = .ok (.round b r.fn ((ps.zip (as'.map a.eval)).foldl (fun tmps (t, a) => tmps.setIfInBounds t a) r.tmps) asg body) w := by
  have := run_yield (P := P) (args := (as'.map a.eval).toArray) g2 (by rw [r3]; simp; omega)
  rw [r3, r4, r5] at this
  simp only [List.zip_toArray, List.foldl_toArray] at this
  simp [execOp, resolve, hv, Deferred.ofValue, invoke, this]
 refine X7 rfl ⟨fun _ _ => trivial, ?_⟩
 rw [sem_ro hrun (fun d => nofun), Oper.uponIn_round]
 have hz := zip_env (w := w) (φ := φ) (σ := σv) (A := Al Γ.N φ σv) (szc := szc) ps ts (as'.map a.eval) (slotE sh cs) r.tmps r6 (by simp [k1]) (fun p hp => by
   have := List.all_eq_true.1 hps p hp
   simpa using this) k2 (slot_env sh r7 g3)
 have hR1 : R ⟨w, Γ.N, φ, σv⟩ szc ⟨zipE ps ts (slotE sh cs), σv⟩ φ { tmps := (ps.zip (as'.map a.eval)).foldl (fun tmps (t, a) => tmps.setIfInBounds t a) r.tmps, defers := [] } w :=
  {toRs := hR.toRs.down.rs, defers := .nil, asize := hz.1, env := hz.2 }
 have hid : id.1 < σv.length := b6.lt_of hσ
 refine ⟨fun h => by simp at h, roundIn_of_wpIn (F := fw ro) trivial (wpIn_mono (hass _ φ _ _ rfl hR1 (some b) (fun e => by rw [hna] at e; cases e)) ?_)⟩
 rintro e a1 w1 ⟨s1, φ1, ⟨rfl, rfl⟩, hR1⟩
 have hφ1 : φ1 id = some (b, 0) := ((hR1.toRs.kept.obj id _ _ hid hσ1).1).trans hp
 obtain ⟨b', o, us, q1, q2, ⟨r', rfl, r1, r2, r3, r4, r5, r6, r7⟩, q3⟩ := hR1.st.blk _ _ hσ1
 rw [hφ1] at q1; cases q1
 have hW := Rs.writeB (q1 := loopP szc ps asg body .busy none sh) (cs1 := cs) (o1 := .loop { r' with state := .busy }) hR1.toRs hσ1 hφ1 q2 ⟨{ r' with state := .busy }, rfl, rfl, r2, r3, r4, r5, r6, r7⟩ q3
 refine ⟨_, run_beginRound (P := P) q2 r1, ?_⟩
 refine wpIn_mono (h _ φ1 _ _ rfl (hR1.of hW.1 hW.2) (some b) (fun e => by rw [hnr] at e; cases e)) ?_
 rintro e a' w' ⟨s', φ', ⟨cs', hσ', hm⟩, hR'⟩
 have hφ : φ' id = some (b, 0) := ((hR'.toRs.kept.obj id _ _ hid hσ').1).trans hp
 obtain ⟨b', o, us', q1, q2, ⟨r'', rfl, p1, p2, p3, p4, p5, p6, p7⟩, q3⟩ := hR'.st.blk _ _ hσ'
 rw [hφ] at q1; cases q1
 have fin : ∀ (jump : Option Code) (st : LoopState), st = (if jump.isNone then .ready else .done) → AOps P σ0 sz ops Q rest ⟨putE env dst (.c (bool jump.isNone)), s'.σ.put id (some (j6 szc ps asg body st jump sh cs'))⟩ →
   ∃ v w'', (Instr.endRound b jump).run P w' = .ok v w'' ∧ wpListIn (fw ro) 0 P ops (lift Γ sz Q) rest (a.put dst v) w'' := fun jump st hst hA => by
  subst hst
  have hE := Rs.writeB (q1 := loopP szc ps asg body (if jump.isNone then .ready else .done) jump sh) (cs1 := cs') (o1 := .loop { r'' with state := if jump.isNone then .ready else .done, pending := jump }) hR'.toRs hσ' hφ q2 ⟨_, rfl, rfl, rfl, p3, p4, p5, p6, p7⟩ q3
  refine ⟨_, _, run_endRound jump q2, ?_⟩
  exact hA Γ φ' _ _ hΓ ((hR.of hE.2.kept (hR.toRs.up hE.2)).put hd (.bool _)) ro
 cases e with
 | normal => exact fin none .ready rfl hm
 | ret => exact fin (some .ret) .done rfl hm
 | exit i => exact fin (some (.exit i)) .done rfl hm
 | goto t => exact hm.elim
 | panic c => exact hm.elim
 | outgrown => exact hm.elim
theorem N1 {id : Id} {env2 : Env} {σ2 σ3 : b6} (hσ : σ2[id]? = some (some (j6 szc ps asg body .busy none sh cs))) (h3 : σ2.put id (some (j6 szc ps asg body .ready none sh cs)) = σ3)
  (h : AOps P σ0 sz ops Q rest (St.mk (putE env dst (.c (bool true))) σ3)) : yPost P σ0 sz Q ops rest env dst id szc ps asg body sh .normal (St.mk env2 σ2) := ⟨cs, hσ, by subst h3; exact h⟩
theorem yPost_ret {id : Id} {env2 : Env} {σ2 σ3 : b6} (hσ : σ2[id]? = some (some (j6 szc ps asg body .busy none sh cs))) (h3 : σ2.put id (some (j6 szc ps asg body .done (some .ret) sh cs)) = σ3)
  (h : AOps P σ0 sz ops Q rest (St.mk (putE env dst (.c (bool false))) σ3)) : yPost P σ0 sz Q ops rest env dst id szc ps asg body sh .ret (St.mk env2 σ2) := ⟨cs, hσ, by subst h3; exact h⟩
def rPost (P : Program) (σ0 : b6) (sz : Nat) (Q : Post) (env : Env) (n : Nat) (ps : List Nat) (asg body : Code) (sh : List (Nat × Option Nat)) (σ' : b6) : Prop :=
 ∃ st pend cs', st ≠ .busy ∧ σ'[((n, []) : Id)]? = some (some (j6 sz ps asg body st pend sh cs')) ∧ match pend with
 | none => Q .normal ⟨env, σ'.put (n, []) none⟩
 | some c => AWP P σ0 sz c Q ⟨env, σ'.put (n, []) none⟩
theorem aa3 {n : Nat} {σ2 σ3 : b6} (hσ : σ2[((n, []) : Id)]? = some (some (j6 sz ps asg body .ready none sh cs))) (h3 : σ2.put (n, []) none = σ3) (h : Q .normal (St.mk env σ3)) : rPost P σ0 sz Q env n ps asg body sh σ2 :=
 ⟨.ready, none, cs, nofun, hσ, by subst h3; exact h⟩
theorem rPost_jump {n : Nat} {c : Code} {σ2 σ3 : b6} (hσ : σ2[((n, []) : Id)]? = some (some (j6 sz ps asg body .done (some c) sh cs))) (h3 : σ2.put (n, []) none = σ3) (h : AWP P σ0 sz c Q (St.mk env σ3)) : rPost P σ0 sz Q env n ps asg body sh σ2 :=
 ⟨.done, some c, cs, nofun, hσ, by subst h3; exact h⟩
theorem AWP.rangeFunc {g : Operand} {f : FuncId} {caps : List C} {n : Nat} {Qit : T → b6 → Prop} (sh : List (Nat × Option Nat)) (hg : ev env g = some (.c (.fn f caps))) (hs : slotC sh env = some cs) (hn : newF σv = some (n, [])) (hσ : o6 σv (.one (j6 sz ps asg body .ready none sh cs)) = some σ')
  (hf : FnOk P f (.c (.yld (n, [])) :: caps.map T.c) σ' Qit) (hq : ∀ r σ'', Qit r σ'' → rPost P σ0 sz Q env n ps asg body sh σ'') : AWP P σ0 sz (.rangeFunc g ps.toArray asg body) Q (St.mk env σv) := fun Γ φ a w hΓ hR ro hro => by
 have hro := hro rfl
 subst hro
 have h2 := v8 hn; have h3 := n5 hσ
 cases h2
 subst h3
 obtain ⟨fn, f1, f2, f3⟩ := hf.fn
 obtain ⟨cv, g1, g2, g3⟩ := fn_inv (f9 hR hg)
 obtain ⟨us, s1, _, s2⟩ := slot_mk sh hR.env hs
 refine wpIn_rangeFunc fun fid _ => ?_
 have hU := Rs.allocU hR.toRs (.deferred (some []))
 have hA := Rs.allocB (p0 := loopP sz ps asg body .ready none sh) (cs0 := cs) (us0 := us) (obj := .loop { state := .ready, pending := none, fn := fid, tmps := a.tmps, params := ps.toArray, assign := asg, body, defers := w.heap.size }) hU.2
  ⟨_, rfl, rfl, rfl, rfl, rfl, rfl, hR.asize, s1⟩ (fun i x hx => let ⟨u, q1, q2⟩ := s2 i x hx; ⟨u, q1, q2.mono hU.1⟩)
 have hw : (w.alloc (.deferred (some []))).heap.size = w.heap.size + 1 := by simp
 have hK := Kept.trans (by simp) hU.1 hA.1
 generalize hW : (w.alloc (.deferred (some []))).alloc (.loop { state := .ready, pending := none, fn := fid, tmps := a.tmps, params := ps.toArray, assign := asg, body, defers := w.heap.size }) = W at hA hK
 refine ⟨w.heap.size + 1, [{ target := .collected w.heap.size, args := #[] }], W, { target := .fn (.func f) cv.toArray, args := #[.func (.yield (w.heap.size + 1)) #[] #[]] }, W, f, (Value.func (.yield (w.heap.size + 1)) #[] #[] :: cv).toArray, W, ?_, ?_, fun _ _ => trivial, ?_, fun h => by simp at h, ?_⟩
 ·rw [← hW]; exact run_enterLoop_outer fid a.tmps ps.toArray asg body
 ·have e2 : a.eval (.const (.func (.yield (w.heap.size + 1)) #[] #[])) = .func (.yield (w.heap.size + 1)) #[] #[] := rfl
  simp [resolve, rangeCall, g1, e2, Deferred.ofValue]
 ·have f2' : ¬ fn.name = "runtime.NumGoroutine" := by simpa using f2
  have f3' : ¬ fn.body = none := fun e => by rw [e] at f3; cases f3
  simp [invoke, callFunc, f1, f2', f3']
 refine (callsIn_wide (n := 0 - 1)).2 ?_
 refine (hf.run ⟨_, Γ.N, _, _⟩ (Value.func (.yield (w.heap.size + 1)) #[] #[] :: cv) rfl hA.2.down (by simp [g2]) (fun i t u hi hu => ?_)).mono ?_
 ·match i with
  | 0 =>
   cases hi; cases hu
   exact .c (.yld (by simp) rfl fun p cs hp => ⟨_, 0, by simp [l9, hw], rfl⟩)
  | i + 1 =>
   simp only [List.getElem?_cons_succ, List.getElem?_map, Option.map_eq_some_iff] at hi hu
   obtain ⟨c, hc, rfl⟩ := hi
   exact .c ((g3 i c u hc hu).mono hK)
 ·rintro e w' ⟨v, r, σ2, φ', rfl, hQ, hr, hs'⟩
  obtain ⟨st, pend, cs', hb, hσ2, hm⟩ := hq r σ2 hQ
  have hφ : φ' (σv.length, []) = some (w.heap.size + 1, 0) := by
   rw [(hs'.kept.obj (σv.length, []) _ _ (by simp) hσ2).1]; simp [l9, hw]
  obtain ⟨b', o, us', q1, q2, ⟨r', rfl, p1, p2, p3, p4, p5, p6, p7⟩, q3⟩ := hs'.st.blk _ _ hσ2
  rw [hφ] at q1; cases q1
  have hE := Rs.writeB (q1 := fun _ _ => True) (cs1 := []) (us1 := []) (o1 := .loop { r' with state := .exhausted }) hs' hσ2 hφ q2 trivial (fun i x hx => by simp at hx)
  have hX := Rs.kill hE.2 (σv.length, [])
  rw [b6.put2] at hX
  have hDK := hK.trans (by rw [← hW]; simp; omega) (hX.2.kept)
  have hmark : Marks Γ φ' (σ2.put (σv.length, []) none) (w'.putObj (w.heap.size + 1) (.loop { r' with state := .exhausted })) ([{ target := .collected w.heap.size, args := #[] }] ++ a.defers) := by
   have m0 : Marks Γ φ σv (w.alloc (.deferred (some []))) ([{ target := .collected w.heap.size, args := #[] }] ++ a.defers) := by
    have m1 := hR.defers.kept hU.1
    refine ⟨List.nodup_cons.2 ⟨fun hin => ?_, m1.1⟩, fun d hd => ?_⟩
    ·obtain ⟨D, e, q, _⟩ := hR.defers.2 _ hin
     have : D = w.heap.size := by cases e; rfl
     rw [this] at q
     have := (Array.getElem?_eq_some_iff.1 q).1
     omega
    ·rcases List.mem_cons.1 hd with rfl | hd
     ·refine ⟨w.heap.size, rfl, heap_alloc_new w _, hR.size, fun hN => ?_, fun i blk base hi hp => ?_⟩
      ·have := hR.good.lt _ hN
       have := hR.size
       omega
      ·have := Al.own_lt hR.st hi hp
       omega
     ·exact m1.2 d hd
   exact (m0.kept hA.1).kept hX.2.kept
  have hRf : R Γ sz ⟨env, σ2.put (σv.length, []) none⟩ φ' { a with defers := [{ target := .collected w.heap.size, args := #[] }] ++ a.defers } (w'.putObj (w.heap.size + 1) (.loop { r' with state := .exhausted })) :=
   {toRs := hA.2.up hX.2, defers := hmark, asize := hR.asize, env := fun t v ht => let ⟨u, hu, hr⟩ := hR.env t v ht; ⟨u, hu, hr.mono hDK⟩ }
  refine ⟨r'.pending, _, run_endLoop q2 (by rw [p1]; exact hb), ?_⟩
  subst p2
  revert hm
  generalize r'.pending = pend at *
  intro hm
  cases pend with
  | none => exact ⟨_, φ', hm, hRf⟩
  | some c => exact hm Γ φ' _ _ hΓ hRf none (fun _ => rfl)
theorem AWP.rangeB {g : Operand} {f : FuncId} {caps : List C} {n : Nat} (sh : List (Nat × Option Nat)) (hg : ev env g = some (.c (.fn f caps))) (hs : slotC sh env = some cs) (hn : newF σv = some (n, []))
  (h : ∀ A B : Code, A = asg → B = body → ∃ (σ' : b6) (Qit : T → b6 → Prop), o6 σv (.one (j6 sz ps A B .ready none sh cs)) = some σ' ∧ FnOk P f (.c (.yld (n, [])) :: caps.map T.c) σ' Qit ∧ ∀ r σ'', Qit r σ'' → rPost P σ0 sz Q env n ps A B sh σ'') :
  AWP P σ0 sz (.rangeFunc g ps.toArray asg body) Q (St.mk env σv) := by
 obtain ⟨σ', Qit, h1, h2, h3⟩ := h asg body rfl rfl
 exact AWP.rangeFunc sh hg hs hn h1 h2 h3
theorem AOps.yieldB {A B : Code} {x : Operand} {as' : List Operand} {ats : Array TypeId} {id : Id} {ts : List T} {E1 : Env} {σ1 : b6} (hA : A = asg) (hB : B = body) (hx : ev env x = some (.c (.yld id))) (ha : evs env as' = some ts) (hσ : σv[id]? = some (some (j6 szc ps A B .ready none sh cs)))
  (hl : Nat.beq ts.length ps.length = true) (hps : ps.all (fun p => Nat.blt p szc) = true) (hna : G4 asg = false) (hnr : G4 body = false) (hd : e6 sz dst = true) (hσ1 : σ1[id]? = some (some (j6 szc ps A B .ready none sh cs))) (hσb : σ1.put id (some (j6 szc ps A B .busy none sh cs)) = σb)
  (hass : AWP P σv szc asg (fun e s' => e = .normal ∧ s' = St.mk E1 σ1) ⟨zipE ps ts (slotE sh cs), σv⟩)
  (h : AWP P σv szc body (yPost P σ0 sz Q ops rest env dst id szc ps A B sh) ⟨E1, σb⟩) :
  AOps P σ0 sz ops Q (⟨dst, .call ⟨.value x, as'.toArray, ats⟩, ty, pos, after, none⟩ :: rest) (St.mk env σv) := by
 subst hA hB
 exact AOps.yield hx ha hσ hl hps hna hnr hd hσ1 hσb hass h
end
end Ab
end
section
namespace Ab
open Go
def mvr (r n : Nat) (i : Id) : Id := ((match Nat.beq i.1 r with | true => n | false => i.1), i.2)
theorem al6 {r n : Nat} {i : Id} (h : i.1 = r) : mvr r n i = (n, i.2) := by
 have : Nat.beq i.1 r = true := by rw [h]; exact Nat.beq_refl r
 simp only [mvr, this]
theorem mvr_ne {r n : Nat} {i : Id} (h : i.1 ≠ r) : mvr r n i = i := by
 have : Nat.beq i.1 r = false := K0 h
 simp only [mvr, this]
section
variable {P : Program} {σ0 : b6} {sz : Nat} {Q : Post} {env env' : Env} {σv σ' : b6} {ops : Array Oper} {rest : List Oper} {dst : Option Nat} {ty : TypeId} {pos : String} {after : Array Edge}
inductive EntR (r n : Nat) (σ : b6) (m i : Nat) : Ent → Prop
 | dead : EntR r n σ m i .dead
 | one {b : Blk} (h1 : b.ok m = true) (h2 : σ[mvr r n (i, [])]? = some (some (b.ren (mvr r n)))) : EntR r n σ m i (.one b)
 | vec {α : Type} {k : Nat} {f : α → List I} {l : List α} (h2 : σ[mvr r n (i, [])]? = some (some (vec k f l))) : EntR r n σ m i (.one (vec k f l))
 | mat {α : Type} {k j : Nat} {f : α → List I} {M : List (List α)} (hj : (mvr r n (i, [])).1 = j) (hi : Nat.blt i m = true) (h : σ[j]? = some (mat (j, []) k f M)) : EntR r n σ m i (mat (i, []) k f M)
 | any {e : Ent} (h : ∀ p b, e.sub p = some b → b.ok m = true ∧ σ[mvr r n (i, p)]? = some (some (b.ren (mvr r n)))) : EntR r n σ m i e
def StR_ (r n : Nat) (σ : b6) (m : Nat) : Nat → b6 → Prop
 | _, [] => True
 | i, e :: l => EntR r n σ m i e ∧ StR_ r n σ m (i + 1) l
theorem EntR.get {r n : Nat} {σ : b6} {m i : Nat} {e : Ent} (h : EntR r n σ m i e) {p : List Nat} {b : Blk} (hb : e.sub p = some b) : b.ok m = true ∧ σ[mvr r n (i, p)]? = some (some (b.ren (mvr r n))) := by
 cases h with
 | dead => cases p <;> cases hb
 | one h1 h2 => cases p with
  | nil => cases hb; exact ⟨h1, h2⟩
  | cons => cases hb
 | vec h2 => cases p with
  | nil => cases hb; exact ⟨D8, by rw [Blk.im_ren]; exact h2⟩
  | cons => cases hb
 | @mat α k j f M hj hi h =>
  have hi' : i < m := by simpa using hi
  have e : ∀ q, mvr r n (i, q) = (j, q) := fun q => by rw [← hj]; rfl
  rw [e, m8 h]
  cases p with
  | nil =>
   cases hb
   refine ⟨ac9 hi' _, ?_⟩
   rw [mat_main]
   congr 2
   simp only [Blk.ren]
   congr 1
   apply List.ext_getElem?
   intro q
   rw [List.getElem?_map]
   simp only [hdr, List.getElem?_mapIdx, Option.map_map]
   cases M[q]? with
   | none => rfl
   | some row => simp [C.renL, C.ren, e]
  | cons a q =>
   rw [P0] at hb ⊢
   split at hb
   ·rename_i row hrow
    cases q with
    | cons b q => cases hb
    | nil => cases hb; exact ⟨D8, by rw [Blk.im_ren]⟩
   ·cases hb
 | any h => exact h p b hb
theorem StR_.get {r n m : Nat} {σ : b6} : ∀ {i : Nat} {σ' : b6}, StR_ r n σ m i σ' → ∀ (j : Nat) (p : List Nat) (b : Blk), σ'[((j, p) : Id)]? = some (some b) → b.ok m = true ∧ σ[mvr r n (i + j, p)]? = some (some (b.ren (mvr r n)))
 | _, [], _, j, p, b, h => by simp at h
 | i, e :: l, h, 0, p, b, hb => by
  rw [b6.at_eq] at hb
  simp only [b6.at, List.getElem?_cons_zero, Option.some.injEq] at hb
  exact h.1.get hb
 | i, e :: l, h, j + 1, p, b, hb => by
  have := StR_.get (i := i + 1) h.2 j p b (by
   rw [b6.at_eq] at hb ⊢
   simpa [b6.at] using hb)
  rwa [show i + 1 + j = i + (j + 1) by omega] at this
def EnvR (r n : Nat) (env : Env) : Env → Prop
 | [] => True
 | (t, v) :: l => lookup t env = some (v.ren (mvr r n)) ∧ EnvR r n env l
theorem EnvR.get {r n : Nat} : ∀ {env' : Env}, EnvR r n env env' → ∀ t v, lookup t env' = some v → lookup t env = some (v.ren (mvr r n))
 | [], _, t, v, h => by simp [lookup] at h
 | (k, x) :: l, ⟨h1, h2⟩, t, v, h => by
  simp only [lookup] at h
  split at h
  ·rename_i he; cases h; rw [← Nat.eq_of_beq_eq_true he]; exact h1
  ·exact EnvR.get h2 t v h
def deadR (σ : b6) (n : Nat) : Bool := match σ[n]? with
 | some .dead => true
 | some _ => false
 | none => true
theorem Sub.moveM (r n : Nat) (h0 : Nat.ble σ0.length r = true) (hl : Nat.ble σ0.length σ'.length = true) (hn : deadR σ' n = true) (henv : EnvR r n env env') (he : V4 σ'.length env' = true) (hst : StR_ r n σv σ'.length 0 σ') : Sub σ0 ⟨env, σv⟩ ⟨env', σ'⟩ := by
 have h0' := Nat.le_of_ble_eq_true h0
 have hd : ∀ (p : List Nat) b, σ'[((n, p) : Id)]? ≠ some (some b) := fun p b hb => by
  rw [b6.at_eq] at hb
  simp only [b6.at] at hb
  simp only [deadR] at hn
  split at hb
  ·rename_i e hx
   rw [hx] at hn
   cases e with
   | dead => cases p <;> cases hb
   | one => cases hn
   | node => cases hn
  ·cases hb
 refine Sub.mk (mvr r n) (fun i hi => mvr_ne (fun e => by omega)) (Nat.le_of_ble_eq_true hl) (fun i j b b' hi hj h => ?_) (fun i b hi => ?_) (fun t v ht => ⟨ac2 he t v ht, henv.get t v ht⟩)
 ·by_cases h1 : i.1 = r <;> by_cases h2 : j.1 = r
  ·rw [al6 h1, al6 h2] at h
   exact Prod.ext (h1.trans h2.symm) (Prod.mk.inj h).2
  ·rw [al6 h1, mvr_ne h2] at h
   subst h; exact absurd hj (hd _ _)
  ·rw [al6 h2, mvr_ne h1] at h
   subst h; exact absurd hi (hd _ _)
  ·rwa [mvr_ne h1, mvr_ne h2] at h
 ·have := hst.get i.1 i.2 b hi
  rwa [Nat.zero_add] at this
theorem AWP.moveM {c : Code} (r n : Nat) (h0 : Nat.ble σ0.length r = true) (hl : Nat.ble σ0.length σ'.length = true) (hn : deadR σ' n = true) (henv : EnvR r n env env') (he : V4 σ'.length env' = true) (hst : StR_ r n σv σ'.length 0 σ') (h : AWP P σ0 sz c Q (St.mk env' σ')) : AWP P σ0 sz c Q (St.mk env σv) :=
 AWP.sub (Sub.moveM r n h0 hl hn henv he hst) h
/-! ### A row of nothing appended to rows -/
theorem Sub.virtJ (k : Nat) {b : Id} {j : Nat} {es : List (List C)} (hb : σv[b]? = some (some (.cells 1 es))) (hj : es[j]? = some [.imm (.val (.slice none 0 0))]) :
  Sub σ0 ⟨env, σv⟩ ⟨env, b6.put (σv ++ [.one (.cells k [])]) b (some (.cells 1 (es.set j [.own (σv.length, []) 0 0])))⟩ := fun Γ sz φ a w hΓ hR => by
 have hbl := b6.lt_of hb
 have hV := hR.toRs.virt k
 have hb' : (σv ++ [.one (.cells k [])])[b]? = some (some (.cells 1 es)) := by rw [b6.get_left hbl]; exact hb
 generalize hφ : (fun i => if i = ((σv.length, []) : Id) then none else φ i) = φ' at hV
 have φn : φ' (σv.length, []) = none := by rw [← hφ]; simp
 rcases hV.2.st.blk _ _ hb' with ⟨_, g⟩ | ⟨b0, base, arr, ety, q1, q2, q3, q4, q5⟩
 ·subst g; simp at hj
 ·have hW := Rs.write (k := 1) (es' := es.set j [.own (σv.length, []) 0 0]) (arr' := arr) hV.2 hb' q1 q2 (by simp) rfl (fun i e he => by
   rw [List.getElem?_set] at he
   split at he
   ·split at he
    ·cases he; rfl
    ·cases he
   ·exact q4 i e he) q3 (fun i e o x he hx => by
   rw [List.getElem?_set] at he
   split at he
   ·rename_i e; subst e
    split at he
    ·cases he
     match o, hx with
     | 0, hx =>
      cases hx
      obtain ⟨u, hu, hr⟩ := q5 j _ 0 _ hj rfl
      refine ⟨u, hu, ?_⟩
      cases hr with | imm hr => cases hr with | val h =>
       exact .own (by simp) rfl fun k' es' _ => .inl ⟨φn, rfl, rfl, rfl⟩
     | o + 1, hx => simp at hx
    ·cases he
   ·exact q5 i e o x he hx)
  rw [Go.setRow_self w b0 arr ety (0, 0) q2] at hW
  exact ⟨φ', (hR.of hV.1 hV.2).of hW.1 hW.2⟩
theorem set_dead {σ : b6} {r : Nat} (i : Id) (x : Blk) (h : (σ.set r .dead)[i]? = some (some x)) : i.1 ≠ r ∧ σ[i]? = some (some x) := by
 obtain ⟨i1, q⟩ := i
 rw [b6.at_eq] at h ⊢
 simp only [b6.at, List.getElem?_set] at h ⊢
 by_cases e : r = i1
 ·subst e
  rw [if_pos rfl] at h
  split at h
  ·rename_i e hx
   split at hx
   ·cases hx; cases q <;> cases h
   ·cases hx
  ·cases h
 ·rw [if_neg e] at h
  exact ⟨fun e' => e e'.symm, h⟩
theorem S.appendM {α : Type} {k r s : Nat} {f : α → List I} {M M' : List (List α)} {x y : Operand} {t e : TypeId} {bytes m n : Nat} {z : Value} {σ1 : b6} [ht : TyD P t (.slice e)] [hts : TyS P e 1 bytes z]
  (ha : app bytes M [[]] = some M') (hzk : (z.cells.size == 1) = true) (hbp : Nat.blt 0 bytes = true) (hx : ev env x = some (.c (.own (r, []) 0 m))) (hm : m = M.length) (hσ : σv[r]? = some (mat (r, []) k f M))
  (hy : ev env y = some (.c (.own (s, []) 0 1))) (hs : σv[((s, []) : Id)]? = some (some (.cells 1 [[.imm (.val (.slice none 0 0))]]))) (hn : newF σv = some (n, [])) (h1 : setF σv r .dead = some σ1) (hσ' : o6 σ1 (mat (n, []) k f M') = some σ') (hd : e6 sz dst = true) (h0 : Nat.ble σ0.length n = true)
  (h : AOps P σ0 sz ops Q rest (St.mk (putE env dst (.c (.own (n, []) 0 M'.length))) σ')) :
  AOps P σ0 sz ops Q (⟨dst, .call ⟨.builtin .append, #[x, y], #[t, t]⟩, ty, pos, after, none⟩ :: rest) (St.mk env σv) := by
 have h2 := (H9 h1).1; have h3 := v8 hn; have h4 := n5 hσ'
 cases h3
 subst h2 h4 hm
 obtain ⟨hb, rfl⟩ := af5 ha
 have hrl := (List.getElem?_eq_some_iff.1 hσ).1
 have h0' := Nat.le_of_ble_eq_true h0
 intro Γ0 φ0 a0 w0 hΓ0 hR0
 have hsrc : Src σv 1 (.c (.own (s, []) 0 1)) [[.imm (.val (.slice none 0 0))]] := .own (j := 0) (n := 1) hs
 refine AOps.append hzk hbp hx (mat_head hσ) hy hsrc (by simpa using hb) hd ?_ Γ0 φ0 a0 w0 hΓ0 hR0
 have e1 : ((hdr (r, []) M).drop 0).take M.length = hdr (r, []) M := by rw [List.drop_zero, List.take_of_length_le (by simp)]
 rw [e1]
 -- the last head becomes a row of its own
 have hlast : (σv.put (r, []) none ++ [.one (.cells 1 (hdr (r, []) M ++ [[.imm (.val (.slice none 0 0))]]))])[((σv.length, []) : Id)]? = some (some (.cells 1 (hdr (r, []) M ++ [[.imm (.val (.slice none 0 0))]]))) := by
  rw [b6.get_right (by simp)]; simp [b6.at_eq, b6.at, Ent.sub]
 refine AOps.sub (Sub.virtJ k hlast (j := M.length) (by rw [List.getElem?_append_right (by simp)]; simp)) ?_
 have e2 : (hdr (r, []) M ++ [[C.imm (.val (.slice none 0 0))]]).set M.length [.own (σv.length + 1, []) 0 0] = hdr (r, []) M ++ [[.own (σv.length + 1, []) 0 0]] := by
  rw [List.set_append_right _ _ (by simp)]; simp
 have e3 : (σv.put (r, []) none ++ [Ent.one (.cells 1 (hdr (r, []) M ++ [[C.imm (.val (.slice none 0 0))]]))]).length = σv.length + 1 := by simp
 rw [e3, e2]
 generalize hX : b6.put ((σv.put (r, []) none ++ [Ent.one (.cells 1 (hdr (r, []) M ++ [[C.imm (.val (.slice none 0 0))]]))]) ++ [.one (.cells k [])]) (σv.length, []) (some (.cells 1 (hdr (r, []) M ++ [[.own (σv.length + 1, []) 0 0]]))) = σX
 have xn : σX[((σv.length, []) : Id)]? = some (some (.cells 1 (hdr (r, []) M ++ [[.own (σv.length + 1, []) 0 0]]))) := by
  rw [← hX]; exact b6.get_put_eq (by rw [b6.get_left (by simp)]; exact hlast)
 have xv : σX[((σv.length + 1, []) : Id)]? = some (some (.cells k [])) := by
  rw [← hX, b6.get_put_ne (by simp), b6.get_right (by simp)]; simp [b6.at_eq, b6.at, Ent.sub]
 have xo : ∀ i : Id, i.1 < σv.length → i ≠ (r, []) → σX[i]? = σv[i]? := fun i hi hne => by
  rw [← hX, b6.get_put_ne (fun e => by rw [e] at hi; simp at hi), b6.get_left (by simp; omega), b6.get_left (by simpa using hi), b6.get_put_ne hne]
 -- what the new names stand for
 generalize hπ : (fun i : Id => if i.1 = σv.length then (if i.2 = [] then (σv.length, []) else if i.2 = [M.length] then (σv.length + 1, []) else (r, i.2)) else i) = π
 have π0 : ∀ i : Id, i.1 ≠ σv.length → π i = i := fun i hi => by rw [← hπ]; simp [hi]
 have πn : π (σv.length, []) = (σv.length, []) := by rw [← hπ]; simp
 have πv : π (σv.length, [M.length]) = (σv.length + 1, []) := by rw [← hπ]; simp
 have πr : ∀ q, q < M.length → π (σv.length, [q]) = (r, [q]) := fun q hq => by rw [← hπ]; simp; omega
 have hMlen : (M ++ [[]] : List (List α)).length = M.length + 1 := by simp
 -- the blocks of the store that is wanted
 have cases3 : ∀ (i : Id) b, (σv.set r .dead ++ [mat (σv.length, []) k f (M ++ [[]])])[i]? = some (some b) →
   (i.1 < σv.length ∧ i.1 ≠ r ∧ σv[i]? = some (some b)) ∨ (i = (σv.length, []) ∧ b = .cells 1 (hdr (σv.length, []) (M ++ [[]]))) ∨ (∃ q row, i = (σv.length, [q]) ∧ (M ++ [[]])[q]? = some row ∧ b = vec k f row) := fun i b hi => by
  rcases Nat.lt_or_ge i.1 σv.length with hl | hl
  ·rw [b6.get_left (by simpa using hl)] at hi
   obtain ⟨g1, g2⟩ := set_dead i b hi
   exact .inl ⟨hl, g1, g2⟩
  ·rw [b6.get_right (by simpa using hl)] at hi
   obtain ⟨i1, q⟩ := i
   simp only [List.length_set] at hi hl
   have hz : i1 = σv.length := by
    have := b6.lt_of hi
    simp at this; simp at hl; omega
   subst hz
   rw [Nat.sub_self, m8 (e := mat (σv.length, []) k f (M ++ [[]])) rfl] at hi
   cases q with
   | nil => cases hi; exact .inr (.inl ⟨rfl, rfl⟩)
   | cons p q =>
    rw [P0] at hi
    split at hi
    ·rename_i row hrow
     cases q with
     | nil => cases hi; exact .inr (.inr ⟨p, row, rfl, hrow, rfl⟩)
     | cons => cases hi
    ·cases hi
 refine AOps.sub (s' := ⟨putE env dst (.c (.own (σv.length, []) 0 (M ++ [[]]).length)), σv.set r .dead ++ [mat (σv.length, []) k f (M ++ [[]])]⟩) ?_ h
 have hlen' : (σv.set r .dead ++ [mat (σv.length, []) k f (M ++ [[]])]).length = σv.length + 1 := by simp
 refine Sub.mk π (fun i hi => π0 i (by omega)) (by rw [hlen']; omega) (fun i j b b' hi hj he => ?_) (fun i b hi => ?_) (fun t v ht => ?_)
 ·rcases cases3 i b hi with ⟨g1, g2, _⟩ | ⟨rfl, _⟩ | ⟨q, row, rfl, g1, _⟩ <;> rcases cases3 j b' hj with ⟨k1, k2, _⟩ | ⟨rfl, _⟩ | ⟨q', row', rfl, k1, _⟩
  ·rwa [π0 i (by omega), π0 j (by omega)] at he
  ·rw [π0 i (by omega), πn] at he; subst he; simp at g1
  ·rw [π0 i (by omega)] at he
   have hq : q' < M.length + 1 := by rw [← hMlen]; exact (List.getElem?_eq_some_iff.1 k1).1
   by_cases e : q' = M.length
   ·subst e; rw [πv] at he; subst he; exact absurd g1 (by simp)
   ·rw [πr q' (by omega)] at he; subst he; exact absurd rfl g2
  ·rw [π0 j (by omega), πn] at he; subst he; simp at k1
  ·rfl
  ·have hq : q' < M.length + 1 := by rw [← hMlen]; exact (List.getElem?_eq_some_iff.1 k1).1
   by_cases e : q' = M.length
   ·subst e; rw [πn, πv] at he; simp at he
   ·rw [πn, πr q' (by omega)] at he; simp at he
  ·rw [π0 j (by omega)] at he
   have hq : q < M.length + 1 := by rw [← hMlen]; exact (List.getElem?_eq_some_iff.1 g1).1
   by_cases e : q = M.length
   ·subst e; rw [πv] at he; subst he; exact absurd k1 (by simp)
   ·rw [πr q (by omega)] at he; subst he; exact absurd rfl k2
  ·have hq : q < M.length + 1 := by rw [← hMlen]; exact (List.getElem?_eq_some_iff.1 g1).1
   by_cases e : q = M.length
   ·subst e; rw [πn, πv] at he; simp at he
   ·rw [πn, πr q (by omega)] at he; simp at he
  ·have hq : q < M.length + 1 := by rw [← hMlen]; exact (List.getElem?_eq_some_iff.1 g1).1
   have hq' : q' < M.length + 1 := by rw [← hMlen]; exact (List.getElem?_eq_some_iff.1 k1).1
   by_cases e : q = M.length <;> by_cases e' : q' = M.length
   ·rw [e, e']
   ·rw [e, πv, πr q' (by omega)] at he; simp at he
   ·rw [e', πv, πr q (by omega)] at he; simp at he
   ·rw [πr q (by omega), πr q' (by omega)] at he
    simp at he; rw [he]
 ·dsimp only
  rw [hlen']
  rcases cases3 i b hi with ⟨g1, g2, g3⟩ | ⟨rfl, rfl⟩ | ⟨q, row, rfl, g1, rfl⟩
  ·have hok := hR0.st.okB g3
   have hren : b.ren π = b := Blk.ren_ok (m := σv.length) (fun i hi => π0 i (by omega)) b hok
   refine ⟨Blk.ok_mono (Nat.le_succ _) b hok, ?_⟩
   rw [π0 i (by omega), hren, xo i g1 (fun e => g2 (by rw [e]))]
   exact g3
  ·refine ⟨ac9 (by omega) _, ?_⟩
   rw [πn, xn]
   congr 2
   simp only [Blk.ren]
   congr 1
   apply List.ext_getElem?
   intro q
   rw [List.getElem?_map]
   simp only [hdr, List.getElem?_mapIdx, Option.map_map, List.getElem?_append, List.length_mapIdx]
   by_cases hq : q < M.length
   ·rw [if_pos hq, if_pos hq]
    cases hM : M[q]? with
    | none => rfl
    | some row => simp [C.renL, C.ren, πr q hq]
   ·rw [if_neg hq, if_neg hq]
    by_cases hq2 : q = M.length
    ·subst hq2; simp [C.renL, C.ren, πv]
    ·have : q - M.length ≠ 0 := by omega
     cases hz : q - M.length with
     | zero => omega
     | succ x => simp
  ·have hq : q < M.length + 1 := by rw [← hMlen]; exact (List.getElem?_eq_some_iff.1 g1).1
   refine ⟨D8, ?_⟩
   rw [Blk.im_ren]
   by_cases e : q = M.length
   ·subst e
    rw [πv, xv]
    rw [List.getElem?_append_right (Nat.le_refl _), Nat.sub_self] at g1
    cases g1; rfl
   ·rw [πr q (by omega), xo (r, [q]) hrl (by simp)]
    rw [List.getElem?_append_left (by omega)] at g1
    rw [m8 hσ, P0, g1]
 ·dsimp only at ht ⊢
  rw [hlen']
  have old : ∀ v, lookup t env = some v → v.ok (σv.length + 1) = true ∧ lookup t env = some (v.ren π) := fun v hv => by
   obtain ⟨u, _, hr⟩ := hR0.env t v hv
   have hok := hr.ok
   exact ⟨T.ok_mono (Nat.le_succ _) v hok, by rw [T.ren_ok (m := σv.length) (fun i hi => π0 i (by omega)) v hok]; exact hv⟩
  cases hdst : dst with
  | none => rw [hdst] at ht; exact old v ht
  | some d =>
   rw [hdst] at ht
   simp only [putE, lookup] at ht ⊢
   split at ht
   ·cases ht
    refine ⟨by simp [T.ok, C.ok], ?_⟩
    simp [T.ren, C.ren, πn]
   ·exact old v ht
end
end Ab
end
section
namespace Ab
open Go
section
variable {P : Program} {σ0 : b6} {sz : Nat} {Q : Post} {env env' : Env} {σv σ' : b6}
theorem Sub.virtBM {α : Type} (k : Nat) (f : α → List I) {b : Id} {n kb o : Nat} {cs cs' : List C} {σ1 σ3 σ4 : b6} (hb : σv[b]? = some (some (.cells kb [cs]))) (hc : cs[o]? = some (.imm (.val (.slice none 0 0)))) (hn : newF σv = some (n, [])) (h1 : o6 σv (mat (n, []) k f []) = some σ1)
  (hs : setF cs o (.own (n, []) 0 ([] : List (List α)).length) = some cs') (hσ' : putF σ1 b (some (.cells kb [cs'])) = some σ') (h3 : o6 σv (.one (vec 1 (fun _ : α => ([] : List I)) ([] : List α))) = some σ3) (h4 : putF σ3 b (some (.cells kb [cs'])) = some σ4) : Sub σ0 ⟨env, σv⟩ ⟨env, σ'⟩ := by
 have g1 := v8 hn; have g2 := n5 h1; have g4 := w3 hσ'
 cases g1
 subst g2 g4
 have e3 := n5 h3; have e4 := w3 h4
 subst e3 e4
 have hbl := b6.lt_of hb
 have hb3 : (σv ++ [.one (vec 1 (fun _ : α => ([] : List I)) ([] : List α))])[b]? = some (some (.cells kb [cs])) := by rw [b6.get_left hbl]; exact hb
 refine (Sub.virtB (α := α) 1 (fun _ => []) hb hc hn h3 hs h4).trans (Sub.same (by simp) fun i => ?_)
 have hbm : (σv ++ [mat (σv.length, []) k f ([] : List (List α))])[b]? = some (some (.cells kb [cs])) := by rw [b6.get_left hbl]; exact hb
 by_cases hi : i = b
 ·subst hi
  rw [b6.get_put_eq hb3, b6.get_put_eq hbm]
 ·rw [b6.get_put_ne hi, b6.get_put_ne hi]
  rcases Nat.lt_or_ge i.1 σv.length with hl | hl
  ·rw [b6.get_left hl, b6.get_left hl]
  ·rw [b6.get_right hl, b6.get_right hl]
   obtain ⟨i1, q⟩ := i
   rw [b6.at_eq, b6.at_eq]
   simp only [b6.at]
   cases i1 - σv.length with
   | zero => cases q <;> rfl
   | succ m => rfl
theorem AWP.virtBM {α : Type} {c : Code} (k : Nat) (f : α → List I) {b : Id} {n kb o : Nat} {cs cs' : List C} {σ1 σ3 σ4 : b6} (hb : σv[b]? = some (some (.cells kb [cs]))) (hc : cs[o]? = some (.imm (.val (.slice none 0 0)))) (hn : newF σv = some (n, [])) (h1 : o6 σv (mat (n, []) k f []) = some σ1)
  (hs : setF cs o (.own (n, []) 0 ([] : List (List α)).length) = some cs') (hσ' : putF σ1 b (some (.cells kb [cs'])) = some σ') (h3 : o6 σv (.one (vec 1 (fun _ : α => ([] : List I)) ([] : List α))) = some σ3) (h4 : putF σ3 b (some (.cells kb [cs'])) = some σ4) (h : AWP P σ0 sz c Q ⟨env, σ'⟩) : AWP P σ0 sz c Q ⟨env, σv⟩ := AWP.sub (Sub.virtBM k f hb hc hn h1 hs hσ' h3 h4) h
end
end Ab
end
section
namespace Ab
open Go
section
variable {P : Program} {σ0 : b6} {sz : Nat} {Q : Post} {env env' : Env} {σv σ' : b6} {ops : Array Oper} {rest : List Oper} {dst : Option Nat} {ty : TypeId} {pos : String} {after : Array Edge}
def isIfaceD : TypeDesc → Bool
 | .interface _ => true
 | _ => false
theorem ifc1_inv {w : World} {φ : Phi} {σ : b6} {A : Nat → Prop} {t : TypeId} {c : C} {u : Value} (h : RelT w φ σ A (.c (.ifc t [c] false)) u) : ∃ v, u = .iface t v ∧ RelC w φ σ A c v := by
 cases h with | c h => cases h with | ifc1 h => exact ⟨_, rfl, h⟩
theorem S.mkIfc {x : Operand} {t : TypeId} {d : TypeDesc} {c : C} [ht : TyD P t d] (hi : isIfaceD d = false) (hx : ev env x = some (.c c)) (hd : e6 sz dst = true)
  (h : AOps P σ0 sz ops Q rest (St.mk (putE env dst (.c (.ifc t [c] false))) σv)) : AOps P σ0 sz ops Q (⟨dst, .makeInterface t x, ty, pos, after, none⟩ :: rest) (St.mk env σv) :=
 .value rfl hd _ (fun Γ φ a w hR => by
  have hr := f9 hR hx
  generalize hu : a.eval x = u at hr
  cases hr with | c hr =>
   refine ⟨.iface t u, ?_, .c (.ifc1 hr)⟩
   cases d <;> first | (cases hi; done) | simp [execOp, Instr.makeInterface, run_underlying ht.h, hu]) h
theorem S.assert {x : Operand} {xt t : TypeId} {d : TypeDesc} {c : C} [ht : TyD P t d] (hi : isIfaceD d = false) (hx : ev env x = some (.c (.ifc t [c] false))) (hd : e6 sz dst = true)
  (h : AOps P σ0 sz ops Q rest (St.mk (putE env dst (.c c)) σv)) : AOps P σ0 sz ops Q (⟨dst, .typeAssert x xt t false, ty, pos, after, none⟩ :: rest) (St.mk env σv) :=
 .value rfl hd _ (fun Γ φ a w hR => by
  obtain ⟨v, hv, hr⟩ := ifc1_inv (f9 hR hx)
  refine ⟨v, ?_, .c hr⟩
  cases d <;> first | (cases hi; done) | simp [execOp, Instr.typeAssert, run_underlying ht.h, hv]) h
/-! ### Calls through an interface -/
theorem AOps.enterS {o : Oper} {f : FuncId} {ts : List T} {Qc : T → b6 → Prop} (hg : o.guard = none) (hd : e6 sz o.dst = true) (hf : FnOk P f ts σv Qc)
  (he : ∀ Γ φ a w, R Γ sz (St.mk env σv) φ a w → ∃ vs : List Value, (execOp a.eval o).run P w = .ok (.enter f vs.toArray) w ∧ ts.length = vs.length ∧ ∀ (i : Nat) (t : T) (u : Value), ts[i]? = some t → vs[i]? = some u → RelT w φ σv (Al Γ.N φ σv) t u)
  (h : ∀ r σ', Qc r σ' → AOps P σ0 sz ops Q rest ((St.mk env σ').put o.dst r)) : AOps P σ0 sz ops Q (o :: rest) (St.mk env σv) := fun Γ φ a w hΓ hR ro => by
 obtain ⟨vs, h1, h2, h3⟩ := he Γ φ a w hR
 refine X7 hg (al8 h1 ?_)
 refine (hf.run ⟨w, Γ.N, φ, σv⟩ vs rfl hR.toRs.down h2 h3).mono ?_
 rintro e w' ⟨v, r, σ', φ', rfl, hq, hr, hs⟩
 exact h r σ' hq Γ φ' _ w' hΓ ((hR.of hs.kept (hR.toRs.up hs)).put hd hr) ro
class MethF (P : Program) (t : TypeId) (name : String) (f : outParam FuncId) (b : outParam Bool) : Prop where
 h : ((P.info? t).bind fun i => (i.methods.find? (·.name == name)).map fun m => (m.path.toList, m.func)) = some ([], some (f, b))
theorem MethF.get {t : TypeId} {name : String} {f : FuncId} {b : Bool} [h : MethF P t name f b] : ∃ i m, P.info? t = some i ∧ i.methods.find? (·.name == name) = some m ∧ m.path = #[] ∧ m.func = some (f, b) := by
 obtain ⟨i, h1, h2⟩ := Option.bind_eq_some_iff.1 h.h
 obtain ⟨m, h3, h4⟩ := Option.map_eq_some_iff.1 h2
 simp only [Prod.mk.injEq] at h4
 exact ⟨i, m, h1, h3, by simpa using h4.1, h4.2⟩
theorem run_recvP {t e : TypeId} {v : Value} {wr : Option String} {w : World} [hd : TyD P t (.pointer e)] : (receiverAt t (.val v) true wr).run P w = .ok v w := by
 unfold receiverAt
 rw [Sem.run_bind, run_underlying hd.h]
 rfl
theorem run_recvV {t e : TypeId} {de : TypeDesc} {a : Addr} {u : Value} {wr : String} {w : World} [hd : TyD P t (.pointer e)] [he : TyD P e de] (ha : y5 de = false) (hu : w.cell? a = some u) : (receiverAt t (.val (.pointer (some a))) false (some wr)).run P w = .ok u w := by
 unfold receiverAt
 rw [Sem.run_bind, run_underlying hd.h]
 show (loadVar e a).run P w = _
 exact aa9 ha hu
theorem run_method {t : TypeId} {name : String} {f : FuncId} {b : Bool} {v u : Value} {w : World} [hm : MethF P t name f b] (hr : ∀ wr : String, (receiverAt t (.val v) b (some wr)).run P w = .ok u w) : (method (P.types.size + Made.depth) t v name).run P w = .ok (f, u) w := by
 obtain ⟨i, m, h1, h2, h3, h4⟩ := hm.get
 rw [show P.types.size + Made.depth = (P.types.size + 99) + 1 from rfl]
 have hi : (typeInfo t).run P w = .ok i w := by simp [typeInfo, h1]
 unfold method
 rw [Sem.run_bind, hi]
 simp only [Result.andThen_ok, h2, h3, h4, follow]
 simp only [Sem.run_bind, Sem.run_pure, Result.andThen_ok, Array.isEmpty_empty, if_true]
 rw [hr]
 rfl
theorem fn_body {f : FuncId} (hfn : ∃ fn, P.funcs[f]? = some fn ∧ (fn.name == "runtime.NumGoroutine") = false ∧ fn.body.isNone = false) (vs : Array Value) (w : World) : (callFunc f vs).run P w = .ok (.enter f vs) w := by
 obtain ⟨fn, h1, h2, h3⟩ := hfn
 have h2' : ¬ fn.name = "runtime.NumGoroutine" := by simpa using h2
 have h3' : ¬ fn.body = none := fun e => by rw [e] at h3; cases h3
 simp [callFunc, h1, h2', h3']
theorem invoke_args {Γ : Cx} {φ : Phi} {a : Act} {w : World} (hR : R Γ sz (St.mk env σv) φ a w) {as' : List Operand} {ts : List T} (ha : evs env as' = some ts) {c : C} {v : Value} (hc : RelC w φ σv (Al Γ.N φ σv) c v) :
  (T.c c :: ts).length = (v :: as'.map a.eval).length ∧ ∀ (i : Nat) (t : T) (u : Value), (T.c c :: ts)[i]? = some t → (v :: as'.map a.eval)[i]? = some u → RelT w φ σv (Al Γ.N φ σv) t u := by
 obtain ⟨k1, k2⟩ := evs_rel hR ha
 refine ⟨by simp [k1], fun i t u hi hu => ?_⟩
 cases i with
 | zero => simp only [List.getElem?_cons_zero, Option.some.injEq] at hi hu; subst hi hu; exact .c hc
 | succ i => exact k2 i t u (by simpa using hi) (by simpa using hu)
theorem S.invokeP {x : Operand} {as' : List Operand} {ats : Array TypeId} {name : String} {t e : TypeId} {c : C} {f : FuncId} {ts : List T} {r2 : T} {σ'' : b6} [hd : TyD P t (.pointer e)] [hm : MethF P t name f true] (hx : ev env x = some (.c (.ifc t [c] false))) (ha : evs env as' = some ts) (hdst : e6 sz dst = true)
  (hf : FnOk P f (.c c :: ts) σv fun r s => r = r2 ∧ s = σ'') (h : AOps P σ0 sz ops Q rest (St.mk (putE env dst r2) σ'')) :
  AOps P σ0 sz ops Q (⟨dst, .call ⟨.invoke x name, as'.toArray, ats⟩, ty, pos, after, none⟩ :: rest) (St.mk env σv) := by
 refine AOps.enterS rfl hdst hf (fun Γ φ a w hR => ?_) (fun r s ⟨h1, h2⟩ => by subst h1 h2; exact h)
 obtain ⟨v, hv, hr⟩ := ifc1_inv (f9 hR hx)
 refine ⟨v :: as'.map a.eval, ?_, invoke_args hR ha hr⟩
 have := fn_body hf.fn (v :: as'.map a.eval).toArray w
 simp [execOp, resolve, invoke, callMethod, hv, run_method (P := P) (t := t) (name := name) (fun wr => run_recvP (e := e))]
 simpa [List.take_of_length_le] using this
theorem S.invokeV {x : Operand} {as' : List Operand} {ats : Array TypeId} {name : String} {t e : TypeId} {de : TypeDesc} {id : Id} {j o k : Nat} {es : List (List C)} {el : List C} {c : C} {f : FuncId} {ts : List T} {r2 : T} {σ'' : b6} [hd : TyD P t (.pointer e)] [he : TyD P e de] [hm : MethF P t name f false] (hagg : y5 de = false)
  (hx : ev env x = some (.c (.ifc t [.ptr id j o] false))) (hσ : σv[id]? = some (some (.cells k es))) (hel : es[j]? = some el) (hc : el[o]? = some c) (ha : evs env as' = some ts) (hdst : e6 sz dst = true)
  (hf : FnOk P f (.c c :: ts) σv fun r s => r = r2 ∧ s = σ'') (h : AOps P σ0 sz ops Q rest (St.mk (putE env dst r2) σ'')) :
  AOps P σ0 sz ops Q (⟨dst, .call ⟨.invoke x name, as'.toArray, ats⟩, ty, pos, after, none⟩ :: rest) (St.mk env σv) := by
 refine AOps.enterS rfl hdst hf (fun Γ φ a w hR => ?_) (fun r s ⟨h1, h2⟩ => by subst h1 h2; exact h)
 obtain ⟨v, hv, hr⟩ := ifc1_inv (f9 hR hx)
 obtain ⟨hid, b, base, hp, hv2⟩ := X6 (.c hr) hσ
 obtain ⟨arr, ety, hb, _, _, hcs⟩ := D1 hR hσ hp
 obtain ⟨u, hu, hru⟩ := hcs j el o c hel hc
 refine ⟨u :: as'.map a.eval, ?_, invoke_args hR ha hru⟩
 have := fn_body hf.fn (u :: as'.map a.eval).toArray w
 simp [execOp, resolve, invoke, callMethod, hv, hv2, run_method (P := P) (t := t) (name := name) (fun wr => run_recvV (e := e) hagg ((J5 hb).trans hu))]
 simpa [List.take_of_length_le] using this
/-! ### Maps: how many keys -/
theorem S.lenMap {K V : Type} {fk : K → Value} {fv : V → Value} {x : Operand} {t kt vt : TypeId} {id : Id} {m : List (K × V)} [ht : TyD P t (.map kt vt)] (hx : ev env x = some (.c (.map id))) (hσ : σv[id]? = some (some (mapB fk fv m))) (hd : e6 sz dst = true)
  (h : AOps P σ0 sz ops Q rest (St.mk (putE env dst (.c (int (m.length : Int)))) σv)) : AOps P σ0 sz ops Q (⟨dst, .call ⟨.builtin .len, #[x], #[t]⟩, ty, pos, after, none⟩ :: rest) (St.mk env σv) :=
 .value rfl hd _ (fun Γ φ a w hR => by
  obtain ⟨b, base, hp, hv⟩ := Y1 (f9 hR hx) hσ
  obtain ⟨b', o, _, g1, g2, ⟨es, c, rfl, g3⟩, _⟩ := hR.st.blk _ _ hσ
  rw [hp] at g1; cases g1
  have hl : es.size = m.length := by
   have := congrArg List.length g3
   simpa using this
  exact ⟨.int .i64 m.length, by simp [execOp, hv, resolve, invoke, builtin, Builtin.len_, run_underlying ht.h, Go.MapKept.run_getObj_map g2, goInt, hl, Result.andThen], .int _⟩) h
/-! ### Maps whose values are nothing (sets) -/
def noV : Unit → Value := fun _ => .agg #[]
theorem W.lookupOkU {K : Type} [DecidableEq K] {fk : K → Value} {d : TypeDesc} {x y : Operand} {t kt vt : TypeId} {id : Id} {m : List (K × Unit)} {k : K} {size bytes : Nat} {zv : Value} [ht : TyD P t (.map kt vt)] [hkt : TyD P kt d] [hs : TyS P vt size bytes zv] (hk : KeyT d fk) (hz : zv = .agg #[])
  (hx : ev env x = some (.c (.map id))) (hy : ev env y = some (.c (.imm (.val (fk k))))) (hσ : σv[id]? = some (some (mapB fk noV m))) (hd : e6 sz dst = true)
  (h : AOps P σ0 sz ops Q rest (St.mk (putE env dst (.tup [.agg [], .c (bool (mget m k).isSome)])) σv)) : AOps P σ0 sz ops Q (⟨dst, .lookup t x y true, ty, pos, after, none⟩ :: rest) (St.mk env σv) := by
 refine .valueW rfl hd _ _ (fun Γ φ a w hR => ?_) h
 obtain ⟨b, base, hp, hv⟩ := Y1 (f9 hR hx) hσ
 obtain ⟨hv2, _⟩ := B4 (f9 hR hy)
 obtain ⟨b', o, _, g1, g2, ⟨es, c, rfl, g3⟩, _⟩ := hR.st.blk _ _ hσ
 rw [hp] at g1; cases g1
 refine ⟨.tuple #[.agg #[], .bool (mget m k).isSome], w, φ, ?_, RelT.tup' (vs := [.agg #[], .bool (mget m k).isSome]) rfl (fun i t u hi hu => ?_), hR⟩
 ·rcases R6 hk k m es.toList 0 g3 with ⟨q1, q2, _⟩ | ⟨v, j, e, q1, q2, _⟩
  ·simp [execOp, hv, hv2, Instr.lookup, run_underlying ht.h, Go.MapKept.run_getObj_map g2, Go.MapKept.run_checkKey hkt.h (hk.key k), Go.MapKept.run_findKey hkt.h q2, G3 (t := vt), q1, hz, Result.andThen]
  ·simp [execOp, hv, hv2, Instr.lookup, run_underlying ht.h, Go.MapKept.run_getObj_map g2, Go.MapKept.run_checkKey hkt.h (hk.key k), Go.MapKept.run_findKey hkt.h q2, q1, noV, Result.andThen]
 ·match i with
  | 0 => cases hi; cases hu; exact RelT.agg' (vs := []) rfl (fun i c v hc => by simp at hc)
  | 1 => cases hi; cases hu; exact .bool _
  | i + 2 => simp at hi
theorem agg0_inv {w : World} {φ : Phi} {σ : b6} {A : Nat → Prop} {u : Value} (h : RelT w φ σ A (.agg []) u) : u = .agg #[] := by
 cases h with | agg us hr => simp
theorem W.mapUpdateU {K : Type} [DecidableEq K] {fk : K → Value} {d : TypeDesc} {x y v : Operand} {t kt vt : TypeId} {id : Id} {m : List (K × Unit)} {k : K} [ht : TyD P t (.map kt vt)] [hkt : TyD P kt d] (hk : KeyT d fk)
  (hx : ev env x = some (.c (.map id))) (hy : ev env y = some (.c (.imm (.val (fk k))))) (hv : ev env v = some (.agg [])) (hσ : σv[id]? = some (some (mapB fk noV m))) (hσ' : σv.put id (some (mapB fk noV (mset m k ()))) = σ')
  (h : AOps P σ0 sz ops Q rest (St.mk env σ')) : AOps P σ0 sz ops Q (⟨none, .mapUpdate t x y v, ty, pos, after, none⟩ :: rest) (St.mk env σv) := by
 subst hσ'
 refine .skipW rfl rfl _ (fun Γ φ ac w hR => ?_) h
 obtain ⟨b, base, hp, e1⟩ := Y1 (f9 hR hx) hσ
 obtain ⟨e2, _⟩ := B4 (f9 hR hy)
 have e3 := agg0_inv (f9 hR hv)
 obtain ⟨b', o, _, g1, g2, ⟨es, c, rfl, g3⟩, _⟩ := hR.st.blk _ _ hσ
 rw [hp] at g1; cases g1
 rcases R6 hk k m es.toList 0 g3 with ⟨q1, q2, q3⟩ | ⟨v0, j, e, q1, q2, q3, q4, q5⟩
 ·have hW := Rs.writeO (q1 := mapP fk noV (mset m k ())) (o1 := .map (es.push { key := fk k, val := .agg #[], born := c }) (c + 1)) hR.toRs hσ hp g2 ⟨_, _, rfl, by rw [Array.toList_push]; exact q3 () c⟩
  refine ⟨_, φ, ?_, hR.of hW.1 hW.2⟩
  simp [execOp, e1, e2, e3, Instr.mapUpdate, run_underlying ht.h, Go.MapKept.run_getObj_map g2, Go.MapKept.run_checkKey hkt.h (hk.key k), Go.MapKept.run_findKey hkt.h q2, Go.MapKept.run_setObj_map _ g2, Result.andThen]
 ·have hj : es[j]? = some e := by simpa using q3
  have hW := Rs.writeO (q1 := mapP fk noV (mset m k ())) (o1 := .map (es.modify j fun e => { e with key := fk k, val := .agg #[] }) c) hR.toRs hσ hp g2 ⟨_, _, rfl, by rw [Array.toList_modify]; exact q5 ()⟩
  refine ⟨_, φ, ?_, hR.of hW.1 hW.2⟩
  simp [execOp, e1, e2, e3, Instr.mapUpdate, run_underlying ht.h, Go.MapKept.run_getObj_map g2, Go.MapKept.run_checkKey hkt.h (hk.key k), Go.MapKept.run_findKey hkt.h q2, hj, q4, Go.MapKept.run_keyThatStays (hk.key k), Go.MapKept.run_setObj_map _ g2, Result.andThen]
theorem W.insertU {K : Type} [DecidableEq K] {fk : K → Value} {d : TypeDesc} {x y v : Operand} {t kt vt : TypeId} {id : Id} {m : List (K × Unit)} {k : K} [ht : TyD P t (.map kt vt)] [hkt : TyD P kt d] (hk : KeyT d fk)
  (hx : ev env x = some (.c (.map id))) (hy : ev env y = some (.c (.imm (.val (fk k))))) (hv : ev env v = some (.agg [])) (hσ : σv[id]? = some (some (mapB fk noV m))) (hσ' : σv.put id (some (mapB fk noV (mset m k ()))) = σ')
  (h : AOps P σ0 sz ops Q rest (St.mk env σ')) : AOps P σ0 sz ops Q (⟨none, .insert t x y v, ty, pos, after, none⟩ :: rest) (St.mk env σv) := by
 subst hσ'
 refine .skipW rfl rfl _ (fun Γ φ ac w hR => ?_) h
 obtain ⟨b, base, hp, e1⟩ := Y1 (f9 hR hx) hσ
 obtain ⟨e2, _⟩ := B4 (f9 hR hy)
 have e3 := agg0_inv (f9 hR hv)
 obtain ⟨b', o, _, g1, g2, ⟨es, c, rfl, g3⟩, _⟩ := hR.st.blk _ _ hσ
 rw [hp] at g1; cases g1
 rcases R6 hk k m es.toList 0 g3 with ⟨q1, q2, q3⟩ | ⟨v0, j, e, q1, q2, q3, q4, q5⟩
 ·have hW := Rs.writeO (q1 := mapP fk noV (mset m k ())) (o1 := .map (es.push { key := fk k, val := .agg #[], born := c }) (c + 1)) hR.toRs hσ hp g2 ⟨_, _, rfl, by rw [Array.toList_push]; exact q3 () c⟩
  refine ⟨_, φ, ?_, hR.of hW.1 hW.2⟩
  simp [execOp, e1, e2, e3, Instr.mapUpdate, run_underlying ht.h, Go.MapKept.run_getObj_map g2, Go.MapKept.run_checkKey hkt.h (hk.key k), Go.MapKept.run_findKey hkt.h q2, Go.MapKept.run_setObj_map _ g2, Result.andThen]
 ·have hj : es[j]? = some e := by simpa using q3
  have hW := Rs.writeO (q1 := mapP fk noV (mset m k ())) (o1 := .map (es.modify j fun e => { e with key := fk k, val := .agg #[] }) c) hR.toRs hσ hp g2 ⟨_, _, rfl, by rw [Array.toList_modify]; exact q5 ()⟩
  refine ⟨_, φ, ?_, hR.of hW.1 hW.2⟩
  simp [execOp, e1, e2, e3, Instr.mapUpdate, run_underlying ht.h, Go.MapKept.run_getObj_map g2, Go.MapKept.run_checkKey hkt.h (hk.key k), Go.MapKept.run_findKey hkt.h q2, hj, q4, Go.MapKept.run_keyThatStays (hk.key k), Go.MapKept.run_setObj_map _ g2, Result.andThen]
end
/-! ### A struct without fields -/
theorem S.build0 {P : Program} {σ0 : b6} {sz : Nat} {Q : Post} {env : Env} {σv : b6} {ops : Array Oper} {rest : List Oper} {dst : Option Nat} {ty : TypeId} {pos : String} {after : Array Edge} {t : TypeId} {fs : Array Field} {size bytes : Nat} {z : Value} [ht : TyD P t (.struct fs)] [hs : TyS P t size bytes z] (hf : fs = #[]) (hz : z = .agg #[]) (hd : e6 sz dst = true)
  (h : AOps P σ0 sz ops Q rest (St.mk (putE env dst (.agg [])) σv)) : AOps P σ0 sz ops Q (⟨dst, .build t #[], ty, pos, after, none⟩ :: rest) (St.mk env σv) :=
 .value rfl hd _ (fun Γ φ a w hR => by
  subst hf hz
  refine ⟨.agg #[], ?_, RelT.agg' (vs := []) rfl (fun i c v hc => by simp at hc)⟩
  simp [execOp, Instr.build, G3 (t := t), run_underlying ht.h, Value.cells, Instr.fill]) h
theorem S.store0 {P : Program} {σ0 : b6} {sz : Nat} {Q : Post} {env : Env} {σv : b6} {ops : Array Oper} {rest : List Oper} {ty : TypeId} {pos : String} {after : Array Edge} {x y : Operand} {t : TypeId} {fs : Array Field} {bytes k j o : Nat} {id : Id} {es : List (List C)} {z : Value} [ht : TyD P t (.struct fs)] [hs : TyS P t 0 bytes z] (hx : ev env x = some (.c (.ptr id j o))) (hy : ev env y = some (.agg [])) (hσ : σv[id]? = some (some (.cells k es)))
  (h : AOps P σ0 sz ops Q rest (St.mk env σv)) : AOps P σ0 sz ops Q (⟨none, .store t x y, ty, pos, after, none⟩ :: rest) (St.mk env σv) :=
 .skipW rfl rfl σv (fun Γ φ a w hR => by
  obtain ⟨hid, b, base, hp, hv⟩ := X6 (f9 hR hx) hσ
  have hv2 := agg0_inv (f9 hR hy)
  refine ⟨w, φ, ?_, hR⟩
  simp [execOp, hv, hv2, Instr.storeAt, Instr.sureAddr, storeVar, Value.cells, storeCells, o4 (t := t)]) h
/-! ### Contracts with two kinds of ends -/
theorem FnOk.alt1 {A B : Type} {P : Program} {f : FuncId} {args : List T} {σ : b6} {Q1 : A → T → b6 → Prop} {Q2 : B → T → b6 → Prop} {v : A} (h : FnOk P f args σ fun tt ss => (∃ w, (Sum.inl v : A ⊕ B) = .inl w ∧ Q1 w tt ss) ∨ ∃ w, (Sum.inl v : A ⊕ B) = .inr w ∧ Q2 w tt ss) : FnOk P f args σ (Q1 v) :=
 h.mono fun r s hq => by
  rcases hq with ⟨w, e, hq⟩ | ⟨w, e, _⟩
  ·cases e; exact hq
  ·cases e
theorem FnOk.alt2 {A B : Type} {P : Program} {f : FuncId} {args : List T} {σ : b6} {Q1 : A → T → b6 → Prop} {Q2 : B → T → b6 → Prop} {v : B} (h : FnOk P f args σ fun tt ss => (∃ w, (Sum.inr v : A ⊕ B) = .inl w ∧ Q1 w tt ss) ∨ ∃ w, (Sum.inr v : A ⊕ B) = .inr w ∧ Q2 w tt ss) : FnOk P f args σ (Q2 v) :=
 h.mono fun r s hq => by
  rcases hq with ⟨w, e, _⟩ | ⟨w, e, hq⟩
  ·cases e
  ·cases e; exact hq
end Ab
end
section
namespace Ab
open Go
section
variable {α : Type}
def pool (size : Nat) (f : α → List I) (E : List α) : Ent := .node none (E.map fun e => .one (vec size f [e]))
def prow (r : Nat) (l : List Int) : Blk := .cells 1 (l.map fun i => [.ptr (r, [i.toNat]) 0 0])
def L8 {K : Type} (fk : K → Value) (ks : List K) : Obj → List Value → Prop := fun o us => ∃ es c, o = .map es c ∧ es.toList.map (·.key) = ks.map fk ∧ es.toList.map (·.val) = us
def mapCB {K V : Type} (fk : K → Value) (fc : V → C) (m : List (K × V)) : Blk := .obj (L8 fk (m.map (·.1))) (m.map fun p => fc p.2)
def K2 (r : Nat) (i : Int) : C := .ptr (r, [i.toNat]) 0 0
def pmap {K : Type} (r : Nat) (fk : K → Value) (m : List (K × Int)) : Blk := mapCB fk (K2 r) m
def ptrO (r : Nat) : Option Int → C
 | some i => K2 r i
 | none => .imm (.val (.pointer none))
theorem ai6 {r : Nat} {o : Option Int} {i : Int} (h : o = some i) : some (T.c (ptrO r o)) = some (T.c (.ptr (r, [i.toNat]) 0 0)) := by rw [h]; rfl
theorem S7 {size : Nat} {f : α → List I} {E : List α} {p : List Nat} {b : Blk} (h : (pool size f E).sub p = some b) : ∃ i e, p = [i] ∧ E[i]? = some e ∧ b = vec size f [e] := by
 cases p with
 | nil => cases h
 | cons i q =>
  simp only [pool, Ent.sub, List.getElem?_map] at h
  cases hi : E[i]? with
  | none => simp [hi] at h
  | some e =>
   rw [hi] at h
   cases q with
   | nil => simp only [Option.map_some, Ent.sub, Option.some.injEq] at h; exact ⟨i, e, rfl, hi, h.symm⟩
   | cons => simp [Ent.sub] at h
theorem al2 {size : Nat} {f : α → List I} {E : List α} {i : Nat} {e : α} (h : E[i]? = some e) : (pool size f E).sub [i] = some (vec size f [e]) := by
 simp [pool, Ent.sub, h]
theorem n7 {σ : b6} {r size : Nat} {f : α → List I} {E : List α} {i : Int} {e : α} (h : σ[r]? = some (pool size f E)) (he : ix E i = some e) : σ[((r, [i.toNat]) : Id)]? = some (some (.cells size [(f e).map .imm])) := by
 rw [m8 h, al2 (E0 he).2]; rfl
theorem l8 {size n : Nat} {f : α → List I} {E : List α} : ∀ q b, (pool size f E).sub q = some b → b.ok n = true := fun q b h => by
 obtain ⟨i, e, _, _, rfl⟩ := S7 h; exact D8
theorem pool_no {size : Nat} {f : α → List I} {E : List α} {id : Id} : ∀ q b, (pool size f E).sub q = some b → b.no id = true := fun q b h => by
 obtain ⟨i, e, _, _, rfl⟩ := S7 h; exact Blk.im_no _ _ _
theorem pool_fwd {size : Nat} {f : α → List I} {E : List α} {π : Id → Id} : ∀ p b, (pool size f E).sub p = some b → (pool size f E).sub p = some (b.ren π) := fun p b h => by
 obtain ⟨i, e, rfl, _, rfl⟩ := S7 h; rw [h, F4]
theorem pool_bwd {size : Nat} {f : α → List I} {E : List α} {π : Id → Id} : ∀ p b, (pool size f E).sub p = some b → ∃ b0, (pool size f E).sub p = some b0 ∧ b = b0.ren π := fun p b h => by
 obtain ⟨i, e, rfl, _, rfl⟩ := S7 h; exact ⟨_, h, F4.symm⟩
theorem RenE.pool {size r r' : Nat} {f : α → List I} {E : List α} {π : Id → Id} : RenE π r (Ab.pool size f E) r' (Ab.pool size f E) := .any pool_fwd pool_bwd
theorem p9.pool {size r m a : Nat} {f : α → List I} {E : List α} {n : Id} {σ : b6} (hσ : σ[r]? = some (Ab.pool size f E)) : p9 (a, []) n σ m r (Ab.pool size f E) := by
 show ∀ (p : List Nat) (b : Blk), (Ab.pool size f E).sub p = some b → _
 intro p b hb
 obtain ⟨i, e, rfl, _, rfl⟩ := S7 hb
 have hm : mv (a, []) n (r, [i]) = (r, [i]) := by
  have : ((r, [i]) : Id) ≠ (a, []) := fun e => by cases e
  simp [mv, C1 this]
 rw [hm, m8 hσ, hb]
 exact ⟨D8, by rw [F4]⟩
theorem p9.poolR {size r m a q : Nat} {f : α → List I} {E : List α} {n : Id} {σ : b6} (h : Nat.beq a r = false) (hσ : σ[r]? = some (Ab.pool size f E)) : p9 (a, [q]) n σ m r (Ab.pool size f E) := by
 show ∀ (p : List Nat) (b : Blk), (Ab.pool size f E).sub p = some b → _
 intro p b hb
 obtain ⟨i, e, rfl, _, rfl⟩ := S7 hb
 have hm : mv (a, [q]) n (r, [i]) = (r, [i]) := by
  have : ((r, [i]) : Id) ≠ (a, [q]) := fun e => by cases e; simp at h
  simp [mv, C1 this]
 rw [hm, m8 hσ, hb]
 exact ⟨D8, by rw [F4]⟩
theorem EntR.pool {size r n m i j : Nat} {f : α → List I} {E : List α} {σ : b6} (hj : (mvr r n (i, [])).1 = j) (hσ : σ[j]? = some (Ab.pool size f E)) : EntR r n σ m i (Ab.pool size f E) := .any fun p b hb => by
 have e : ∀ q, mvr r n (i, q) = (j, q) := fun q => by rw [← hj]; rfl
 obtain ⟨k, e0, rfl, _, rfl⟩ := S7 hb
 rw [e, m8 hσ, hb]
 exact ⟨D8, by rw [F4]⟩
theorem FrzB.pool {size : Nat} {f : α → List I} {E : List α} {id : Id} {X : C → C → Prop} : FrzB id X (Ab.pool size f E) (Ab.pool size f E) := by
 show _ = _ ∧ _
 exact ⟨rfl, fun p b h => pool_no p b h⟩
/-! ### Rows and maps of pointers among other blocks -/
theorem i4 {r n : Nat} {l : List Int} (h : Nat.blt r n = true) : (prow r l).ok n = true := by
 simp only [prow, Blk.ok, List.all_map, List.all_eq_true]
 intro i _
 simp [C.okL, C.ok] at h ⊢
 exact h
theorem prow_no {r a : Nat} {l : List Int} : (prow r l).no (a, []) = true := by
 simp only [prow, Blk.no, List.all_map, List.all_eq_true]
 intro i _
 have : idb ((r, [i.toNat]) : Id) (a, []) = false := C1 (fun e => by cases e)
 simp [C.noL, C.no, this]
theorem prow_noR {r a p : Nat} {l : List Int} (h : Nat.beq a r = false) : (prow r l).no (a, [p]) = true := by
 simp only [prow, Blk.no, List.all_map, List.all_eq_true]
 intro i _
 have : idb ((r, [i.toNat]) : Id) (a, [p]) = false := C1 (fun e => by cases e; simp at h)
 simp [C.noL, C.no, this]
theorem f8 {r r' : Nat} {l : List Int} {π : Id → Id} (h : ∀ q, π (r, q) = (r', q)) : (prow r l).ren π = prow r' l := by
 simp [prow, Blk.ren, C.renL, C.ren, h]
theorem I2 {r : Nat} {l : List Int} {a : Nat} {n : Id} : (prow r l).ren (mv (a, []) n) = prow r l := Blk.ren_no _ prow_no
theorem prow_mvR {r a q : Nat} {l : List Int} {n : Id} (h : Nat.beq a r = false) : (prow r l).ren (mv (a, [q]) n) = prow r l := Blk.ren_no _ (prow_noR h)
theorem u6 {i n : Id} {id : Id} {b : Blk} {σ : b6} (h : σ[i]? = some (some b)) (e : b.ren (mv id n) = b) : σ[i]? = some (some (b.ren (mv id n))) := by rw [e]; exact h
theorem C9 {r n i : Nat} {b b' : Blk} {σ : b6} {j : Id} (hj : mvr r n (i, []) = j) (h : σ[j]? = some (some b')) (e : b.ren (mvr r n) = b') : σ[mvr r n (i, [])]? = some (some (b.ren (mvr r n))) := by rw [hj, e]; exact h
theorem renL_map {r r' : Nat} {K : Type} {m : List (K × Int)} {π : Id → Id} (h : ∀ q, π (r, q) = (r', q)) : C.renL π (m.map fun p => K2 r p.2) = m.map fun p => K2 r' p.2 := by
 induction m with
 | nil => rfl
 | cons p m ih =>
  have e : C.ren π (K2 r p.2) = K2 r' p.2 := by simp [K2, C.ren, h]
  simp only [List.map_cons, C.renL, ih, e]
section
variable {K : Type} {fk : K → Value} {r : Nat} {m : List (K × Int)}
theorem j5 {n : Nat} (h : Nat.blt r n = true) : (pmap r fk m).ok n = true := by
 simp only [pmap, mapCB, Blk.ok]
 rw [G5, List.all_map, List.all_eq_true]
 intro p _
 simpa [K2, C.ok] using h
theorem pmap_no {a : Nat} : (pmap r fk m).no (a, []) = true := by
 simp only [pmap, mapCB, Blk.no]
 rw [noL_eq, List.all_map, List.all_eq_true]
 intro p _
 have : idb ((r, [p.2.toNat]) : Id) (a, []) = false := C1 (fun e => by cases e)
 simp [K2, C.no, this]
theorem pmap_noR {a q : Nat} (h : Nat.beq a r = false) : (pmap r fk m).no (a, [q]) = true := by
 simp only [pmap, mapCB, Blk.no]
 rw [noL_eq, List.all_map, List.all_eq_true]
 intro p _
 have : idb ((r, [p.2.toNat]) : Id) (a, [q]) = false := C1 (fun e => by cases e; simp at h)
 simp [K2, C.no, this]
theorem k7 {r' : Nat} {π : Id → Id} (h : ∀ q, π (r, q) = (r', q)) : (pmap r fk m).ren π = pmap r' fk m := by
 simp only [pmap, mapCB, Blk.ren, renL_map h]
theorem I1 {a : Nat} {n : Id} : (pmap r fk m).ren (mv (a, []) n) = pmap r fk m := Blk.ren_no _ pmap_no
theorem pmap_mvR {a q : Nat} {n : Id} (h : Nat.beq a r = false) : (pmap r fk m).ren (mv (a, [q]) n) = pmap r fk m := Blk.ren_no _ (pmap_noR h)
end
theorem FrzB.prow {r a : Nat} {l : List Int} {X : C → C → Prop} : FrzB (a, []) X (.one (Ab.prow r l)) (.one (Ab.prow r l)) := by
 have h := prow_no (r := r) (a := a) (l := l)
 unfold FrzB
 split
 ·rename_i h1 _; cases h1
 ·rename_i k1 e k2 e' h1 h2
  simp only [Ab.prow, Ent.one.injEq, Blk.cells.injEq] at h1 h2
  obtain ⟨rfl, h1⟩ := h1
  obtain ⟨rfl, h2⟩ := h2
  have : e = e' := by rw [h1] at h2; simpa using h2
  subst this
  refine ⟨rfl, ?_⟩
  obtain ⟨i, rfl⟩ : ∃ i, l = [i] := by
   cases l with
   | nil => simp at h1
   | cons i l => cases l with
    | nil => exact ⟨i, rfl⟩
    | cons b l => simp at h1
  simp only [List.map_cons, List.map_nil, List.cons.injEq, and_true] at h1
  subst h1
  refine ⟨.inl ⟨rfl, ?_⟩, trivial⟩
  have : idb ((r, [i.toNat]) : Id) (a, []) = false := C1 (fun e => by cases e)
  simp [C.no, this]
 ·rename_i h1 h2
  cases h1; cases h2
  exact ⟨rfl, h⟩
 ·rename_i h1; cases h1
 ·rename_i h1 h2 h3 h4
  first | exact (h3 _ _ rfl rfl).elim | exact (h4 _ _ rfl rfl).elim | exact (h2 _ _ rfl rfl).elim
end
section
variable {P : Program} {σ0 : b6} {sz : Nat} {Q : Post} {env env' : Env} {σv σ' : b6} {ops : Array Oper} {rest : List Oper} {dst : Option Nat} {ty : TypeId} {pos : String} {after : Array Edge}
/-! ### Rows of pointers -/
theorem S.loadP {x : Operand} {t : TypeId} {d : TypeDesc} {h r : Nat} {i a : Int} {l : List Int} [ht : TyD P t d] (he : ix l i = some a) (ha : y5 d = false) (hx : ev env x = some (.c (.ptr (h, []) i.toNat 0))) (hσ : σv[((h, []) : Id)]? = some (some (prow r l))) (hd : e6 sz dst = true)
  (hh : AOps P σ0 sz ops Q rest (St.mk (putE env dst (.c (.ptr (r, [a.toNat]) 0 0))) σv)) : AOps P σ0 sz ops Q (⟨dst, .load t x, ty, pos, after, none⟩ :: rest) (St.mk env σv) :=
 .E (e := [.ptr (r, [a.toNat]) 0 0]) ha hx hσ (by rw [List.getElem?_map, (E0 he).2]; rfl) rfl hd hh
theorem S.storeP {x y : Operand} {t : TypeId} {bytes h r : Nat} {z : Value} {i : Nat} {a : Int} {l : List Int} [hs : TyS P t 1 bytes z] (hi : i < l.length) (hx : ev env x = some (.c (.ptr (h, []) i 0))) (hy : ev env y = some (.c (.ptr (r, [a.toNat]) 0 0)))
  (hσ : σv[((h, []) : Id)]? = some (some (prow r l))) (hσ' : putF σv (h, []) (some (prow r (l.set i a))) = some σ') (hh : AOps P σ0 sz ops Q rest (St.mk env σ')) : AOps P σ0 sz ops Q (⟨none, .store t x y, ty, pos, after, none⟩ :: rest) (St.mk env σv) := by
 have h2 := w3 hσ'
 subst h2
 refine AOps.store hx hy hσ (by rw [List.getElem?_map, List.getElem?_eq_getElem hi]; rfl) (by simp) ?_
 have e : (l.map fun i => [C.ptr (r, [i.toNat]) 0 0]).set i [.ptr (r, [a.toNat]) 0 0] = (l.set i a).map fun i => [C.ptr (r, [i.toNat]) 0 0] := by rw [List.map_set]
 simp only [List.set_cons_zero]
 rw [e]
 exact hh
theorem S.appendP {x y : Operand} {t e : TypeId} {bytes m k h s r : Nat} {n : Id} {z : Value} {l new l' : List Int} {σ1 : b6} [ht : TyD P t (.slice e)] [hs : TyS P e 1 bytes z]
  (ha : app bytes l new = some l') (hzk : (z.cells.size == 1) = true) (hbp : Nat.blt 0 bytes = true) (hx : ev env x = some (.c (.own (h, []) 0 m))) (hm : m = l.length) (hσ : σv[((h, []) : Id)]? = some (some (prow r l)))
  (hy : ev env y = some (.c (.own (s, []) 0 k))) (hk : k = new.length) (hs' : σv[((s, []) : Id)]? = some (some (prow r new))) (hn : newF σv = some n) (h1 : putF σv (h, []) none = some σ1) (hσ' : o6 σ1 (.one (prow r l')) = some σ') (hd : e6 sz dst = true)
  (hh : AOps P σ0 sz ops Q rest (St.mk (putE env dst (.c (.own n 0 l'.length))) σ')) : AOps P σ0 sz ops Q (⟨dst, .call ⟨.builtin .append, #[x, y], #[t, t]⟩, ty, pos, after, none⟩ :: rest) (St.mk env σv) := by
 obtain ⟨hb, rfl⟩ := af5 ha
 have h2 := w3 h1
 have h3 := v8 hn; have h4 := n5 hσ'
 subst hm hk h2 h3 h4
 have hsrc := Src.own (σ := σv) (j := 0) (n := new.length) hs'
 refine AOps.append hzk hbp hx hσ hy hsrc ?_ hd ?_
 ·rw [List.drop_zero, List.take_of_length_le (by simp)]; simpa using hb
 ·have e1 : (((l.map fun i => [C.ptr (r, [i.toNat]) 0 0]).drop 0).take l.length) ++ (((new.map fun i => [C.ptr (r, [i.toNat]) 0 0]).drop 0).take new.length) = (l ++ new).map fun i => [C.ptr (r, [i.toNat]) 0 0] := by
   rw [List.drop_zero, List.drop_zero, List.take_of_length_le (by simp), List.take_of_length_le (by simp)]; simp
  have e2 : l.length + ((((new.map fun i => [C.ptr (r, [i.toNat]) 0 0]).drop 0).take new.length)).length = (l ++ new).length := by simp
  rw [e1, e2]
  exact hh
theorem S.shrinkP {x y : Operand} {t e : TypeId} {bytes n h r : Nat} {z : Value} {kk : IntKind} {hi : Int} {l l' : List Int} [ht : TyD P t (.slice e)] [hs : TyS P e 1 bytes z]
  (hl : subL l 0 hi = some l') (hx : ev env x = some (.c (.own (h, []) 0 n))) (hn : n = l.length) (hσ : σv[((h, []) : Id)]? = some (some (prow r l))) (hy : ev env y = some (.c (.imm (.val (.int kk hi))))) (hd : e6 sz dst = true)
  (hh : AOps P σ0 sz ops Q rest (St.mk (putE env dst (.c (.own (h, []) 0 l'.length))) σv)) : AOps P σ0 sz ops Q (⟨dst, .slice t x none (some y) none, ty, pos, after, none⟩ :: rest) (St.mk env σv) := by
 unfold subL at hl
 split at hl
 ·rename_i hc
  cases hl
  have e1 : hi = ((hi.toNat : Nat) : Int) := by omega
  rw [e1] at hy
  refine AOps.sliceOwnTo hx hσ hy (by omega) hd ?_
  rw [show (List.drop (Int.toNat 0) (List.take hi.toNat l)).length = hi.toNat by simp; omega] at hh
  exact hh
 ·cases hl
/-! ### Entries -/
theorem setF_at {σ σ' : b6} {n : Nat} {e e' : Ent} (h : σ[n]? = some e) (h' : setF σ n e' = some σ') (i : Id) : σ'[i]? = if i.1 = n then some (e'.sub i.2) else σ[i]? := by
 obtain ⟨rfl, _⟩ := H9 h'
 exact set_ent h i
theorem S.storeE {α : Type} {size bytes o r : Nat} {f : α → List I} {E : List α} {i : Int} {e e' : α} {c : I} {x y : Operand} {t : TypeId} {z : Value} [hs : TyS P t 1 bytes z] (he : ix E i = some e) (hl : Nat.blt o (f e).length = true) (hf : (f e).set o c = f e') (hx : ev env x = some (.c (.ptr (r, [i.toNat]) 0 o))) (hy : ev env y = some (.c (.imm c)))
  (hσ : σv[r]? = some (pool size f E)) (hσ' : setF σv r (pool size f (E.set i.toNat e')) = some σ') (hh : AOps P σ0 sz ops Q rest (St.mk env σ')) : AOps P σ0 sz ops Q (⟨none, .store t x y, ty, pos, after, none⟩ :: rest) (St.mk env σv) := by
 have hlt := e9 he
 have hlo : o < ((f e).map C.imm).length := by rw [List.length_map]; exact Nat.le_of_ble_eq_true hl
 refine AOps.store hx hy (n7 hσ he) rfl hlo ?_
 have e1 : ([(f e).map C.imm].set 0 (((f e).map C.imm).set o (.imm c))) = [(f e').map C.imm] := by
  rw [← hf, List.map_set]; rfl
 rw [e1]
 have h2 := (H9 hσ').1
 refine AOps.sub (Sub.same (by rw [h2]; simp) fun j => ?_) hh
 rw [setF_at hσ hσ']
 have hb : σv[((r, [i.toNat]) : Id)]? = some (some (.cells size [(f e).map .imm])) := n7 hσ he
 by_cases hj : j = (r, [i.toNat])
 ·subst hj
  rw [b6.get_put_eq hb, if_pos rfl, al2 (e := e') (by simp [hlt])]
  rfl
 ·rw [b6.get_put_ne hj]
  by_cases hr : j.1 = r
  ·obtain ⟨j1, q⟩ := j
   simp only at hr
   subst hr
   rw [if_pos rfl, m8 hσ]
   congr 1
   cases q with
   | nil => rfl
   | cons a q =>
    simp only [pool, Ent.sub, List.getElem?_map, List.getElem?_set]
    by_cases ha : i.toNat = a
    ·subst ha
     cases q with
     | nil => exact absurd rfl hj
     | cons b q =>
      rw [if_pos rfl, if_pos hlt, (E0 he).2]
      rfl
    ·rw [if_neg ha]
  ·rw [if_neg hr]
def chkH (n : Nat) (l : List Int) : Option Unit := if ∀ i ∈ l, i.toNat < n then some () else none
theorem chkH_get {n : Nat} {l : List Int} {u : Unit} (h : chkH n l = some u) : ∀ i ∈ l, i.toNat < n := by
 unfold chkH at h
 split at h
 ·assumption
 ·cases h
theorem p9.adopt {α : Type} {size r m n : Nat} {f : α → List I} {E : List α} {e : α} {σ : b6} (hσ : σ[r]? = some (Ab.pool size f E)) (hn : σ[((n, []) : Id)]? = some (some (vec size f [e]))) : p9 (r, [E.length]) (n, []) σ m r (Ab.pool size f (E ++ [e])) := by
 show ∀ (p : List Nat) (b : Blk), (Ab.pool size f (E ++ [e])).sub p = some b → _
 intro p b hb
 obtain ⟨i, e0, rfl, hi, rfl⟩ := S7 hb
 refine ⟨D8, ?_⟩
 rw [F4]
 rw [List.getElem?_append] at hi
 split at hi
 ·rename_i hlt
  have hm : mv (r, [E.length]) (n, []) (r, [i]) = (r, [i]) := by
   have : ((r, [i]) : Id) ≠ (r, [E.length]) := fun e => by cases e; omega
   simp [mv, C1 this]
  rw [hm, m8 hσ, al2 hi]
 ·rename_i hge
  have hi0 : i = E.length := by
   have := (List.getElem?_eq_some_iff.1 hi).1
   simp at this; omega
  subst hi0
  simp at hi
  subst hi
  have hm : mv (r, [E.length]) (n, []) (r, [E.length]) = (n, []) := by simp [mv, G0.2 rfl]
  rw [hm, hn]
theorem prow_adopt {r k : Nat} {l : List Int} {n : Id} {u : Unit} (h : chkH k l = some u) : (prow r l).ren (mv (r, [k]) n) = prow r l := by
 refine Blk.ren_no _ ?_
 simp only [prow, Blk.no, List.all_map, List.all_eq_true]
 intro i hi
 have := chkH_get h i hi
 have : idb ((r, [i.toNat]) : Id) (r, [k]) = false := C1 (fun e => by cases e; omega)
 simp [C.noL, C.no, this]
theorem pmap_adopt {K : Type} {fk : K → Value} {r k : Nat} {m : List (K × Int)} {n : Id} {u : Unit} (h : chkH k (m.map (·.2)) = some u) : (pmap r fk m).ren (mv (r, [k]) n) = pmap r fk m := by
 refine Blk.ren_no _ ?_
 simp only [pmap, mapCB, Blk.no]
 rw [noL_eq, List.all_map, List.all_eq_true]
 intro p hp
 have := chkH_get h p.2 (List.mem_map.2 ⟨p, hp, rfl⟩)
 have : idb ((r, [p.2.toNat]) : Id) (r, [k]) = false := C1 (fun e => by cases e; omega)
 simp [K2, C.no, this]
theorem ptr_adopt {r n : Nat} {k : Nat} : some (T.c (.ptr (n, []) 0 0)) = some (T.ren (mv (r, [k]) (n, [])) (.c (.ptr (r, [((k : Int)).toNat]) 0 0))) := by
 simp [T.ren, C.ren, mv, G0.2 rfl]
theorem Y0 {i id n : Id} {b : Blk} {σ : b6} (h : σ[i]? = some (some b)) (e : b.ren (mv id n) = b) (hm : mv id n i = i) : σ[mv id n i]? = some (some (b.ren (mv id n))) := by rw [hm, e]; exact h
theorem ab9 {r k a : Nat} {n : Id} : mv (r, [k]) n (a, []) = (a, []) := by
 have : ((a, []) : Id) ≠ (r, [k]) := fun e => by cases e
 simp [mv, C1 this]
theorem Sub.newPool {α : Type} {size : Nat} {f : α → List I} (hσ : o6 σv (pool size f ([] : List α)) = some σ') : Sub σ0 ⟨env, σv⟩ ⟨env, σ'⟩ := by
 have h := n5 hσ
 subst h
 intro Γ sz φ a w hΓ hR
 have hV := hR.toRs.virt 1
 have hK := hV.2.kill (σv.length, [])
 refine (Sub.same (σ0 := σ0) (env := env) (σ1 := b6.put (σv ++ [Ent.one (Blk.cells 1 [])]) (σv.length, []) none) (by simp) fun i => ?_) Γ sz _ a w hΓ ((hR.of hV.1 hV.2).of hK.1 hK.2)
 by_cases hi : i = (σv.length, [])
 ·subst hi
  have e0 : (σv ++ [Ent.one (Blk.cells 1 [])])[((σv.length, []) : Id)]? = some (some (Blk.cells 1 [])) := by
   rw [b6.get_right (by simp)]; simp [b6.at_eq, b6.at, Ent.sub]
  rw [b6.get_put_eq e0, b6.get_right (by simp)]
  simp [b6.at_eq, b6.at, pool, Ent.sub]
 ·rw [b6.get_put_ne hi]
  rcases Nat.lt_or_ge i.1 σv.length with hl | hl
  ·rw [b6.get_left hl, b6.get_left hl]
  ·rw [b6.get_right hl, b6.get_right hl]
   obtain ⟨i1, q⟩ := i
   rw [b6.at_eq, b6.at_eq]
   simp only [b6.at]
   cases hk : i1 - σv.length with
   | zero =>
    cases q with
    | nil => exact absurd (by simp at hl; congr 1; omega) hi
    | cons a q => simp [pool, Ent.sub]
   | succ m => rfl
/-! ### Maps of pointers -/
section
variable {K : Type} [DecidableEq K] {V : Type} {fk : K → Value} {d : TypeDesc}
def mdel : List (K × V) → K → List (K × V)
 | [], _ => []
 | p :: r, k => if k = p.1 then r else p :: mdel r k
theorem ai2 (hk : KeyT d fk) (k : K) : ∀ (m : List (K × V)) (l : List MapEntry) (i : Nat), l.map (·.key) = (m.map (·.1)).map fk →
  (mget m k = none ∧ Instr.findNow d (fk k) l i = some none ∧ (∀ v, mset m k v = m ++ [(k, v)]) ∧ mdel m k = m) ∨
  ∃ j p e, m[j]? = some p ∧ mget m k = some p.2 ∧ l[j]? = some e ∧ e.key = fk k ∧ Instr.findNow d (fk k) l i = some (some (i + j, e.val)) ∧ (∀ v, mset m k v = m.set j (k, v)) ∧ mdel m k = m.eraseIdx j
 | [], [], i, _ => .inl ⟨rfl, rfl, fun v => rfl, rfl⟩
 | [], _ :: _, i, h => by simp at h
 | _ :: _, [], i, h => by simp at h
 | p :: m, e :: l, i, h => by
  simp only [List.map_cons, List.cons.injEq] at h
  obtain ⟨h1, h3⟩ := h
  obtain ⟨r, hr, hiff⟩ : ∃ r, Instr.sameNow d (fk k) e.key = some r ∧ (r = true ↔ fk k = e.key) := Go.MapKept.sameNow_of_keys (hk.key k) (by rw [h1]; exact hk.key p.1)
  by_cases c : k = p.1
  ·have : r = true := hiff.2 (by rw [h1, c])
   subst this
   exact .inr ⟨0, p, e, rfl, by simp [mget, c], rfl, by rw [h1, c], by simp [Instr.findNow, hr], fun v => by simp [mset, c], by simp [mdel, c]⟩
  ·have : r = false := by
    cases r with
    | false => rfl
    | true => exact absurd (hk.inj ((hiff.1 rfl).trans h1)) c
   subst this
   rcases ai2 hk k m l (i + 1) h3 with ⟨g1, g2, g3, g4⟩ | ⟨j, p', e', g1, g2, g3, g4, g5, g6, g7⟩
   ·exact .inl ⟨by simp [mget, c, g1], by simp [Instr.findNow, hr, g2], fun v => by simp [mset, c, g3], by simp [mdel, c, g4]⟩
   ·exact .inr ⟨j + 1, p', e', by simpa using g1, by simp [mget, c, g2], by simpa using g3, g4, by simp [Instr.findNow, hr, g5]; omega, fun v => by simp [mset, c, g6], by simp [mdel, c, g7]⟩
theorem af9 {w : World} {φ : Phi} {σ : b6} {A : Nat → Prop} {id : Id} {p : Obj → List Value → Prop} {cs : List C} {u : Value} (h : RelT w φ σ A (.c (.map id)) u) (hσ : σ[id]? = some (some (.obj p cs))) : ∃ b base, φ id = some (b, base) ∧ u = .map (some b) := by
 cases h with | c h => cases h with | map hid h1 h => exact h _ _ hσ
theorem W.makeMapP {t : TypeId} {id : Id} (r : Nat) (fk : K → Value) (hid : newF σv = some id) (hσ : o6 σv (.one (pmap r fk ([] : List (K × Int)))) = some σ') (hd : e6 sz dst = true)
  (h : AOps P σ0 sz ops Q rest (St.mk (putE env dst (.c (.map id))) σ')) : AOps P σ0 sz ops Q (⟨dst, .makeMap t none, ty, pos, after, none⟩ :: rest) (St.mk env σv) := by
 have h2 := v8 hid; have h3 := n5 hσ
 subst h2 h3
 refine .valueW rfl hd _ _ (fun Γ φ a w hR => ?_) h
 have hA := Rs.allocB (p0 := L8 fk []) (cs0 := []) (us0 := []) (obj := .map #[] 0) hR.toRs ⟨#[], 0, rfl, rfl, rfl⟩ (fun i x hx => by simp at hx)
 exact ⟨.map (some w.heap.size), w.alloc (.map #[] 0), _, by simp [execOp, Instr.makeMap], .c (.map (by simp) rfl fun p cs hp => ⟨w.heap.size, 0, by simp [l9], rfl⟩), hR.of hA.1 hA.2⟩
theorem S.lookupOkP {x y : Operand} {t kt vt : TypeId} {id : Id} {r : Nat} {m : List (K × Int)} {k : K} {size bytes : Nat} {zv : Value} [ht : TyD P t (.map kt vt)] [hkt : TyD P kt d] [hs : TyS P vt size bytes zv] (hk : KeyT d fk) (hz : zv = .pointer none)
  (hx : ev env x = some (.c (.map id))) (hy : ev env y = some (.c (.imm (.val (fk k))))) (hσ : σv[id]? = some (some (pmap r fk m))) (hd : e6 sz dst = true)
  (h : AOps P σ0 sz ops Q rest (St.mk (putE env dst (.tup [.c (ptrO r (mget m k)), .c (bool (mget m k).isSome)])) σv)) : AOps P σ0 sz ops Q (⟨dst, .lookup t x y true, ty, pos, after, none⟩ :: rest) (St.mk env σv) := by
 refine .valueW rfl hd _ _ (fun Γ φ a w hR => ?_) h
 obtain ⟨b, base, hp, hv⟩ := af9 (f9 hR hx) hσ
 obtain ⟨hv2, _⟩ := B4 (f9 hR hy)
 obtain ⟨b', o, us, g1, g2, ⟨es, c, rfl, g3, g4⟩, g5⟩ := hR.st.blk _ _ hσ
 rw [hp] at g1; cases g1
 rcases ai2 hk k m es.toList 0 g3 with ⟨q1, q2, _⟩ | ⟨j, p, e, q0, q1, q3, q4, q2, _⟩
 ·refine ⟨.tuple #[.pointer none, .bool false], w, φ, ?_, RelT.tup' (vs := [.pointer none, .bool false]) rfl (fun i t u hi hu => ?_), hR⟩
  ·simp [execOp, hv, hv2, Instr.lookup, run_underlying ht.h, Go.MapKept.run_getObj_map g2, Go.MapKept.run_checkKey hkt.h (hk.key k), Go.MapKept.run_findKey hkt.h q2, G3 (t := vt), hz, Result.andThen]
  ·match i with
   | 0 => cases hi; cases hu; rw [q1]; exact .c (.imm (.val rfl))
   | 1 => cases hi; cases hu; rw [q1]; exact .bool _
   | i + 2 => simp at hi
 ·obtain ⟨u, hu, hru⟩ := g5 j (K2 r p.2) (by rw [List.getElem?_map, q0]; rfl)
  have hue : u = e.val := by
   rw [← g4, List.getElem?_map, q3] at hu
   simpa using hu.symm
  subst hue
  refine ⟨.tuple #[e.val, .bool true], w, φ, ?_, RelT.tup' (vs := [e.val, .bool true]) rfl (fun i t u hi hu => ?_), hR⟩
  ·simp [execOp, hv, hv2, Instr.lookup, run_underlying ht.h, Go.MapKept.run_getObj_map g2, Go.MapKept.run_checkKey hkt.h (hk.key k), Go.MapKept.run_findKey hkt.h q2, Result.andThen]
  ·match i with
   | 0 => cases hi; cases hu; rw [q1]; exact .c hru
   | 1 => cases hi; cases hu; rw [q1]; exact .bool _
   | i + 2 => simp at hi
theorem S.mapUpdateP {x y v : Operand} {t kt vt : TypeId} {id : Id} {r : Nat} {m : List (K × Int)} {k : K} {a : Int} [ht : TyD P t (.map kt vt)] [hkt : TyD P kt d] (hk : KeyT d fk)
  (hx : ev env x = some (.c (.map id))) (hy : ev env y = some (.c (.imm (.val (fk k))))) (hv : ev env v = some (.c (.ptr (r, [a.toNat]) 0 0))) (hσ : σv[id]? = some (some (pmap r fk m))) (hσ' : putF σv id (some (pmap r fk (mset m k a))) = some σ')
  (h : AOps P σ0 sz ops Q rest (St.mk env σ')) : AOps P σ0 sz ops Q (⟨none, .mapUpdate t x y v, ty, pos, after, none⟩ :: rest) (St.mk env σv) := by
 have h2 := w3 hσ'
 subst h2
 refine .skipW rfl rfl _ (fun Γ φ ac w hR => ?_) h
 obtain ⟨b, base, hp, e1⟩ := af9 (f9 hR hx) hσ
 obtain ⟨e2, _⟩ := B4 (f9 hR hy)
 have hrv := f9 hR hv
 generalize e3 : ac.eval v = u at hrv
 have hru : RelC w φ σv (Al Γ.N φ σv) (K2 r a) u := by cases hrv with | c h => exact h
 obtain ⟨b', o, us, g1, g2, ⟨es, c, rfl, g3, g4⟩, g5⟩ := hR.st.blk _ _ hσ
 rw [hp] at g1; cases g1
 rcases ai2 hk k m es.toList 0 g3 with ⟨q1, q2, q3, _⟩ | ⟨j, p, e, q0, q1, q3, q4, q2, q5, _⟩
 ·have hW := Rs.writeB (q1 := L8 fk ((mset m k a).map (·.1))) (cs1 := (mset m k a).map fun p => K2 r p.2) (us1 := us ++ [u]) (o1 := .map (es.push { key := fk k, val := u, born := c }) (c + 1)) hR.toRs hσ hp g2
   ⟨_, _, rfl, by rw [q3]; simp [g3], by simp [g4]⟩ (fun i x hx => by
    rw [q3, List.map_append, List.getElem?_append] at hx
    split at hx
    ·obtain ⟨u', h1, h2⟩ := g5 i x hx
     exact ⟨u', by rw [List.getElem?_append_left (List.getElem?_eq_some_iff.1 h1).1]; exact h1, h2⟩
    ·rename_i hge
     have hl : us.length = m.length := by rw [← g4]; have := congrArg List.length g3; simpa using this
     simp only [List.length_map] at hx hge
     have h0 : i = m.length := by
      have := (List.getElem?_eq_some_iff.1 hx).1
      simp at this; omega
     subst h0
     simp at hx
     subst hx
     exact ⟨u, by rw [← hl]; simp, hru⟩)
  refine ⟨_, φ, ?_, hR.of hW.1 hW.2⟩
  simp [execOp, e1, e2, e3, Instr.mapUpdate, run_underlying ht.h, Go.MapKept.run_getObj_map g2, Go.MapKept.run_checkKey hkt.h (hk.key k), Go.MapKept.run_findKey hkt.h q2, Go.MapKept.run_setObj_map _ g2, Result.andThen]
 ·have hj : es[j]? = some e := by simpa using q3
  have hW := Rs.writeB (q1 := L8 fk ((mset m k a).map (·.1))) (cs1 := (mset m k a).map fun p => K2 r p.2) (us1 := us.set j u) (o1 := .map (es.modify j fun e => { e with key := fk k, val := u }) c) hR.toRs hσ hp g2
   ⟨_, _, rfl, by
    rw [q5, Array.toList_modify]
    apply List.ext_getElem?
    intro i
    have hg := congrArg (fun l => l[i]?) g3
    simp only [List.getElem?_map, List.getElem?_modify, List.getElem?_set] at hg ⊢
    by_cases hi : j = i
    ·subst hi
     have hlt := (List.getElem?_eq_some_iff.1 q0).1
     simp [q3, hlt]
    ·simpa [hi] using hg, by
    rw [Array.toList_modify]
    apply List.ext_getElem?
    intro i
    have hg := congrArg (fun l => l[i]?) g4
    simp only [List.getElem?_map, List.getElem?_modify, List.getElem?_set] at hg ⊢
    by_cases hi : j = i
    ·subst hi
     have hlt : j < us.length := by rw [← g4]; simpa using (List.getElem?_eq_some_iff.1 q3).1
     simp [q3, hlt]
    ·simpa [hi] using hg⟩ (fun i x hx => by
    rw [q5, List.getElem?_map, List.getElem?_set] at hx
    by_cases hi : j = i
    ·subst hi
     have hlt := (List.getElem?_eq_some_iff.1 q0).1
     have hlu : j < us.length := by rw [← g4]; simpa using (List.getElem?_eq_some_iff.1 q3).1
     simp [hlt] at hx
     subst hx
     exact ⟨u, by simp [hlu], hru⟩
    ·rw [if_neg hi, ← List.getElem?_map] at hx
     obtain ⟨u', h1, h2⟩ := g5 i x hx
     exact ⟨u', by rw [List.getElem?_set, if_neg hi]; exact h1, h2⟩)
  refine ⟨_, φ, ?_, hR.of hW.1 hW.2⟩
  simp [execOp, e1, e2, e3, Instr.mapUpdate, run_underlying ht.h, Go.MapKept.run_getObj_map g2, Go.MapKept.run_checkKey hkt.h (hk.key k), Go.MapKept.run_findKey hkt.h q2, hj, q4, Go.MapKept.run_keyThatStays (hk.key k), Go.MapKept.run_setObj_map _ g2, Result.andThen]
theorem X5 {A B : Type} (f : A → B) : ∀ (l : List A) (j : Nat), (l.map f).eraseIdx j = (l.eraseIdx j).map f
 | [], _ => rfl
 | _ :: _, 0 => rfl
 | a :: l, j + 1 => by simp [X5 f l j]
theorem erase_rel {es : Array MapEntry} {us : List Value} {m : List (K × Int)} {r j : Nat} (g3 : es.toList.map (·.key) = (m.map (·.1)).map fk) (g4 : es.toList.map (·.val) = us) :
  (es.eraseIdxIfInBounds j).toList.map (·.key) = ((m.eraseIdx j).map (·.1)).map fk ∧ (es.eraseIdxIfInBounds j).toList.map (·.val) = us.eraseIdx j := by
 have e0 : (es.eraseIdxIfInBounds j).toList = es.toList.eraseIdx j := by
  unfold Array.eraseIdxIfInBounds
  split
  ·rw [Array.toList_eraseIdx]
  ·rename_i h
   rw [List.eraseIdx_of_length_le (by simpa using h)]
 rw [e0]
 exact ⟨by rw [← X5, g3, ← X5, ← X5], by rw [← X5, g4]⟩
theorem S.deleteP {x y : Operand} {t kt kt' vt : TypeId} {id : Id} {r : Nat} {m : List (K × Int)} {k : K} [ht : TyD P t (.map kt vt)] [hkt : TyD P kt d] (hk : KeyT d fk)
  (hx : ev env x = some (.c (.map id))) (hy : ev env y = some (.c (.imm (.val (fk k))))) (hσ : σv[id]? = some (some (pmap r fk m))) (hd : e6 sz dst = true) (hσ' : putF σv id (some (pmap r fk (mdel m k))) = some σ')
  (h : AOps P σ0 sz ops Q rest (St.mk (putE env dst (.tup [])) σ')) : AOps P σ0 sz ops Q (⟨dst, .call ⟨.builtin .delete, #[x, y], #[t, kt']⟩, ty, pos, after, none⟩ :: rest) (St.mk env σv) := by
 have h2 := w3 hσ'
 subst h2
 refine .valueW rfl hd (.tup []) _ (fun Γ φ ac w hR => ?_) h
 obtain ⟨b, base, hp, e1⟩ := af9 (f9 hR hx) hσ
 obtain ⟨e2, _⟩ := B4 (f9 hR hy)
 obtain ⟨b', o, us, g1, g2, ⟨es, c, rfl, g3, g4⟩, g5⟩ := hR.st.blk _ _ hσ
 rw [hp] at g1; cases g1
 have hnil : ∀ w φ σ A, RelT w φ σ A (.tup []) (.tuple #[]) := fun w φ σ A => RelT.tup' (vs := []) rfl (fun i t u hi => by simp at hi)
 rcases ai2 hk k m es.toList 0 g3 with ⟨q1, q2, _, q6⟩ | ⟨j, p, e, q0, q1, q3, q4, q2, _, q6⟩
 ·have hW := Rs.writeB (q1 := L8 fk ((mdel m k).map (·.1))) (cs1 := (mdel m k).map fun p => K2 r p.2) (us1 := us) (o1 := .map es c) hR.toRs hσ hp g2 ⟨_, _, rfl, by rw [q6]; exact g3, g4⟩ (fun i x hx => by rw [q6] at hx; exact g5 i x hx)
  refine ⟨.tuple #[], _, φ, ?_, hnil _ _ _ _, hR.of hW.1 hW.2⟩
  simp [execOp, resolve, invoke, builtin, e1, e2, Builtin.delete_, run_underlying ht.h, Go.MapKept.run_getObj_map g2, Go.MapKept.run_checkKey hkt.h (hk.key k), Go.MapKept.run_findKey hkt.h q2, Go.MapKept.run_setObj_map _ g2, Result.andThen]
 ·have he := erase_rel (r := r) (j := j) g3 g4
  have hW := Rs.writeB (q1 := L8 fk ((mdel m k).map (·.1))) (cs1 := (mdel m k).map fun p => K2 r p.2) (us1 := us.eraseIdx j) (o1 := .map (es.eraseIdxIfInBounds j) c) hR.toRs hσ hp g2 ⟨_, _, rfl, by rw [q6]; exact he.1, he.2⟩ (fun i x hx => by
   rw [q6, ← X5, List.getElem?_eraseIdx] at hx
   rw [List.getElem?_eraseIdx]
   split at hx
   ·rename_i hlt
    obtain ⟨u, h1, h2⟩ := g5 i x hx
    exact ⟨u, by rw [if_pos hlt]; exact h1, h2⟩
   ·rename_i hge
    obtain ⟨u, h1, h2⟩ := g5 (i + 1) x hx
    exact ⟨u, by rw [if_neg hge]; exact h1, h2⟩)
  refine ⟨.tuple #[], _, φ, ?_, hnil _ _ _ _, hR.of hW.1 hW.2⟩
  simp [execOp, resolve, invoke, builtin, e1, e2, Builtin.delete_, run_underlying ht.h, Go.MapKept.run_getObj_map g2, Go.MapKept.run_checkKey hkt.h (hk.key k), Go.MapKept.run_findKey hkt.h q2, Go.MapKept.run_setObj_map _ g2, Result.andThen]
end
/-! ### A view becomes a row of its own -/
theorem Sub.reownC {id : Id} {k j n : Nat} {es : List (List C)} {n' : Id} {σ1 : b6} (t : Nat) (hx : lookup t env = some (.c (.own id j n))) (hσ : σv[id]? = some (some (.cells k es))) (hjl : j + n ≤ es.length) (h0 : Nat.ble σ0.length id.1 = true) (hid : newF σv = some n')
  (h1 : putF σv id none = some σ1) (hσ' : o6 σ1 (.one (.cells k ((es.drop j).take n))) = some σ') (henv : ReE env t (.own n' 0 n) env') : Sub σ0 ⟨env, σv⟩ ⟨env', σ'⟩ := fun Γ sz φ a w hΓ hR => by
 have h2 := w3 h1
 have h3 := v8 hid; have h4 := n5 hσ'
 have hvl : ((es.drop j).take n).length = n := by rw [List.length_take, List.length_drop]; omega
 subst h2 h3 h4
 generalize hes : (es.drop j).take n = es' at *
 have at_new : (σv.put id none ++ [Ent.one (.cells k es')])[((σv.length, []) : Id)]? = some (some (.cells k es')) := by
  rw [b6.get_right (by simp)]; simp [b6.at_eq, b6.at, Ent.sub]
 obtain ⟨u0, hu0, hrel⟩ := hR.env t _ hx
 have ho := D0 hrel hσ
 have fin : ∀ (φ' : Phi) (hk : Kept w w φ φ' σv (σv.put id none ++ [.one (.cells k es')]) (Al Γ.N φ σv) (Al Γ.N φ' (σv.put id none ++ [.one (.cells k es')]))) (hs : Rs Γ (σv.put id none ++ [.one (.cells k es')]) φ' w) (hview : N4 w (φ' (σv.length, [])) k es'.length 0 n u0),
   R Γ sz ⟨env', σv.put id none ++ [.one (.cells k es')]⟩ φ' a w := fun φ' hk hs hview => by
  have hR1 := hR.of hk hs
  refine { toRs := hs, defers := hR1.defers, asize := hR.asize, env := fun t' v' ht' => ?_ }
  rcases henv.get t' v' ht' with ⟨rfl, rfl⟩ | h
  ·refine ⟨u0, hu0, .c (.own (by simp) (by cases hrel with | c g2 => exact g2.one) fun k' es2 he => ?_)⟩
   rw [at_new] at he
   cases he
   exact hview
  ·obtain ⟨u1, g1, g2⟩ := hR1.env t' v' h
   exact ⟨u1, g1, g2⟩
 rcases ho with ⟨p1, p2, p3, p4⟩ | ⟨b, base, cap, arr, ety, ad, hp, hvv, had, hcap, hmax, hjn, hbk, hsz⟩
 ·have hnil : es' = [] := List.eq_nil_of_length_eq_zero (by rw [hvl, p4])
  subst hnil
  have hK := hR.toRs.kill id
  have hV := hK.2.virt k
  rw [b6.length_put] at hV
  refine ⟨fun i => if i = (σv.length, []) then none else φ i, ?_⟩
  exact fin _ (Kept.trans (Nat.le_refl _) hK.1 hV.1) hV.2 (.inl ⟨by simp, p2, rfl, p4⟩)
 ·obtain ⟨arr2, ety2, q1, q2, q3, q4⟩ := D1 hR hσ hp
  rw [hbk] at q1; cases q1
  have hO := Rs.reown (k := k) (base' := base + j * k) (es' := es') (arr' := arr) hR.toRs hσ hp hbk (fun i e he => by
    rw [← hes, List.getElem?_take] at he
    split at he
    ·rw [List.getElem?_drop] at he
     exact q3 _ e he
    ·cases he) (by
    rw [hvl]
    have : (j + cap) * k = j * k + cap * k := Nat.add_mul ..
    have : n * k ≤ cap * k := Nat.mul_le_mul_right k hcap
    omega) (fun i e o x he hx => by
    rw [← hes, List.getElem?_take] at he
    split at he
    ·rw [List.getElem?_drop] at he
     obtain ⟨u2, g1, g2⟩ := q4 _ e o x he hx
     refine ⟨u2, ?_, g2⟩
     rw [← g1, Nat.add_mul]
     congr 1; omega
    ·cases he)
  rw [Go.setRow_self w b arr ety (0, 0) hbk] at hO
  refine ⟨fun i => if i = (σv.length, []) then some (b, base + j * k) else φ i, ?_⟩
  refine fin _ hO.1 hO.2 (.inr ⟨b, base + j * k, cap, arr, ety, ad, by simp, hvv, fun hc => ?_, hcap, hmax, by omega, hbk, ?_⟩)
  ·rw [had hc, Nat.zero_mul, Nat.add_zero]
  ·have : (j + cap) * k = j * k + cap * k := Nat.add_mul ..
   rw [Nat.zero_add]; omega
theorem Sub.reownP {h r m : Nat} {l l' : List Int} {n' : Id} {σ1 : b6} {hi : Int} (t : Nat) (hl : subL l 0 hi = some l') (hx : lookup t env = some (.c (.own (h, []) 0 m))) (hm : m = l'.length) (hσ : σv[((h, []) : Id)]? = some (some (prow r l))) (h0 : Nat.ble σ0.length h = true) (hid : newF σv = some n')
  (h1 : putF σv (h, []) none = some σ1) (hσ' : o6 σ1 (.one (prow r l')) = some σ') (henv : ReE env t (.own n' 0 m) env') : Sub σ0 ⟨env, σv⟩ ⟨env', σ'⟩ := by
 have hll : l'.length ≤ l.length ∧ l' = l.take l'.length := by
  unfold subL at hl
  split at hl
  ·cases hl
   refine ⟨by simp; omega, ?_⟩
   simp
  ·cases hl
 have e : (prow r l') = .cells 1 (((l.map fun i => [C.ptr (r, [i.toNat]) 0 0]).drop 0).take m) := by
  rw [List.drop_zero, ← List.map_take, hm, ← hll.2]; rfl
 rw [e] at hσ'
 exact Sub.reownC t hx hσ (by simp; omega) h0 hid h1 hσ' henv
/-! ### Places told by their bounds alone -/
theorem n4 {β : Type} {l : List β} {i : Int} {a : β} (h : ix l i = some a) : 0 ≤ i ∧ i.toNat < l.length := ⟨(E0 h).1, e9 h⟩
theorem S.idxPb {x y : Operand} {t e : TypeId} {bytes n h r : Nat} {z : Value} {kk : IntKind} {i : Int} {l : List Int} [ht : TyD P t (.slice e)] [hs : TyS P e 1 bytes z]
  (hx : ev env x = some (.c (.own (h, []) 0 n))) (hσ : σv[((h, []) : Id)]? = some (some (prow r l))) (hn : n = l.length) (hb : 0 ≤ i ∧ i.toNat < l.length) (hy : ev env y = some (.c (.imm (.val (.int kk i))))) (hd : e6 sz dst = true)
  (hh : AOps P σ0 sz ops Q rest (St.mk (putE env dst (.c (.ptr (h, []) i.toNat 0))) σv)) : AOps P σ0 sz ops Q (⟨dst, .indexAddr t x y, ty, pos, after, none⟩ :: rest) (St.mk env σv) :=
 .indexAddrOwn hx hσ hy (by omega) hd (by rw [Nat.zero_add]; exact hh)
theorem pool_ex {α : Type} {σ : b6} {r size : Nat} {f : α → List I} {E : List α} {i : Int} (h : σ[r]? = some (pool size f E)) (hb : i.toNat < E.length) : ∃ e : α, σ[((r, [i.toNat]) : Id)]? = some (some (.cells size [(f e).map .imm])) :=
 ⟨E[i.toNat], by rw [m8 h, al2 (List.getElem?_eq_getElem hb)]; rfl⟩
theorem S.nilCheckE {α : Type} {size r o : Nat} {f : α → List I} {E : List α} {i : Int} {x : Operand} (hx : ev env x = some (.c (.ptr (r, [i.toNat]) 0 o))) (hσ : σv[r]? = some (pool size f E)) (hb : i.toNat < E.length) (hd : e6 sz dst = true)
  (h : AOps P σ0 sz ops Q rest (St.mk (putE env dst (.c (.ptr (r, [i.toNat]) 0 o))) σv)) : AOps P σ0 sz ops Q (⟨dst, .nilCheck x, ty, pos, after, none⟩ :: rest) (St.mk env σv) := by
 obtain ⟨e, he⟩ := pool_ex hσ hb
 exact AOps.ac hx he hd h
theorem S.fieldE {α : Type} {size r g off ft size' bytes : Nat} {f : α → List I} {E : List α} {i : Int} {x : Operand} {t : TypeId} {z : Value} [hf : FieldC P t g off ft] [hs : TyS P ft size' bytes z] (hz : Nat.beq size' 0 = false)
  (hx : ev env x = some (.c (.ptr (r, [i.toNat]) 0 0))) (hσ : σv[r]? = some (pool size f E)) (hb : i.toNat < E.length) (hd : e6 sz dst = true)
  (h : AOps P σ0 sz ops Q rest (St.mk (putE env dst (.c (.ptr (r, [i.toNat]) 0 off))) σv)) : AOps P σ0 sz ops Q (⟨dst, .fieldAddr t x g, ty, pos, after, none⟩ :: rest) (St.mk env σv) := by
 obtain ⟨e, he⟩ := pool_ex hσ hb
 exact W.fieldAddr hz hx he hd h
def ab2 {A B : Type} (l : List A) (l' : List B) : Option Unit := if l.length = l'.length then some () else none
theorem ae9 {A B : Type} {l : List A} {l' : List B} {u : Unit} (h : ab2 l l' = some u) : l.length = l'.length := by
 unfold ab2 at h
 split at h
 ·assumption
 ·cases h
theorem Sub.virtP (r : Nat) {b : Id} {n kb o : Nat} {cs cs' : List C} {σ1 : b6} (hb : σv[b]? = some (some (.cells kb [cs]))) (hc : cs[o]? = some (.imm (.val (.slice none 0 0)))) (hn : newF σv = some (n, [])) (h1 : o6 σv (.one (prow r [])) = some σ1)
  (hs : setF cs o (.own (n, []) 0 ([] : List Int).length) = some cs') (hσ' : putF σ1 b (some (.cells kb [cs'])) = some σ') : Sub σ0 ⟨env, σv⟩ ⟨env, σ'⟩ :=
 Sub.virtB (α := Int) 1 (fun _ => []) hb hc hn h1 hs hσ'
theorem AWP.virtP {c : Code} (r : Nat) {b : Id} {n kb o : Nat} {cs cs' : List C} {σ1 : b6} (hb : σv[b]? = some (some (.cells kb [cs]))) (hc : cs[o]? = some (.imm (.val (.slice none 0 0)))) (hn : newF σv = some (n, [])) (h1 : o6 σv (.one (prow r [])) = some σ1)
  (hs : setF cs o (.own (n, []) 0 ([] : List Int).length) = some cs') (hσ' : putF σ1 b (some (.cells kb [cs'])) = some σ') (h : AWP P σ0 sz c Q (St.mk env σ')) : AWP P σ0 sz c Q (St.mk env σv) := AWP.sub (Sub.virtP r hb hc hn h1 hs hσ') h
end
end Ab
end
section
namespace Ab
open Go
section
variable {K α : Type} [DecidableEq K]
def posM : List (K × List α) → K → Nat
 | [], _ => 0
 | p :: r, k => if k = p.1 then 0 else posM r k + 1
def rowM (m : List (K × List α)) (k : K) : List α := (mget m k).getD []
def rowC (r : Nat) (m : List (K × List α)) (k : K) : C := match mget m k with
 | some row => .own (r, [posM m k]) 0 row.length
 | none => .imm (.val (.slice none 0 0))
theorem L5 (k : K) : ∀ m : List (K × List α), (mget m k = none ∧ posM m k = m.length ∧ ∀ v, mset m k v = m ++ [(k, v)]) ∨ ∃ row, mget m k = some row ∧ m[posM m k]? = some (k, row) ∧ ∀ v, mset m k v = m.set (posM m k) (k, v)
 | [] => .inl ⟨rfl, rfl, fun v => rfl⟩
 | p :: m => by
  by_cases c : k = p.1
  ·exact .inr ⟨p.2, by simp [mget, c], by simp [posM, c], fun v => by simp [mset, posM, c]⟩
  ·rcases L5 k m with ⟨h1, h2, h3⟩ | ⟨row, h1, h2, h3⟩
   ·exact .inl ⟨by simp [mget, c, h1], by simp [posM, c, h2], fun v => by simp [mset, c, h3]⟩
   ·exact .inr ⟨row, by simp [mget, c, h1], by simpa [posM, c] using h2, fun v => by simp [mset, posM, c, h3]⟩
def H3 (r : Nat) (m : List (K × List α)) : List C := m.mapIdx fun i p => .own (r, [i]) 0 p.2.length
def mmap (r k : Nat) (fk : K → Value) (f : α → List I) (m : List (K × List α)) : Ent := .node (some (.obj (L8 fk (m.map (·.1))) (H3 r m))) (m.map fun p => .one (vec k f p.2))
def mmapD (r k : Nat) (fk : K → Value) (f : α → List I) (m : List (K × List α)) (key : K) : Ent := .node (some (.obj (L8 fk (m.map (·.1))) (H3 r m))) ((m.map fun p => .one (vec k f p.2)).set (posM m key) .dead)
def ac7 (r : Nat) (m : List (K × List α)) (key : K) (s n : Nat) : List C := if (mget m key).isSome = true then (H3 r m).set (posM m key) (.own (s, []) 0 n) else H3 r m ++ [.own (s, []) 0 n]
def mmapS (r k : Nat) (fk : K → Value) (f : α → List I) (m : List (K × List α)) (key : K) (s n : Nat) : Ent := .node (some (.obj (L8 fk ((mset m key []).map (·.1))) (ac7 r m key s n))) ((m.map fun p => .one (vec k f p.2)).set (posM m key) .dead)
variable {fk : K → Value} {f : α → List I} {m : List (K × List α)} {r k : Nat}
theorem heads_len : (H3 r m).length = m.length := by simp [H3]
theorem heads_get {i : Nat} {x : C} (h : (H3 r m)[i]? = some x) : ∃ p, m[i]? = some p ∧ x = .own (r, [i]) 0 p.2.length := by
 simp only [H3, List.getElem?_mapIdx, Option.map_eq_some_iff] at h
 obtain ⟨p, h1, h2⟩ := h
 exact ⟨p, h1, h2.symm⟩
theorem mm_sub {q : List Nat} {b : Blk} (h : (mmap r k fk f m).sub q = some b) : (q = [] ∧ b = .obj (L8 fk (m.map (·.1))) (H3 r m)) ∨ ∃ i p, q = [i] ∧ m[i]? = some p ∧ b = vec k f p.2 := by
 cases q with
 | nil => exact .inl ⟨rfl, by simpa [mmap, Ent.sub] using h.symm⟩
 | cons i q =>
  simp only [mmap, Ent.sub, List.getElem?_map] at h
  cases hi : m[i]? with
  | none => simp [hi] at h
  | some p =>
   rw [hi] at h
   cases q with
   | nil => simp only [Option.map_some, Ent.sub, Option.some.injEq] at h; exact .inr ⟨i, p, rfl, hi, h.symm⟩
   | cons => simp [Ent.sub] at h
theorem mm_main : (mmap r k fk f m).sub [] = some (.obj (L8 fk (m.map (·.1))) (H3 r m)) := rfl
theorem mm_row {i : Nat} {p : K × List α} (h : m[i]? = some p) : (mmap r k fk f m).sub [i] = some (vec k f p.2) := by simp [mmap, Ent.sub, h]
theorem heads_ok {n : Nat} (h : Nat.blt r n = true) : C.okL n (H3 r m) = true := by
 rw [G5, List.all_eq_true]
 intro x hx
 obtain ⟨i, hi⟩ := List.getElem?_of_mem hx
 obtain ⟨p, _, rfl⟩ := heads_get hi
 simpa [C.ok] using h
theorem heads_no {id : Id} (h : id.1 ≠ r) : C.noL id (H3 r m) = true := by
 rw [noL_eq, List.all_eq_true]
 intro x hx
 obtain ⟨i, hi⟩ := List.getElem?_of_mem hx
 obtain ⟨p, _, rfl⟩ := heads_get hi
 have : idb ((r, [i]) : Id) id = false := C1 (fun e => h (by rw [← e]))
 simp [C.no, this]
theorem mm_ok {n : Nat} (h : Nat.blt r n = true) : ∀ q b, (mmap r k fk f m).sub q = some b → b.ok n = true := fun q b hb => by
 rcases mm_sub hb with ⟨_, rfl⟩ | ⟨i, p, _, _, rfl⟩
 ·simpa [Blk.ok] using heads_ok h
 ·exact D8
theorem mm_no {id : Id} (h : id.1 ≠ r) : ∀ q b, (mmap r k fk f m).sub q = some b → b.no id = true := fun q b hb => by
 rcases mm_sub hb with ⟨_, rfl⟩ | ⟨i, p, _, _, rfl⟩
 ·simpa [Blk.no] using heads_no h
 ·exact Blk.im_no _ _ _
theorem p9.mmap {id n : Id} {mx : Nat} {σ : b6} (h : Nat.beq id.1 r = false) (hr : Nat.blt r mx = true) (hσ : σ[r]? = some (Ab.mmap r k fk f m)) : p9 id n σ mx r (Ab.mmap r k fk f m) := by
 have hne : id.1 ≠ r := fun e => by simp [e] at h
 show ∀ (p : List Nat) (b : Blk), (Ab.mmap r k fk f m).sub p = some b → _
 intro p b hb
 have hm : mv id n (r, p) = (r, p) := by
  have : (r, p) ≠ id := fun e => hne (by rw [← e])
  simp [mv, C1 this]
 rw [hm, m8 hσ, hb]
 exact ⟨mm_ok hr p b hb, by rw [Blk.ren_no _ (mm_no hne p b hb)]⟩
theorem am0 {π : Id → Id} {r' : Nat} (h : ∀ q, π (r, q) = (r', q)) : C.renL π (H3 r m) = H3 r' m := by
 have renL_get : ∀ (L : List C) (i : Nat), (C.renL π L)[i]? = (L[i]?).map (C.ren π) := fun L => by
  induction L with
  | nil => intro i; simp [C.renL]
  | cons x L ih => intro i; cases i with
   | zero => simp [C.renL]
   | succ i => simpa [C.renL] using ih i
 apply List.ext_getElem?
 intro i
 rw [renL_get]
 simp only [H3, List.getElem?_mapIdx]
 cases m[i]? with
 | none => rfl
 | some p => simp [C.ren, h]
theorem EntR.mmap {r0 n mx i j : Nat} {σ : b6} (hj : (mvr r0 n (i, [])).1 = j) (hr : Nat.blt i mx = true) (hσ : σ[j]? = some (Ab.mmap j k fk f m)) : EntR r0 n σ mx i (Ab.mmap i k fk f m) := .any fun p b hb => by
 have e : ∀ q, mvr r0 n (i, q) = (j, q) := fun q => by rw [← hj]; rfl
 rw [e, m8 hσ]
 refine ⟨mm_ok hr p b hb, ?_⟩
 rcases mm_sub hb with ⟨rfl, rfl⟩ | ⟨q, p', rfl, hq, rfl⟩
 ·rw [mm_main]
  simp only [Blk.ren, am0 e]
 ·rw [mm_row hq, F4]
theorem RenE.mmap {r' : Nat} {π : Id → Id} (h : ∀ q, π (r, q) = (r', q)) : RenE π r (Ab.mmap r k fk f m) r' (Ab.mmap r' k fk f m) := .any (fun p b hb => by
  rcases mm_sub hb with ⟨rfl, rfl⟩ | ⟨q, p', rfl, hq, rfl⟩
  ·rw [mm_main]; simp only [Blk.ren, am0 h]
  ·rw [mm_row hq, F4]) (fun p b hb => by
  rcases mm_sub hb with ⟨rfl, rfl⟩ | ⟨q, p', rfl, hq, rfl⟩
  ·exact ⟨_, mm_main, by simp only [Blk.ren, am0 h]⟩
  ·exact ⟨_, mm_row hq, F4.symm⟩)
theorem FrzB.mmap {id : Id} {X : C → C → Prop} (h : Nat.beq id.1 r = false) : FrzB id X (Ab.mmap r k fk f m) (Ab.mmap r k fk f m) := by
 have hne : id.1 ≠ r := fun e => by simp [e] at h
 show _ = _ ∧ _
 exact ⟨rfl, fun p b h => mm_no hne p b h⟩
end
section
variable {P : Program} {σ0 : b6} {sz : Nat} {Q : Post} {env env' : Env} {σv σ' : b6} {ops : Array Oper} {rest : List Oper} {dst : Option Nat} {ty : TypeId} {pos : String} {after : Array Edge}
variable {K α : Type} [DecidableEq K] {fk : K → Value} {d : TypeDesc} {f : α → List I} {m : List (K × List α)} {r k : Nat}
theorem find_pos (hk : KeyT d fk) (key : K) : ∀ (m : List (K × List α)) (l : List MapEntry) (i : Nat), l.map (·.key) = (m.map (·.1)).map fk →
  (mget m key = none ∧ Instr.findNow d (fk key) l i = some none) ∨ ∃ row e, mget m key = some row ∧ m[posM m key]? = some (key, row) ∧ l[posM m key]? = some e ∧ e.key = fk key ∧ Instr.findNow d (fk key) l i = some (some (i + posM m key, e.val))
 | [], [], i, _ => .inl ⟨rfl, rfl⟩
 | [], _ :: _, i, h => by simp at h
 | _ :: _, [], i, h => by simp at h
 | p :: m, e :: l, i, h => by
  simp only [List.map_cons, List.cons.injEq] at h
  obtain ⟨h1, h3⟩ := h
  obtain ⟨r, hr, hiff⟩ : ∃ r, Instr.sameNow d (fk key) e.key = some r ∧ (r = true ↔ fk key = e.key) := Go.MapKept.sameNow_of_keys (hk.key key) (by rw [h1]; exact hk.key p.1)
  by_cases c : key = p.1
  ·have : r = true := hiff.2 (by rw [h1, c])
   subst this
   exact .inr ⟨p.2, e, by simp [mget, c], by simp [posM, c], by simp [posM, c], by rw [h1, c], by subst c; simp [Instr.findNow, hr, posM]⟩
  ·have : r = false := by
    cases r with
    | false => rfl
    | true => exact absurd (hk.inj ((hiff.1 rfl).trans h1)) c
   subst this
   rcases find_pos hk key m l (i + 1) h3 with ⟨g1, g2⟩ | ⟨row, e', g1, g2, g3, g4, g5⟩
   ·exact .inl ⟨by simp [mget, c, g1], by simp [Instr.findNow, hr, g2]⟩
   ·exact .inr ⟨row, e', by simp [mget, c, g1], by simpa [posM, c] using g2, by simpa [posM, c] using g3, g4, by simp [Instr.findNow, hr, g5, posM, c]; omega⟩
theorem mm_rowAt (h : σv[r]? = some (mmap r k fk f m)) {key : K} {row : List α} (he : mget m key = some row) : σv[((r, [posM m key]) : Id)]? = some (some (vec k f row)) := by
 rcases L5 key m with ⟨h1, _⟩ | ⟨row', h1, h2, _⟩
 ·rw [h1] at he; cases he
 ·rw [h1] at he; cases he
  rw [m8 h, mm_row h2]
theorem mm_get (h : σv[r]? = some (mmap r k fk f m)) {key : K} {i : Int} {a : α} (ha : ix (rowM m key) i = some a) : σv[((r, [posM m key]) : Id)]? = some (some (vec k f (rowM m key))) := by
 unfold rowM at ha ⊢
 cases he : mget m key with
 | none => rw [he] at ha; simp [ix] at ha
 | some row => rw [Option.getD_some]; exact mm_rowAt h he
theorem snocF_all {β : Type} : ∀ (l : List β) (x : β), o6 l x = some (l ++ [x])
 | [], x => rfl
 | a :: l, x => by simp [o6, snocF_all l x]
theorem W.makeMapM {t : TypeId} (r k : Nat) (fk : K → Value) (f : α → List I) (hid : newF σv = some (r, [])) (hσ : o6 σv (mmap r k fk f ([] : List (K × List α))) = some σ') (hd : e6 sz dst = true)
  (h : AOps P σ0 sz ops Q rest (St.mk (putE env dst (.c (.map (r, [])))) σ')) : AOps P σ0 sz ops Q (⟨dst, .makeMap t none, ty, pos, after, none⟩ :: rest) (St.mk env σv) := by
 have h2 := v8 hid; have h3 := n5 hσ
 cases h2
 subst h3
 have heq : ∀ i : Id, (σv ++ [Ent.one (pmap 0 fk ([] : List (K × Int)))])[i]? = (σv ++ [mmap σv.length k fk f ([] : List (K × List α))])[i]? := fun i => by
  rcases Nat.lt_or_ge i.1 σv.length with hl | hl
  ·rw [b6.get_left hl, b6.get_left hl]
  ·rw [b6.get_right hl, b6.get_right hl]
   obtain ⟨i1, q⟩ := i
   rw [b6.at_eq, b6.at_eq]
   simp only [b6.at]
   cases i1 - σv.length with
   | zero => cases q <;> rfl
   | succ m => rfl
 exact W.makeMapP (K := K) 0 fk hid (snocF_all _ _) hd (AOps.sub (Sub.same (by simp) heq) h)
theorem S.lookupM {x y : Operand} {t kt vt : TypeId} {r : Nat} {m : List (K × List α)} {key : K} {size bytes : Nat} {zv : Value} [ht : TyD P t (.map kt vt)] [hkt : TyD P kt d] [hs : TyS P vt size bytes zv] (hk : KeyT d fk) (hz : zv = .slice none 0 0)
  (hx : ev env x = some (.c (.map (r, [])))) (hy : ev env y = some (.c (.imm (.val (fk key))))) (hσ : σv[r]? = some (mmap r k fk f m)) (hd : e6 sz dst = true)
  (h : AOps P σ0 sz ops Q rest (St.mk (putE env dst (.c (rowC r m key))) σv)) : AOps P σ0 sz ops Q (⟨dst, .lookup t x y false, ty, pos, after, none⟩ :: rest) (St.mk env σv) := by
 refine .valueW rfl hd _ _ (fun Γ φ a w hR => ?_) h
 have hmain : σv[((r, []) : Id)]? = some (some (.obj (L8 fk (m.map (·.1))) (H3 r m))) := by rw [m8 hσ]; rfl
 obtain ⟨b, base, hp, hv⟩ := af9 (f9 hR hx) hmain
 obtain ⟨hv2, _⟩ := B4 (f9 hR hy)
 obtain ⟨b', o, us, g1, g2, ⟨es, c, rfl, g3, g4⟩, g5⟩ := hR.st.blk _ _ hmain
 rw [hp] at g1; cases g1
 unfold rowC
 rcases find_pos hk key m es.toList 0 g3 with ⟨q1, q2⟩ | ⟨row, e, q1, q0, q3, q4, q2⟩
 ·rw [q1]
  refine ⟨.slice none 0 0, w, φ, ?_, .c (.imm (.val rfl)), hR⟩
  simp [execOp, hv, hv2, Instr.lookup, run_underlying ht.h, Go.MapKept.run_getObj_map g2, Go.MapKept.run_checkKey hkt.h (hk.key key), Go.MapKept.run_findKey hkt.h q2, G3 (t := vt), hz, Result.andThen]
 ·rw [q1]
  obtain ⟨u, hu, hru⟩ := g5 (posM m key) (.own (r, [posM m key]) 0 row.length) (by simp [H3, List.getElem?_mapIdx, q0])
  have hue : u = e.val := by
   rw [← g4, List.getElem?_map, q3] at hu
   simpa using hu.symm
  subst hue
  refine ⟨e.val, w, φ, ?_, .c hru, hR⟩
  simp [execOp, hv, hv2, Instr.lookup, run_underlying ht.h, Go.MapKept.run_getObj_map g2, Go.MapKept.run_checkKey hkt.h (hk.key key), Go.MapKept.run_findKey hkt.h q2, Result.andThen]
theorem S.appendMM {new l' : List α} {x y : Operand} {t e : TypeId} {bytes : Nat} {n : Id} {z : Value} {v : T} {key : K} {σ1 : b6} [ht : TyD P t (.slice e)] [hs : TyS P e k bytes z]
  (ha : app bytes (rowM m key) new = some l') (hzk : (z.cells.size == k) = true) (hbp : Nat.blt 0 bytes = true) (hx : ev env x = some (.c (rowC r m key))) (hσ : σv[r]? = some (mmap r k fk f m)) (hy : ev env y = some v) (hsrc : SrcF σv k f v new) (hn : newF σv = some n) (h1 : setF σv r (mmapD r k fk f m key) = some σ1) (hσ' : o6 σ1 (.one (vec k f l')) = some σ') (hd : e6 sz dst = true)
  (h : AOps P σ0 sz ops Q rest (St.mk (putE env dst (.c (.own n 0 l'.length))) σ')) :
  AOps P σ0 sz ops Q (⟨dst, .call ⟨.builtin .append, #[x, y], #[t, t]⟩, ty, pos, after, none⟩ :: rest) (St.mk env σv) := by
 obtain ⟨hb, rfl⟩ := af5 ha
 have h2 := (H9 h1).1
 have h3 := v8 hn; have h4 := n5 hσ'
 subst h2 h3 h4
 unfold rowC at hx
 unfold rowM at hb h
 rcases L5 key m with ⟨q1, q2, _⟩ | ⟨row, q1, q2, _⟩
 ·rw [q1] at hx
  rw [q1, Option.getD_none, List.nil_append] at h
  rw [q1, Option.getD_none] at hb
  refine AOps.appendNil (new := (new.map f).map (·.map .imm)) hzk hbp hx hy hsrc.src (by simpa using hb) hd ?_
  rw [show ((new.map f).map (·.map C.imm)).length = new.length by simp]
  refine AOps.sub (s' := ⟨putE env dst (.c (.own (σv.length, []) 0 new.length)), σv.set r (mmapD r k fk f m key) ++ [.one (vec k f new)]⟩) (Sub.same (by simp) fun i => ?_) h
  have hset : ∀ i : Id, (σv.set r (mmapD r k fk f m key))[i]? = σv[i]? := fun i => by
   rw [set_ent hσ]
   split
   ·rename_i hi
    obtain ⟨i1, q⟩ := i
    simp only at hi
    subst hi
    rw [m8 hσ]
    congr 1
    simp only [mmapD, mmap]
    rw [List.set_eq_of_length_le (by rw [q2]; simp)]
   ·rfl
  rcases Nat.lt_or_ge i.1 σv.length with hl | hl
  ·rw [b6.get_left hl, b6.get_left (by simpa using hl), hset]
  ·rw [b6.get_right hl, b6.get_right (by simpa using hl), List.length_set]; rfl
 ·rw [q1] at hx
  rw [q1, Option.getD_some] at h
  rw [q1, Option.getD_some] at hb
  have hrow := mm_rowAt hσ q1
  refine AOps.append (new := (new.map f).map (·.map .imm)) hzk hbp hx hrow hy hsrc.src (by simpa using hb) hd ?_
  have e1 : (((((row.map f).map (·.map C.imm)).drop 0).take row.length) ++ (new.map f).map (·.map C.imm)) = ((row ++ new).map f).map (·.map C.imm) := by
   rw [List.drop_zero, List.take_of_length_le (by simp)]; simp
  have e2 : row.length + ((new.map f).map (·.map C.imm)).length = (row ++ new).length := by simp
  rw [e1, e2]
  refine AOps.sub (s' := ⟨putE env dst (.c (.own (σv.length, []) 0 (row ++ new).length)), σv.set r (mmapD r k fk f m key) ++ [.one (vec k f (row ++ new))]⟩) (Sub.same (by simp) fun i => ?_) h
  have hput : ∀ i : Id, (σv.put (r, [posM m key]) none)[i]? = (σv.set r (mmapD r k fk f m key))[i]? := fun i => by
   rw [set_ent hσ]
   by_cases hi : i = (r, [posM m key])
   ·subst hi
    rw [b6.get_put_eq hrow, if_pos rfl]
    have := (List.getElem?_eq_some_iff.1 q2).1
    simp [mmapD, Ent.sub, this]
   ·rw [b6.get_put_ne hi]
    by_cases hr : i.1 = r
    ·obtain ⟨i1, q⟩ := i
     simp only at hr
     subst hr
     rw [if_pos rfl, m8 hσ]
     congr 1
     cases q with
     | nil => rfl
     | cons a q =>
      simp only [mmap, mmapD, Ent.sub, List.getElem?_set, List.length_map, List.getElem?_map]
      by_cases hap : posM m key = a
      ·subst hap
       cases q with
       | nil => exact absurd rfl hi
       | cons b q =>
        rw [if_pos rfl, if_pos (List.getElem?_eq_some_iff.1 q2).1, q2]
        rfl
      ·rw [if_neg hap]
    ·rw [if_neg hr]
  rcases Nat.lt_or_ge i.1 σv.length with hl | hl
  ·rw [b6.get_left (by simpa using hl), b6.get_left (by simpa using hl), hput]
  ·rw [b6.get_right (by simpa using hl), b6.get_right (by simpa using hl), b6.length_put, List.length_set]; rfl
theorem S.updateMM {x y v : Operand} {t kt vt : TypeId} {s n : Nat} {key : K} [ht : TyD P t (.map kt vt)] [hkt : TyD P kt d] (hk : KeyT d fk)
  (hx : ev env x = some (.c (.map (r, [])))) (hy : ev env y = some (.c (.imm (.val (fk key))))) (hv : ev env v = some (.c (.own (s, []) 0 n))) (hσ : σv[r]? = some (mmapD r k fk f m key)) (hσ' : setF σv r (mmapS r k fk f m key s n) = some σ')
  (h : AOps P σ0 sz ops Q rest (St.mk env σ')) : AOps P σ0 sz ops Q (⟨none, .mapUpdate t x y v, ty, pos, after, none⟩ :: rest) (St.mk env σv) := by
 have hset := H9 hσ'
 have hmain : σv[((r, []) : Id)]? = some (some (.obj (L8 fk (m.map (·.1))) (H3 r m))) := by rw [m8 hσ]; rfl
 refine .skipW rfl rfl (σv.put (r, []) (some (.obj (L8 fk ((mset m key []).map (·.1))) (ac7 r m key s n)))) (fun Γ φ ac w hR => ?_) (AOps.sub (s' := ⟨env, σ'⟩) (Sub.same (by rw [hset.1]; simp) fun i => ?_) h)
 ·obtain ⟨b, base, hp, e1⟩ := af9 (f9 hR hx) hmain
  obtain ⟨e2, _⟩ := B4 (f9 hR hy)
  have hrv := f9 hR hv
  generalize e3 : ac.eval v = u at hrv
  have hru : RelC w φ σv (Al Γ.N φ σv) (.own (s, []) 0 n) u := by cases hrv with | c h => exact h
  obtain ⟨b', o, us, g1, g2, ⟨es, c, rfl, g3, g4⟩, g5⟩ := hR.st.blk _ _ hmain
  rw [hp] at g1; cases g1
  have hlu : us.length = m.length := by rw [← g4]; have := congrArg List.length g3; simpa using this
  rcases find_pos hk key m es.toList 0 g3 with ⟨q1, q2⟩ | ⟨row, e, q1, q0, q3, q4, q2⟩
  ·have hms : mset m key ([] : List α) = m ++ [(key, [])] := by
    rcases L5 key m with ⟨_, _, h3⟩ | ⟨row, h1, _⟩
    ·exact h3 _
    ·rw [q1] at h1; cases h1
   have hW := Rs.writeB (q1 := L8 fk ((mset m key []).map (·.1))) (cs1 := ac7 r m key s n) (us1 := us ++ [u]) (o1 := .map (es.push { key := fk key, val := u, born := c }) (c + 1)) hR.toRs hmain hp g2
    ⟨_, _, rfl, by rw [hms]; simp [g3], by simp [g4]⟩ (fun i x hx => by
     simp only [ac7, q1, Option.isSome_none, Bool.false_eq_true, if_false] at hx
     rw [List.getElem?_append] at hx
     split at hx
     ·obtain ⟨u', h1, h2⟩ := g5 i x hx
      exact ⟨u', by rw [List.getElem?_append_left (List.getElem?_eq_some_iff.1 h1).1]; exact h1, h2⟩
     ·rename_i hge
      rw [heads_len] at hx hge
      have h0 : i = m.length := by
       have := (List.getElem?_eq_some_iff.1 hx).1
       simp at this; omega
      subst h0
      simp at hx
      subst hx
      exact ⟨u, by rw [← hlu]; simp, hru⟩)
   refine ⟨_, φ, ?_, hR.of hW.1 hW.2⟩
   simp [execOp, e1, e2, e3, Instr.mapUpdate, run_underlying ht.h, Go.MapKept.run_getObj_map g2, Go.MapKept.run_checkKey hkt.h (hk.key key), Go.MapKept.run_findKey hkt.h q2, Go.MapKept.run_setObj_map _ g2, Result.andThen]
  ·have hms : mset m key ([] : List α) = m.set (posM m key) (key, []) := by
    rcases L5 key m with ⟨h1, _⟩ | ⟨row, _, _, h3⟩
    ·rw [q1] at h1; cases h1
    ·exact h3 _
   have hj : es[posM m key]? = some e := by simpa using q3
   have hlt := (List.getElem?_eq_some_iff.1 q0).1
   have hW := Rs.writeB (q1 := L8 fk ((mset m key []).map (·.1))) (cs1 := ac7 r m key s n) (us1 := us.set (posM m key) u) (o1 := .map (es.modify (posM m key) fun e => { e with key := fk key, val := u }) c) hR.toRs hmain hp g2
    ⟨_, _, rfl, by
     rw [hms, Array.toList_modify]
     apply List.ext_getElem?
     intro i
     have hg := congrArg (fun l => l[i]?) g3
     simp only [List.getElem?_map, List.getElem?_modify, List.getElem?_set] at hg ⊢
     by_cases hi : posM m key = i
     ·subst hi
      simp [q3, hlt]
     ·simpa [hi] using hg, by
     rw [Array.toList_modify]
     apply List.ext_getElem?
     intro i
     have hg := congrArg (fun l => l[i]?) g4
     simp only [List.getElem?_map, List.getElem?_modify, List.getElem?_set] at hg ⊢
     by_cases hi : posM m key = i
     ·subst hi
      simp [q3, hlu, hlt]
     ·simpa [hi] using hg⟩ (fun i x hx => by
     simp only [ac7, q1, Option.isSome_some, if_true] at hx
     rw [List.getElem?_set] at hx
     by_cases hi : posM m key = i
     ·subst hi
      simp [heads_len, hlt] at hx
      subst hx
      exact ⟨u, by simp [hlu, hlt], hru⟩
     ·rw [if_neg hi] at hx
      obtain ⟨u', h1, h2⟩ := g5 i x hx
      exact ⟨u', by rw [List.getElem?_set, if_neg hi]; exact h1, h2⟩)
   refine ⟨_, φ, ?_, hR.of hW.1 hW.2⟩
   simp [execOp, e1, e2, e3, Instr.mapUpdate, run_underlying ht.h, Go.MapKept.run_getObj_map g2, Go.MapKept.run_checkKey hkt.h (hk.key key), Go.MapKept.run_findKey hkt.h q2, hj, q4, Go.MapKept.run_keyThatStays (hk.key key), Go.MapKept.run_setObj_map _ g2, Result.andThen]
 ·rw [setF_at hσ hσ']
  by_cases hi : i = (r, [])
  ·subst hi
   rw [b6.get_put_eq hmain, if_pos rfl]; rfl
  ·rw [b6.get_put_ne hi]
   by_cases hr : i.1 = r
   ·obtain ⟨i1, q⟩ := i
    simp only at hr
    subst hr
    rw [if_pos rfl, m8 hσ]
    cases q with
    | nil => exact absurd rfl hi
    | cons a q => rfl
   ·rw [if_neg hr]
theorem p9.putMM {l : List α} {mx s n : Nat} {key : K} {σ : b6} (hr : Nat.blt r mx = true) (hσ : σ[r]? = some (mmapS r k fk f m key s n)) (hn : n = l.length) (hs : σ[((s, []) : Id)]? = some (some (vec k f l))) : p9 (r, [posM m key]) (s, []) σ mx r (Ab.mmap r k fk f (mset m key l)) := by
 subst hn
 have hlt : ∀ q, q ≠ posM m key → mv (r, [posM m key]) (s, []) (r, [q]) = (r, [q]) := fun q hq => by
  have : ((r, [q]) : Id) ≠ (r, [posM m key]) := fun e => by cases e; exact hq rfl
  simp [mv, C1 this]
 have hself : mv (r, [posM m key]) (s, []) (r, [posM m key]) = (s, []) := by simp [mv, G0.2 rfl]
 have hroot : mv (r, [posM m key]) (s, []) (r, []) = (r, []) := ab9
 show ∀ (p : List Nat) (b : Blk), (Ab.mmap r k fk f (mset m key l)).sub p = some b → _
 intro p b hb
 refine ⟨mm_ok hr p b hb, ?_⟩
 rcases mm_sub hb with ⟨rfl, rfl⟩ | ⟨i, p', rfl, hi, rfl⟩
 ·rw [hroot, m8 hσ]
  show some (some (Blk.obj (L8 fk ((mset m key []).map (·.1))) (ac7 r m key s l.length))) = _
  congr 2
  simp only [Blk.ren]
  have hkeys : (mset m key l).map (·.1) = (mset m key []).map (·.1) := by
   rcases L5 key m with ⟨_, _, h3⟩ | ⟨_, _, _, h3⟩
   ·rw [h3, h3]; simp
   ·rw [h3, h3]; simp [List.map_set]
  rw [hkeys]
  congr 1
  have renL_get : ∀ (L : List C) (i : Nat), (C.renL (mv (r, [posM m key]) (s, [])) L)[i]? = (L[i]?).map (C.ren (mv (r, [posM m key]) (s, []))) := fun L => by
   induction L with
   | nil => intro i; simp [C.renL]
   | cons x L ih => intro i; cases i with
    | zero => simp [C.renL]
    | succ i => simpa [C.renL] using ih i
  apply List.ext_getElem?
  intro i
  rw [renL_get]
  simp only [ac7, H3]
  rcases L5 key m with ⟨h1, h2, h3⟩ | ⟨row, h1, h2, h3⟩
  ·rw [h1, h3]
   simp only [Option.isSome_none, Bool.false_eq_true, if_false, List.mapIdx_append, List.length_map]
   rcases Nat.lt_or_ge i m.length with hl | hl
   ·rw [List.getElem?_append_left (by simpa using hl), List.getElem?_append_left (by simpa using hl), List.getElem?_mapIdx]
    cases hm : m[i]? with
    | none => rfl
    | some p => simp [C.ren, hlt i (by omega)]
   ·rw [List.getElem?_append_right (by simpa using hl), List.getElem?_append_right (by simpa using hl)]
    simp only [List.length_mapIdx]
    cases hd : i - m.length with
    | zero =>
     have : i = m.length := by omega
     simp [C.ren, h2, mv, G0.2 rfl]
    | succ j => simp
  ·have hl := (List.getElem?_eq_some_iff.1 h2).1
   rw [h1, h3]
   simp only [Option.isSome_some, if_true]
   by_cases hi : posM m key = i
   ·subst hi
    simp [List.getElem?_mapIdx, List.getElem?_set, hl, C.ren, hself]
   ·rw [List.getElem?_set, if_neg hi, List.getElem?_mapIdx, List.getElem?_mapIdx, List.getElem?_set, if_neg hi]
    cases hm : m[i]? with
    | none => rfl
    | some p => simp [C.ren, hlt i (fun e => hi e.symm)]
 ·rw [F4]
  rcases L5 key m with ⟨h1, h2, h3⟩ | ⟨row, h1, h2, h3⟩
  ·rw [h3, List.getElem?_append] at hi
   split at hi
   ·rename_i hl
    rw [hlt i (by omega), m8 hσ]
    simp only [mmapS, Ent.sub, List.getElem?_set, List.getElem?_map]
    rw [if_neg (by omega), hi]; rfl
   ·rename_i hl
    have : i = m.length := by
     have := (List.getElem?_eq_some_iff.1 hi).1
     simp at this; omega
    subst this
    simp at hi
    subst hi
    rw [← h2, hself, hs]
  ·have hl := (List.getElem?_eq_some_iff.1 h2).1
   rw [h3, List.getElem?_set] at hi
   by_cases e : posM m key = i
   ·subst e
    rw [if_pos rfl, if_pos hl] at hi
    cases hi
    rw [hself, hs]
   ·rw [if_neg e] at hi
    rw [hlt i (fun x => e x.symm), m8 hσ]
    simp only [mmapS, Ent.sub, List.getElem?_set, List.getElem?_map]
    rw [if_neg e, hi]; rfl
theorem S.lenMM {x : Operand} {t e : TypeId} {key : K} [ht : TyD P t (.slice e)] (hx : ev env x = some (.c (rowC r m key))) (hσ : σv[r]? = some (mmap r k fk f m)) (hd : e6 sz dst = true)
  (h : (rowM m key).length ≤ 9223372036854775807 → AOps P σ0 sz ops Q rest (St.mk (putE env dst (.c (int ((rowM m key).length : Int)))) σv)) : AOps P σ0 sz ops Q (⟨dst, .call ⟨.builtin .len, #[x], #[t]⟩, ty, pos, after, none⟩ :: rest) (St.mk env σv) := by
 unfold rowC at hx
 unfold rowM at h
 rcases L5 key m with ⟨q1, _⟩ | ⟨row, q1, _⟩
 ·rw [q1] at hx
  rw [q1] at h
  exact AOps.lenNil hx hd (h (by simp))
 ·rw [q1] at hx
  rw [q1] at h
  exact AOps.lenOwnB hx (mm_rowAt hσ q1) hd h
theorem ab5 {n : Nat} {key : K} (h : Nat.blt r n = true) : (T.c (rowC r m key)).ok n = true := by
 simp only [T.ok]
 unfold rowC
 split
 ·simpa [C.ok] using h
 ·rfl
theorem rowC_mv {π : Id → Id} {o : Option T} {key : K} (hπ : ∀ i, π (r, [i]) = (r, [i])) (e : o = some (.c (rowC r m key))) : o = some ((T.c (rowC r m key)).ren π) := by
 rw [e]
 unfold rowC
 split
 ·simp only [T.ren, C.ren, hπ]
 ·rfl
theorem S.idxMM {x y : Operand} {t e : TypeId} {bytes : Nat} {z : Value} {kk : IntKind} {i : Int} {a : α} {key : K} [ht : TyD P t (.slice e)] [hs : TyS P e k bytes z]
  (ha : ix (rowM m key) i = some a) (hx : ev env x = some (.c (rowC r m key))) (hσ : σv[r]? = some (mmap r k fk f m)) (hy : ev env y = some (.c (.imm (.val (.int kk i))))) (hd : e6 sz dst = true)
  (h : AOps P σ0 sz ops Q rest (St.mk (putE env dst (.c (.ptr (r, [posM m key]) i.toNat 0))) σv)) : AOps P σ0 sz ops Q (⟨dst, .indexAddr t x y, ty, pos, after, none⟩ :: rest) (St.mk env σv) := by
 have hrow := mm_get hσ ha
 unfold rowC at hx
 unfold rowM at ha hrow
 cases he : mget m key with
 | none => rw [he] at ha; simp [ix] at ha
 | some row =>
  rw [he] at hx ha hrow
  simp only [Option.getD_some] at ha hrow
  exact .indexAddrOwn hx hrow hy (by have := E0 ha; have := e9 ha; omega) hd (by rw [Nat.zero_add]; exact h)
end
end Ab
end
section
namespace Ab
open Go Go.Proofs Go.Sort Go.Lib
theorem rev_fn {P : Program} {f : FuncId} (hf : I0 P f)
  (hC : ∀ (blk off cap : Nat) (zs : List Int) (w : World), Holds (Value.int .i64) w blk off zs.toArray → zs.length ≤ 9223372036854775807 → Calls P f #[.slice (some ⟨blk, off, none⟩) zs.length cap] w fun e w' => e = .returned (.tuple #[]) ∧ ∃ n, w' = putRow (Value.int .i64) (Go.Sort.ahead w n) blk off zs.reverse.toArray)
  (hC0 : ∀ (p : Option Addr) (cap : Nat) (w : World), Calls P f #[.slice p 0 cap] w fun e w' => e = .returned (.tuple #[]) ∧ w' = w)
  {σ : b6} {id : Id} {l : List Int} (hσ : σ[id]? = some (some (vec 1 intI l))) :
  FnOk P f [.c (.own id 0 l.length)] σ fun r σ' => r = .tup [] ∧ σ'.length = σ.length ∧ ∀ i : Id, σ'[i]? = (σ.put id (some (vec 1 intI l.reverse)))[i]? := by
 refine ⟨hf, fun Γ vs hΓ hG hlen hrel => ?_⟩
 subst hΓ
 match vs, hlen with
 | [u], _ =>
 have hu := D0 (hrel 0 _ u rfl rfl) hσ
 have tupR : ∀ {w φ σ A}, RelT w φ σ A (.tup []) (.tuple #[]) := fun {w φ σ A} => RelT.tup (ts := []) (fun _ => undef) fun i t h => by simp at h
 rw [F7] at hu
 have empty : ∀ (p : Option Addr) (cap : Nat), l = [] → Calls P f #[.slice p 0 cap] Γ.w0 fun e w' => ∃ v r σ' φ', e = .returned v ∧ (r = .tup [] ∧ σ'.length = Γ.σ0.length ∧ ∀ i : Id, σ'[i]? = (Γ.σ0.put id (some (vec 1 intI l.reverse)))[i]?) ∧ RelT w' φ' σ' (Al Γ.N φ' σ') r v ∧ Rs Γ σ' φ' w' := fun p cap he => by
  refine (hC0 p cap Γ.w0).mono ?_
  rintro e w' ⟨rfl, rfl⟩
  refine ⟨_, .tup [], Γ.σ0, Γ.φ0, rfl, ⟨rfl, rfl, fun i => ?_⟩, tupR, Rs.refl hG⟩
  have : l.reverse = l := by rw [he]; rfl
  rw [this]
  by_cases hi : i = id
  ·rw [hi, b6.get_put_eq hσ, hσ]
  ·rw [b6.get_put_ne hi]
 rcases hu with ⟨_, hv, _, h0⟩ | ⟨b, base, cap, arr, ety, a, hp, hv, ha, hcap, hmax, hjn, hbk, hsz⟩
 ·have he : l = [] := List.eq_nil_of_length_eq_zero (by omega)
  rw [hv]
  exact empty none 0 he
 ·rw [hv]
  by_cases hc0 : 0 < cap
  ·have := ha hc0
   subst this
   simp only [Nat.zero_mul, Nat.add_zero]
   have hR := Rs.refl hG
   rcases hR.st.blk _ _ hσ with ⟨h1, _⟩ | ⟨b', base', arr2, ety2, h1, h2, h3, h4, h5⟩
   ·rw [hp] at h1; cases h1
   ·rw [hp] at h1; cases h1
    rw [hbk] at h2; cases h2
    rw [F7] at h3
    have hcell : ∀ (j : Nat) (x : Int), l[j]? = some x → arr[base + j]? = some (.int .i64 x) := fun j x hj => int_cells h5 hj
    have hls : l.reverse.length = l.length := by simp
    refine (hC b base cap l Γ.w0 (holds_of hbk hcell) (by simp only [maxLen] at hmax; omega)).mono ?_
    rintro e w' ⟨rfl, n, rfl⟩
    have hW := Rs.write (k := 1) (es' := (l.reverse.map intI).map (·.map C.imm)) (arr' := putCells (Value.int .i64) base l.reverse.toArray arr) hR hσ hp hbk (by rw [F7, F7, hls]) V6 (fun j e he => vec_hk he) (by rw [F7]; omega)
     (vec_hc fun j x hj => ah3 (by omega) hj)
    rw [putRow_ahead, ae0 hbk]
    refine ⟨_, .tup [], _, Γ.φ0, rfl, ⟨rfl, ?_, fun i => rfl⟩, tupR, hW.2.ahead n⟩
    rw [b6.length_put]
  ·have he : l = [] := List.eq_nil_of_length_eq_zero (by omega)
   have hl0 : l.length = 0 := by rw [he]; rfl
   rw [hl0]
   exact empty (some a) cap he
def RevOk (P : Program) (f : FuncId) : Prop := ∀ {σ : b6} {id : Id} {l : List Int}, σ[id]? = some (some (vec 1 intI l)) →
  FnOk P f [.c (.own id 0 l.length)] σ fun r σ' => r = .tup [] ∧ σ'.length = σ.length ∧ ∀ i : Id, σ'[i]? = (σ.put id (some (vec 1 intI l.reverse)))[i]?
section
variable {P : Program} {σ0 : b6} {sz : Nat} {Q : Post} {env : Env} {σv σ' : b6} {ops : Array Oper} {rest : List Oper} {dst : Option Nat} {ty : TypeId} {pos : String} {after : Array Edge}
theorem S.rev {x : Operand} {al : List Operand} {ats : Array TypeId} {f : FuncId} {id : Id} {n : Nat} {l : List Int} (hf : RevOk P f) (hx : ev env x = some (.c (.fn f []))) (ha : evs env al = some [.c (.own id 0 n)]) (hn : n = l.length) (hσ : σv[id]? = some (some (vec 1 intI l)))
  (hd : e6 sz dst = true) (hσ' : putF σv id (some (vec 1 intI l.reverse)) = some σ') (h : AOps P σ0 sz ops Q rest (St.mk (putE env dst (.tup [])) σ')) :
  AOps P σ0 sz ops Q (⟨dst, .call ⟨.value x, al.toArray, ats⟩, ty, pos, after, none⟩ :: rest) (St.mk env σv) := by
 have h2 := w3 hσ'
 subst h2 hn
 refine AOps.callS hx ha hd (hf hσ) ?_
 rintro r σ2 ⟨rfl, hl, he⟩
 refine AOps.sub (s' := ⟨putE env dst (.tup []), σv.put id (some (vec 1 intI l.reverse))⟩) ?_ h
 have := Sub.same (σ0 := σ0) (env := putE env dst (.tup [])) (σ1 := σ2) (σ2 := σv.put id (some (vec 1 intI l.reverse))) (by rw [b6.length_put, hl]) he
 cases dst <;> exact this
end
end Ab
end
section
namespace Ab
open Go Go.Sort
abbrev U32 : Type := { x : Int // 0 ≤ x ∧ x < 4294967296 }
noncomputable def sortFU (cmp : Int → Int → Option Int) (l : List Int) : Option (List Int) := open Classical in
 if h : ∀ x ∈ l, 0 ≤ x ∧ x < 4294967296 then (ab0 (α := U32) (fun a b => cmp a.1 b.1) (l.attach.map fun x => ⟨x.1, h x.1 x.2⟩)).map fun m => m.map (·.1) else none
theorem sortFU_get {cmp : Int → Int → Option Int} {l l' : List Int} (h : sortFU cmp l = some l') : ∃ (k m : List U32), l = k.map (·.1) ∧ l' = m.map (·.1) ∧ ab0 (fun a b => cmp a.1 b.1) k = some m := by
 unfold sortFU at h
 split at h
 ·rename_i hr
  obtain ⟨m, h1, rfl⟩ := Option.map_eq_some_iff.1 h
  exact ⟨_, m, by simp, rfl, h1⟩
 ·cases h
theorem sortFU_len {cmp : Int → Int → Option Int} {l l' : List Int} (h : sortFU cmp l = some l') : l.length = l'.length := by
 obtain ⟨k, m, rfl, rfl, h3⟩ := sortFU_get h
 simpa using sortFL_len h3
section
variable {P : Program} {σ0 : b6} {sz : Nat} {Q : Post} {env : Env} {σv σ' : b6} {ops : Array Oper} {rest : List Oper} {dst : Option Nat} {ty : TypeId} {pos : String} {after : Array Edge}
theorem vec_u32 (m : List U32) : vec 1 (fun a : Int => [I.val (.int .u32 a)]) (m.map (·.1)) = vec 1 (fun a : U32 => [I.val (.int .u32 a.1)]) m := by
 simp [vec, Function.comp_def]
theorem S.sortFU {cmp : Int → Int → Option Int} {x : Operand} {al : List Operand} {ats : Array TypeId} {fs g : FuncId} {id : Id} {n : Nat} {l l' : List Int} (hs : sortFU cmp l = some l')
  (hcmp : ∀ {a b r}, cmp a b = some r → f7 P g [.c (.imm (.val (.int .u32 a))), .c (.imm (.val (.int .u32 b)))] (.c (int r))) (hf : SortFOk P fs) (hgn : I0 P g) (hx : ev env x = some (.c (.fn fs []))) (ha : evs env al = some [.c (.own id 0 n), .c (.fn g [])]) (hn : n = l.length) (hσ : σv[id]? = some (some (vec 1 (fun a : Int => [I.val (.int .u32 a)]) l)))
  (hd : e6 sz dst = true) (hσ' : putF σv id (some (vec 1 (fun a : Int => [I.val (.int .u32 a)]) l')) = some σ') (h : AOps P σ0 sz ops Q rest (St.mk (putE env dst (.tup [])) σ')) :
  AOps P σ0 sz ops Q (⟨dst, .call ⟨.value x, al.toArray, ats⟩, ty, pos, after, none⟩ :: rest) (St.mk env σv) := by
 obtain ⟨k, m, rfl, rfl, h3⟩ := sortFU_get hs
 rw [vec_u32] at hσ hσ'
 exact S.sortF (α := U32) (fun a => .val (.int .u32 a.1)) h3 rfl (fun {a b r} h => hcmp h) hf hgn hx ha (by rw [hn]; simp) hσ hd hσ' h
end
end Ab
end
section
namespace Ab
open Go Go.Proofs
set_option linter.all false
abbrev g9 (l : List Int) : List I := [.sl 1 (l.map intI)]
structure i8 where
  pre : List Int
  add : List Int
  del : List Int
  cost : Int
abbrev d7 (v : i8) : List I := [.sl 1 (List.map intI v.pre), .sl 1 (List.map intI v.add), .sl 1 (List.map intI v.del), .val (.int .i64 v.cost)]
structure d8 where
  facts : Int
  init : List Int
  goal : List Int
  operators : List i8
abbrev eTTask (v : d8) : List I := [.val (.int .i64 v.facts), .sl 1 (List.map intI v.init), .sl 1 (List.map intI v.goal), .sl 4 (List.map d7 v.operators)]
structure k8 where
  code : Int
  index : Int
structure ae5 where
  fx : Int
  fy : Int
  signed : Bool
  code : Int
structure Truntime_boundsError where
  fx : Int
  fy : Int
  signed : Bool
  code : Int
structure ae6 where
  facts : Int
  init : List Int
  goal : List Int
  operators : List i8
structure TCode_int_Index_int where
  code : Int
  index : Int
structure d4 where
  fs : List Int
  fat : Int
  ffrom : Int
  op : Int
  change : Int
abbrev d6 (v : d4) : List I := [.sl 1 (List.map intI v.fs), .val (.int .i64 v.fat), .val (.int .i64 v.ffrom), .val (.int .i64 v.op), .val (.int .i64 v.change)]
structure al1 where
  fs : List Int
  fat : Int
  ffrom : Int
  op : Int
  change : Int
structure ao7 where
  pre : List Int
  add : List Int
  del : List Int
  cost : Int
structure r9 where
  ffrom : Int
  cost : Int
abbrev i7 (v : r9) : List I := [.val (.int .u32 v.ffrom), .val (.int .i64 v.cost)]
structure Tspace_Step_uint32 where
  op : Int
  cost : Int
  to : Int
structure TOp_int_Cost_int_To_uint32 where
  op : Int
  cost : Int
  to : Int
structure Tfrom_uint32_cost_int where
  ffrom : Int
  cost : Int
structure i6 where
  pre : Int
  add : Int
  del : Int
  cost : Int
abbrev d3 (v : i6) : List I := [.val (.int .u32 v.pre), .val (.int .u32 v.add), .val (.int .u32 v.del), .val (.int .i64 v.cost)]
structure ak9 where
  start : Int
  goal : Int
  ops : List i6
structure Tspace_Words where
  start : Int
  goal : Int
  ops : List i6
structure Tnode_int_from_int_step_int where
  node : List (List Int)
  ffrom : Int
  step : Int
structure f5 where
  node : List (List Int)
  ffrom : Int
  step : Int
abbrev g8 (v : f5) : List I := [.sl 1 (List.map g9 v.node), .val (.int .i64 v.ffrom), .val (.int .i64 v.step)]
structure ak2 where
  pre : Int
  add : Int
  del : Int
  cost : Int
structure ao0 where
  item : Int
  key : Int
  time : Int
  fat : Int
structure b9 where
  item : Int
  key : Int
  time : Int
  fat : Int
abbrev b8 (v : b9) : List I := [.val (.int .u32 v.item), .val (.int .i64 v.key), .val (.int .i64 v.time), .val (.int .i64 v.fat)]
def Q4 (l : List Int) (nv : Int) : Int → Unit → Option (Unit ⊕ Bool) := fun t3 _ => Option.bind (ix l t3) fun a12 => Option.bind (if a12 < 0 then some true else if nv ≤ a12 then some true else if 0 < t3 then Option.bind (ix l (t3 - 1)) fun a29 => some (decide (a12 ≤ a29)) else some false) fun t4 => if t4 = true then some (.inr false) else some (.inl ())
def C6 (l : List Int) (nv : Int) : Option Bool := (Option.bind (rngX 0 (l.length : Int) (Q4 l nv) ()) fun | .inl _ => some true | .inr x => some x)
def D2 (xv : Int) : Option Bool := some (!(decide (xv = xv)))
def S4 (xv : Int) (yv : Int) : Option Bool := Option.bind (Option.bind (D2 xv) fun a6 => if a6 = true then Option.bind (D2 yv) fun a9 => if (!a9) = true then some true else some (decide (xv < yv)) else some (decide (xv < yv))) fun t3 => some t3
def I5 (xv : Int) : Option Bool := some (!(decide (xv = xv)))
def w9 (xv : List Int) (target : Int) : (Int × Int) → Option ((Int × Int) ⊕ Int) := fun (iv3, j4) => if iv3 < j4 then Option.bind (ix xv (w64 (shrW .u64 ((IntKind.u64).wrap (w64 (iv3 + j4))) 1))) fun a24 => Option.bind (S4 a24 target) fun a27 => if a27 = true then some (.inl (w64 ((w64 (shrW .u64 ((IntKind.u64).wrap (w64 (iv3 + j4))) 1)) + 1), j4)) else some (.inl (iv3, w64 (shrW .u64 ((IntKind.u64).wrap (w64 (iv3 + j4))) 1))) else some (.inr iv3)
noncomputable def o9 (xv : List Int) (target : Int) : Option (Int × Bool) := Option.bind (Loop (w9 xv target) (0, (xv.length : Int))) fun iv5 => Option.bind (if iv5 < (xv.length : Int) then Option.bind (ix xv iv5) fun a38 => if a38 = target then some true else Option.bind (ix xv iv5) fun a45 => Option.bind (I5 a45) fun a47 => if a47 = true then Option.bind (I5 target) fun a50 => some a50 else some false else some false) fun t8 => some (iv5, t8)
noncomputable def T6 (xv : Int) (c2 : List Int) : Option Bool := Option.bind (o9 c2 xv) fun a9 => some a9.2
def A8 (sv : List Int) (fv : Int → Option Bool) : Int → Unit → Option (Unit ⊕ Int) := fun t3 _ => Option.bind (ix sv t3) fun a14 => Option.bind (fv a14) fun a16 => if a16 = true then some (.inr t3) else some (.inl ())
def C4 (sv : List Int) (fv : Int → Option Bool) : Option Int := (Option.bind (rngX 0 (sv.length : Int) (A8 sv fv) ()) fun | .inl _ => some (-1) | .inr x => some x)
def u9 (sv : List Int) (fv : Int → Option Bool) : Option Bool := Option.bind (C4 sv fv) fun a7 => some (decide (0 ≤ a7))
noncomputable def S1 (av : List Int) (bv : List Int) : Option Bool := Option.bind (u9 av (fun y1 => T6 y1 bv)) fun a7 => some a7
noncomputable def K5 (ov : i8) (facts : Int) : Option Int := Option.bind (Option.bind (C6 ov.pre facts) fun a9 => if (!a9) = true then some true else Option.bind (C6 ov.add facts) fun a15 => if (!a15) = true then some true else Option.bind (C6 ov.del facts) fun a22 => if (!a22) = true then some true else Option.bind (S1 ov.add ov.del) fun a30 => some a30) fun t3 => if t3 = true then some 5 else if ((decide (ov.cost < 0)) || (decide (100 < ov.cost))) = true then some 3 else some 0
noncomputable def E9 (t : d8) : Int → Unit → Option (Unit ⊕ k8) := fun t6 _ => Option.bind (ix t.operators t6) fun a44 => Option.bind (K5 a44 t.facts) fun a49 => if a49 = 0 then some (.inl ()) else some (.inr (⟨a49, t6⟩ : k8))
noncomputable def A7 (t : d8) : Option k8 := if ((decide (t.facts < 0)) || (decide (24 < t.facts))) = true then some (⟨3, -1⟩ : k8) else Option.bind (C6 t.init t.facts) fun a21 => if (!a21) = true then some (⟨5, -2⟩ : k8) else Option.bind (C6 t.goal t.facts) fun a29 => if (!a29) = true then some (⟨5, -3⟩ : k8) else if 40 < (t.operators.length : Int) then some (⟨2, -1⟩ : k8) else (Option.bind (rngX 0 (t.operators.length : Int) (E9 t) ()) fun | .inl _ => some (⟨0, 0⟩ : k8) | .inr x => some x)
def ab4 (operators : Int) (plan : List Int) : Int → Unit → Option (Unit ⊕ k8) := fun t4 _ => Option.bind (ix plan t4) fun a15 => if ((decide (a15 < 0)) || (decide (operators ≤ a15))) = true then some (.inr (⟨3, -6⟩ : k8)) else some (.inl ())
def R7 (operators : Int) (plan : List Int) : Option k8 := if 60 < (plan.length : Int) then some (⟨2, -5⟩ : k8) else (Option.bind (rngX 0 (plan.length : Int) (ab4 operators plan) ()) fun | .inl _ => some (⟨0, 0⟩ : k8) | .inr x => some x)
noncomputable def I6 (t : d8) (plan : List Int) : Option k8 := Option.bind (A7 t) fun a7 => if (!((decide (a7.code = 0)) && (decide (a7.index = 0)))) = true then some a7 else Option.bind (R7 (t.operators.length : Int) plan) fun a16 => some a16
def F3 (sv : List Int) (a12 : Int) : Int → Option (Int ⊕ Int) := fun iv5 => Option.bind (if iv5 < (sv.length : Int) then Option.bind (ix sv iv5) fun a21 => some (decide (a21 < a12)) else some false) fun t7 => if t7 = true then some (.inl (w64 (iv5 + 1))) else some (.inr iv5)
noncomputable def K8 (sv : List Int) (part : List Int) : Int → Int → Option (Int ⊕ Bool) := fun t4 iv3 => Option.bind (ix part t4) fun a12 => Option.bind (Loop (F3 sv a12) iv3) fun iv6 => Option.bind (if iv6 = (sv.length : Int) then some true else Option.bind (ix sv iv6) fun a35 => some (!(decide (a35 = a12)))) fun t11 => if t11 = true then some (.inr false) else some (.inl iv6)
noncomputable def B0 (sv : List Int) (part : List Int) : Option Bool := (Option.bind (rngX 0 (part.length : Int) (K8 sv part) 0) fun | .inl iv3 => some true | .inr x => some x)
noncomputable def V5 (sv : List Int) (c2 : List Int) : Option Bool := Option.bind (B0 sv c2) fun a6 => some (!a6)
def B6 (sv : List (List Int)) (fv : (List Int) → Option Bool) : Int → Unit → Option (Unit ⊕ Int) := fun t3 _ => Option.bind (ix sv t3) fun a14 => Option.bind (fv a14) fun a16 => if a16 = true then some (.inr t3) else some (.inl ())
def E8 (sv : List (List Int)) (fv : (List Int) → Option Bool) : Option Int := (Option.bind (rngX 0 (sv.length : Int) (B6 sv fv) ()) fun | .inl _ => some (-1) | .inr x => some x)
def x4 (sv : List (List Int)) (fv : (List Int) → Option Bool) : Option Bool := Option.bind (E8 sv fv) fun a7 => some (decide (0 ≤ a7))
noncomputable def U8 (worlds : List (List Int)) (facts : List Int) : Option Bool := Option.bind (x4 worlds (fun y1 => V5 y1 facts)) fun a7 => some (!a7)
noncomputable def W4 (sv : List Int) (del : List Int) : Int → (List Int) → Option (List Int) := fun t5 c4 => Option.bind (Option.bind (ix sv t5) fun a16 => Option.bind (o9 del a16) fun a21 => if (!a21.2) = true then Option.bind (app 8 c4 [a16]) fun a29 => some a29 else some c4) fun c6 => some c6
noncomputable def J6 (sv : List Int) (add : List Int) (del : List Int) : Option (List Int) := (Option.bind (forR 0 (sv.length : Int) (W4 sv del) []) fun c4 => Option.bind (app 8 c4 add) fun a33 => Option.bind (sortL a33) fun a35 => some (X2 a35))
noncomputable def M3 (t : d8) (sv : List Int) (op : Int) : Option (List Int) := Option.bind (ix t.operators op) fun a11 => Option.bind (J6 sv a11.add a11.del) fun a18 => some a18
def K1 (xv : Int) (yv : Int) : Option Int := Option.bind (D2 xv) fun a8 => Option.bind (D2 yv) fun a10 => if a8 = true then if a10 = true then some 0 else some (-1) else if a10 = true then some 1 else if xv < yv then some (-1) else if yv < xv then some 1 else some 0
def B8 (s11 : List Int) (s22 : List Int) : Int → Unit → Option (Unit ⊕ Int) := fun t3 _ => Option.bind (ix s11 t3) fun a14 => if (s22.length : Int) ≤ t3 then some (.inr 1) else Option.bind (ix s22 t3) fun a22 => Option.bind (K1 a14 a22) fun a26 => if a26 = 0 then some (.inl ()) else some (.inr a26)
def s6 (s11 : List Int) (s22 : List Int) : Option Int := (Option.bind (rngX 0 (s11.length : Int) (B8 s11 s22) ()) fun | .inl _ => if (s11.length : Int) < (s22.length : Int) then some (-1) else some 0 | .inr x => some x)
def J3 (s11 : List Int) (s22 : List Int) : Int → Unit → Option (Unit ⊕ Bool) := fun t4 _ => Option.bind (ix s11 t4) fun a18 => Option.bind (ix s22 t4) fun a22 => if a18 = a22 then some (.inl ()) else some (.inr false)
def y7 (s11 : List Int) (s22 : List Int) : Option Bool := if (s11.length : Int) = (s22.length : Int) then (Option.bind (rngX 0 (s11.length : Int) (J3 s11 s22) ()) fun | .inl _ => some true | .inr x => some x) else some false
abbrev w4 (l : List (List Int)) : b6 := [.one (vec 1 g9 l)]
def q8 (l : List (List Int)) (kv54 : Int) : Int → ((List (List Int)) × Int) → Option ((List (List Int)) × Int) := fun k258 (c56, kv57) => Option.bind (Option.bind (ixV c56 (0 + kv54) ((l.length : Int) - kv54) k258) fun a41 => Option.bind (ixV c56 (0 + kv54) ((l.length : Int) - kv54) (k258 - 1)) fun a46 => Option.bind (y7 a41 a46) fun a48 => if (!a48) = true then Option.bind (ixV c56 (0 + kv54) ((l.length : Int) - kv54) k258) fun a54 => Option.bind (ix c56 kv57) fun a56 => some (c56.set kv57.toNat a54, w64 (kv57 + 1)) else some (c56, kv57)) fun ⟨c59, kv60⟩ => some (c59, kv60)
def o8 (l : List (List Int)) : Int → Unit → Option (Unit ⊕ (List (List Int))) := fun kv54 _ => Option.bind (ix l kv54) fun a21 => Option.bind (ix l (kv54 - 1)) fun a26 => Option.bind (y7 a21 a26) fun a28 => if a28 = true then Option.bind (cutV (l.length : Int) kv54 (l.length : Int)) fun u31 => (Option.bind (forR 1 ((l.length : Int) - kv54) (q8 l kv54) (l, kv54)) fun ⟨c56, kv57⟩ => Option.bind (cutV (c56.length : Int) kv57 (c56.length : Int)) fun u61 => Option.bind (cutV ((clrL c56 (0 + kv57) ((c56.length : Int) - kv57) []).length : Int) 0 kv57) fun u64 => some (.inr (n3 (clrL c56 (0 + kv57) ((c56.length : Int) - kv57) []) 0 kv57))) else some (.inl ())
def u3 (l : List (List Int)) : Option (List (List Int)) := if (l.length : Int) < 2 then some l else (Option.bind (rngX 1 (l.length : Int) (o8 l) ()) fun | .inl _ => some l | .inr x => some x)
abbrev ao4 (l : List (List Int)) : b6 := [.one (vec 1 g9 l)]
noncomputable def L7 (l : List (List Int)) : Option (List (List Int)) := Option.bind (ab0 s6 l) fun a4 => Option.bind (u3 a4) fun a6 => some a6
noncomputable def K4 (t : d8) (worlds : List (List Int)) (op : Int) : Int → (List (List Int)) → Option (List (List Int)) := fun t5 c4 => Option.bind (ix worlds t5) fun a14 => Option.bind (M3 t a14 op) fun a20 => Option.bind (app 24 c4 [a20]) fun a22 => some a22
noncomputable def N2 (t : d8) (worlds : List (List Int)) (op : Int) : Option (List (List Int)) := (Option.bind (forR 0 (worlds.length : Int) (K4 t worlds op) []) fun c4 => Option.bind (L7 c4) fun a25 => some a25)
abbrev aj6 (t : d8) (worlds : List (List Int)) : b6 := []
def I9 (t : d8) (worlds : List (List Int)) : Option Unit := some ()
def K3 (v : List (List Int)) : Option Bool := some false
def internal_strconv_small (iv : Int) : Option ByteArray := if iv < 10 then Option.bind (subS (⟨#[48, 49, 50, 51, 52, 53, 54, 55, 56, 57, 97, 98, 99, 100, 101, 102, 103, 104, 105, 106, 107, 108, 109, 110, 111, 112, 113, 114, 115, 116, 117, 118, 119, 120, 121, 122]⟩ : ByteArray) iv (w64 (iv + 1))) fun a8 => some a8 else Option.bind (subS (⟨#[48, 48, 48, 49, 48, 50, 48, 51, 48, 52, 48, 53, 48, 54, 48, 55, 48, 56, 48, 57, 49, 48, 49, 49, 49, 50, 49, 51, 49, 52, 49, 53, 49, 54, 49, 55, 49, 56, 49, 57, 50, 48, 50, 49, 50, 50, 50, 51, 50, 52, 50, 53, 50, 54, 50, 55, 50, 56, 50, 57, 51, 48, 51, 49, 51, 50, 51, 51, 51, 52, 51, 53, 51, 54, 51, 55, 51, 56, 51, 57, 52, 48, 52, 49, 52, 50, 52, 51, 52, 52, 52, 53, 52, 54, 52, 55, 52, 56, 52, 57, 53, 48, 53, 49, 53, 50, 53, 51, 53, 52, 53, 53, 53, 54, 53, 55, 53, 56, 53, 57, 54, 48, 54, 49, 54, 50, 54, 51, 54, 52, 54, 53, 54, 54, 54, 55, 54, 56, 54, 57, 55, 48, 55, 49, 55, 50, 55, 51, 55, 52, 55, 53, 55, 54, 55, 55, 55, 56, 55, 57, 56, 48, 56, 49, 56, 50, 56, 51, 56, 52, 56, 53, 56, 54, 56, 55, 56, 56, 56, 57, 57, 48, 57, 49, 57, 50, 57, 51, 57, 52, 57, 53, 57, 54, 57, 55, 57, 56, 57, 57]⟩ : ByteArray) (w64 (iv * 2)) (w64 ((w64 (iv * 2)) + 2))) fun a14 => some a14
abbrev U4 (iv : Int) (base : Int) (l : List Int) : b6 := [.one (vec 1 eU8 l)]
def w8 (iv : Int) (base : Int) (l : List Int) : Option (List Int) := if base = 10 then if iv < 100 then Option.bind (internal_strconv_small (w64 iv)) fun a16 => Option.bind (app 1 l (strL a16)) fun a17 => some a17 else none else none
abbrev W9 (iv : Int) (base : Int) (l : List Int) : b6 := [.one (vec 1 eU8 l)]
def x8 (iv : Int) (base : Int) (l : List Int) : Option (List Int) := Option.bind (if iv < 0 then none else some ()) fun _ => Option.bind (w8 ((IntKind.u64).wrap iv) base l) fun a20 => some a20
abbrev ah8 (iv : Int) (base : Int) (l : List Int) : b6 := [.one (vec 1 eU8 l)]
def z2 (iv : Int) (base : Int) (l : List Int) : Option (List Int) := Option.bind (x8 iv base l) fun a10 => some a10
def ae3 (a12 : List Int) : Int → (List Int) → Option (List Int) := fun t5 c4 => Option.bind (ix a12 t5) fun a18 => Option.bind (z2 a18 10 c4) fun a22 => Option.bind (app 1 a22 [44]) fun a24 => some a24
def ae1 (l : List (List Int)) : Int → (List Int) → Option (List Int) := fun t3 c2 => Option.bind (ix l t3) fun a12 => (Option.bind (forR 0 (a12.length : Int) (ae3 a12) c2) fun c4 => Option.bind (app 1 c4 [59]) fun a28 => some a28)
def E6 (l : List (List Int)) : Option ByteArray := (Option.bind (forR 0 (l.length : Int) (ae1 l) []) fun c2 => some (strB c2))
noncomputable def T2 (t : d8) (sv : List Int) (op : Int) : Option Bool := Option.bind (ix t.operators op) fun a11 => Option.bind (B0 sv a11.pre) fun a14 => some a14
abbrev ap2 (t : d8) : b6 := []
def V2 (t : d8) : Option Unit := some ()
abbrev an8 (worlds : List (List Int)) (Facts : Int) (Init : List Int) (Goal : List Int) (Operators : List i8) : b6 := [.one (.cells 4 [[int Facts, row 1 intI Init, row 1 intI Goal, row 4 d7 Operators]])]
def Q3 (worlds : List (List Int)) (Facts : Int) (Init : List Int) (Goal : List Int) (Operators : List i8) : Option Unit := Option.bind (I9 (⟨Facts, Init, Goal, Operators⟩ : d8) worlds) fun a6 => some ()
abbrev D4 (start : List (List Int)) (Facts : Int) (Init : List Int) (Goal : List Int) (Operators : List i8) : b6 := [.one (.cells 4 [[int Facts, row 1 intI Init, row 1 intI Goal, row 4 d7 Operators]])]
def T7 (c59 : List f5) : ((List Int) × Int) → Option (((List Int) × Int) ⊕ (List Int)) := fun (c64, iv65) => Option.bind (ix c59 iv65) fun a43 => if 0 ≤ a43.ffrom then Option.bind (ix c59 iv65) fun a55 => Option.bind (app 8 c64 [a55.step]) fun a59 => Option.bind (ix c59 iv65) fun a49 => some (.inl (a59, a49.ffrom)) else some (.inr c64)
noncomputable def D6 (Facts : Int) (Init : List Int) (Goal : List Int) (Operators : List i8) (c61 : Int) (a66 : f5) : Int → ((List (ByteArray × Int)) × (List f5)) → Option (((List (ByteArray × Int)) × (List f5)) ⊕ (((List (ByteArray × Int)) × (List f5)) ⊕ ((List (ByteArray × Int)) × (List f5)))) := fun t75 (c73, c74) => Option.bind (ix Operators t75) fun ai12 => Option.bind (U8 a66.node ai12.pre) fun ai17 => if ai17 = true then Option.bind (N2 (⟨Facts, Init, Goal, Operators⟩ : d8) a66.node t75) fun ai24 => Option.bind (E6 ai24) fun ab74 => if 0 < Option.getD (mget c73 ab74) 0 then some (.inl (c73, c74)) else if (c74.length : Int) = 2000 then some (.inr (.inr (c73, c74))) else Option.bind (app 40 c74 [(⟨ai24, c61, t75⟩ : f5)]) fun ab90 => some (.inl (mset c73 ab74 1, ab90)) else some (.inl (c73, c74))
noncomputable def A0 (Facts : Int) (Init : List Int) (Goal : List Int) (Operators : List i8) (c59 : List f5) (c60 : List (ByteArray × Int)) (c61 : Int) (a66 : f5) : Option (((List (ByteArray × Int)) × (List f5)) ⊕ ((List (ByteArray × Int)) × (List f5))) := (Option.bind (rngX 0 (Operators.length : Int) (D6 Facts Init Goal Operators c61 a66) (c60, c59)) fun | .inl (c73, c74) => some (.inl (c73, c74)) | .inr x => some x)
noncomputable def D5 (Facts : Int) (Init : List Int) (Goal : List Int) (Operators : List i8) : ((List f5) × (List (ByteArray × Int)) × Int) → Option (((List f5) × (List (ByteArray × Int)) × Int) ⊕ (Unit ⊕ ((List Int) × Bool × Bool))) := fun (c59, c60, c61) => if c61 < (c59.length : Int) then Option.bind (ix c59 c61) fun a36 => Option.bind (K3 a36.node) fun a39 => if a39 = true then Option.bind (Loop (T7 c59) ([], c61)) fun c66 => some (.inr (.inr (c66.reverse, true, true))) else Option.bind (ix c59 c61) fun a66 => Option.bind (Q3 a66.node Facts Init Goal Operators) fun a69 => Option.bind (A0 Facts Init Goal Operators c59 c60 c61 a66) fun | .inl (c69, c70) => some (.inl (c70, c69, w64 (c61 + 1))) | .inr (c71, c72) => some (.inr (.inr ([], false, false))) else some (.inr (.inl ()))
noncomputable def H6 (start : List (List Int)) (Facts : Int) (Init : List Int) (Goal : List Int) (Operators : List i8) : Option ((List Int) × Bool × Bool) := Option.bind (E6 start) fun a25 => Option.bind (Loop (D5 Facts Init Goal Operators) ([(⟨start, -1, 0⟩ : f5)], mset ([] : List (ByteArray × Int)) a25 1, 0)) fun | .inl _ => some ([], false, true) | .inr x => some x
abbrev ak4 (l : List (List Int)) (Facts : Int) (Init : List Int) (Goal : List Int) (Operators : List i8) : b6 := [.one (vec 1 g9 l), .one (.cells 4 [[int Facts, row 1 intI Init, row 1 intI Goal, row 4 d7 Operators]])]
noncomputable def F1 (l : List (List Int)) (Facts : Int) (Init : List Int) (Goal : List Int) (Operators : List i8) : Option Bool := Option.bind (H6 l Facts Init Goal Operators) fun a14 => some a14.2.2
abbrev Q7 (nv : d4) (t : d8) (plan : List Int) (l : List d4) (l5 : List (List Int)) (l6 : List (ByteArray × Int)) : b6 := [.one (.cells 8 [[int t.facts, row 1 intI t.init, row 1 intI t.goal, row 4 d7 t.operators, row 1 intI plan, .own 1 0 l.length, .own 2 0 l5.length, .map 3]]), .one (vec 5 d6 l), mat (2, []) 1 intI l5, .one (mapB Value.string (Value.int .i64) l6)]
def x5 (nv : d4) : (List (List Int)) → Option ((List (List Int)) ⊕ (List (List Int))) := fun c61 => if (c61.length : Int) ≤ nv.change then Option.bind (app 24 c61 [[]]) fun a61 => some (.inl a61) else some (.inr c61)
noncomputable def m9 (nv : d4) (t : d8) (plan : List Int) (l : List d4) (l5 : List (List Int)) (l6 : List (ByteArray × Int)) : Option ((List (ByteArray × Int)) × (List d4) × (List (List Int))) := Option.bind (E6 ([nv.fs, [nv.fat]])) fun a13 => if ((Option.isSome (mget l6 a13)) && (decide (Option.getD (mget l6 a13) 0 ≤ nv.change))) = true then some (l6, l, l5) else Option.bind (app 56 l [nv]) fun a44 => Option.bind (Loop (x5 nv) l5) fun c62 => Option.bind (ix c62 nv.change) fun a76 => Option.bind (app 8 a76 [w64 ((a44.length : Int) - 1)]) fun a85 => Option.bind (ix c62 nv.change) fun a86 => some (mset l6 a13 nv.change, a44, c62.set nv.change.toNat a85)
abbrev O5 (iv : Int) (t : d8) (plan : List Int) (l : List d4) (l5 : List (List Int)) (l6 : List (ByteArray × Int)) : b6 := [.one (.cells 8 [[int t.facts, row 1 intI t.init, row 1 intI t.goal, row 4 d7 t.operators, row 1 intI plan, .own 1 0 l.length, .own 2 0 l5.length, .map 3]]), .one (vec 5 d6 l), mat (2, []) 1 intI l5, .one (mapB Value.string (Value.int .i64) l6)]
def q9 (l : List d4) : ((List Int) × Int) → Option (((List Int) × Int) ⊕ (List Int)) := fun (c58, iv59) => if 0 ≤ iv59 then Option.bind (Option.bind (ix l iv59) fun a22 => if 0 ≤ a22.op then Option.bind (app 8 c58 [a22.op]) fun a30 => some a30 else some c58) fun c62 => Option.bind (ix l iv59) fun a14 => some (.inl (c62, a14.ffrom)) else some (.inr c58)
noncomputable def z7 (iv : Int) (t : d8) (plan : List Int) (l : List d4) (l5 : List (List Int)) (l6 : List (ByteArray × Int)) : Option (List Int) := Option.bind (Loop (q9 l) ([], iv)) fun c60 => some c60.reverse
abbrev aj7 (t : d8) (sv : List Int) : b6 := []
def D9 (t : d8) (sv : List Int) : Option Unit := some ()
abbrev ac4 (iv : Int) (t : d8) (plan : List Int) (l : List d4) (l5 : List (List Int)) (l6 : List (ByteArray × Int)) : b6 := [.one (.cells 8 [[int t.facts, row 1 intI t.init, row 1 intI t.goal, row 4 d7 t.operators, row 1 intI plan, .own 1 0 l.length, .own 2 0 l5.length, .map 3]]), .one (vec 5 d6 l), mat (2, []) 1 intI l5, .one (mapB Value.string (Value.int .i64) l6)]
noncomputable def A5 (iv : Int) (t : d8) (plan : List Int) (a13 : d4) : Int → ((List (ByteArray × Int)) × (List d4) × (List (List Int))) → Option ((List (ByteArray × Int)) × (List d4) × (List (List Int))) := fun t77 (c74, c75, c76) => Option.bind (T2 t a13.fs t77) fun ai14 => if ai14 = true then Option.bind (M3 t a13.fs t77) fun ai21 => Option.bind (m9 (⟨ai21, a13.fat, iv, t77, w64 (a13.change + 1)⟩ : d4) t plan c75 c76 c74) fun ab88 => some (ab88.1, ab88.2.1, ab88.2.2) else some (c74, c75, c76)
noncomputable def v6 (iv : Int) (t : d8) (plan : List Int) (a13 : d4) (c60 : List (ByteArray × Int)) (c61 : List d4) (c62 : List (List Int)) : Option ((List (ByteArray × Int)) × (List d4) × (List (List Int))) := (Option.bind (forR 0 (t.operators.length : Int) (A5 iv t plan a13) (c60, c61, c62)) fun ⟨c74, c75, c76⟩ => some (c74, c75, c76))
noncomputable def y4 (iv : Int) (t : d8) (plan : List Int) (l : List d4) (l5 : List (List Int)) (l6 : List (ByteArray × Int)) : Option ((List (ByteArray × Int)) × (List d4) × (List (List Int))) := Option.bind (ix l iv) fun a13 => Option.bind (if a13.fat < (plan.length : Int) then Option.bind (ix plan a13.fat) fun a29 => Option.bind (Option.bind (T2 t a13.fs a29) fun a38 => if a38 = true then Option.bind (M3 t a13.fs a29) fun a47 => Option.bind (m9 (⟨a47, w64 (a13.fat + 1), iv, a29, a13.change⟩ : d4) t plan l l5 l6) fun a56 => some (a56.1, a56.2.1, a56.2.2) else some (l6, l, l5)) fun ⟨c65, c66, c67⟩ => Option.bind (m9 (⟨a13.fs, w64 (a13.fat + 1), iv, -1, w64 (a13.change + 1)⟩ : d4) t plan c66 c67 c65) fun a68 => some (a68.1, a68.2.1, a68.2.2) else some (l6, l, l5)) fun ⟨c60, c61, c62⟩ => Option.bind (D9 t a13.fs) fun a75 => Option.bind (v6 iv t plan a13 c60 c61 c62) fun ⟨c71, c72, c73⟩ => some (c71, c72, c73)
noncomputable def N7 (t : d8) (plan : List Int) (change8 : Int) : ((List (ByteArray × Int)) × (List d4) × (List (List Int)) × Int) → Option (((List (ByteArray × Int)) × (List d4) × (List (List Int)) × Int) ⊕ (((List (ByteArray × Int)) × (List d4) × (List (List Int))) ⊕ ((List Int) × Int × Bool × k8))) := fun (c10, c11, c12, j13) => Option.bind (ix c12 change8) fun a54 => if j13 < (a54.length : Int) then Option.bind (ix c12 change8) fun a65 => Option.bind (ix a65 j13) fun a68 => Option.bind (Option.bind (ix c11 a68) fun a75 => if a75.fat = (plan.length : Int) then Option.bind (ix c11 a68) fun a87 => Option.bind (B0 a87.fs t.goal) fun a92 => some a92 else some false) fun t18 => if t18 = true then Option.bind (z7 a68 t plan c11 c12 c10) fun a96 => if 60 < (a96.length : Int) then some (.inr (.inr ([], 0, false, (⟨10, -5⟩ : k8)))) else some (.inr (.inr (a96, change8, true, (⟨0, 0⟩ : k8)))) else Option.bind (y4 a68 t plan c11 c12 c10) fun a106 => some (.inl (a106.1, a106.2.1, a106.2.2, w64 (j13 + 1))) else some (.inr (.inl (c10, c11, c12)))
noncomputable def N0 (t : d8) (plan : List Int) : ((List (ByteArray × Int)) × (List d4) × (List (List Int)) × Int) → Option (((List (ByteArray × Int)) × (List d4) × (List (List Int)) × Int) ⊕ (Unit ⊕ ((List Int) × Int × Bool × k8))) := fun (c5, c6, c7, change8) => if change8 < (c7.length : Int) then Option.bind (Loop (N7 t plan change8) (c5, c6, c7, 0)) fun | .inl (c14, c15, c16) => some (.inl (c14, c15, c16, w64 (change8 + 1))) | .inr x => some (.inr (.inr x)) else some (.inr (.inl ()))
noncomputable def M4 (t : d8) (plan : List Int) : Option ((List Int) × Int × Bool × k8) := Option.bind (I6 t plan) fun a16 => if (!((decide (a16.code = 0)) && (decide (a16.index = 0)))) = true then some ([], 0, false, a16) else Option.bind (V2 t) fun a25 => Option.bind (F1 [t.init] t.facts t.init t.goal t.operators) fun a26 => if (!a26) = true then some ([], 0, false, (⟨10, -7⟩ : k8)) else Option.bind (m9 (⟨t.init, 0, -1, -1, 0⟩ : d4) t plan ([] : List d4) ([] : List (List Int)) ([] : List (ByteArray × Int))) fun a38 => Option.bind (Loop (N0 t plan) (a38.1, a38.2.1, a38.2.2, 0)) fun | .inl _ => some ([], 0, false, (⟨0, 0⟩ : k8)) | .inr x => some x
def V7 (sv : List Int) : Int → Int → Option Int := fun t3 w2 => Option.bind (ix sv t3) fun a10 => Option.bind (chk0 a10) fun u14 => some (Go.bits .or .u32 w2 (shlW .u32 1 a10))
def H5 (sv : List Int) : Option Int := (Option.bind (forR 0 (sv.length : Int) (V7 sv) 0) fun w2 => some w2)
def S9 (w : Int) : Int → (List Int) → Option (List Int) := fun t3 c2 => Option.bind (if Go.bits .and .u32 (shrW .u32 w t3) 1 = 1 then Option.bind (app 8 c2 [t3]) fun a16 => some a16 else some c2) fun c4 => some c4
def P2 (w : Int) : Option (List Int) := (Option.bind (forR 0 32 (S9 w) []) fun c2 => some c2)
def F5 (av : Int) (bv : Int) : Option Int := Option.bind (P2 av) fun a6 => Option.bind (P2 bv) fun a8 => Option.bind (s6 a6 a8) fun a9 => some a9
abbrev am6 (t : d8) : b6 := []
def V8 (t : d8) : Int → (List i6) → Option (List i6) := fun t56 c55 => Option.bind (ix t.operators t56) fun a19 => Option.bind (H5 a19.pre) fun a28 => Option.bind (H5 a19.add) fun a31 => Option.bind (H5 a19.del) fun a34 => Option.bind (app 24 c55 [(⟨a28, a31, a34, a19.cost⟩ : i6)]) fun a39 => some a39
def aa4 (t : d8) : Option (Int × Int × (List i6)) := Option.bind (H5 t.init) fun a8 => Option.bind (H5 t.goal) fun a11 => (Option.bind (forR 0 (t.operators.length : Int) (V8 t) []) fun c55 => some (a8, a11, c55))
abbrev aj4 (start : Int) (goal : Int) (l : List i6) : b6 := [.one (.cells 3 [[.imm (.val (.int .u32 start)), .imm (.val (.int .u32 goal)), .own 1 0 l.length]]), .one (vec 4 d3 l)]
def w7 (start : Int) (goal : Int) (l : List i6) : Option Unit := some ()
abbrev aj5 (sv : Int) (start : Int) (goal : Int) (l : List i6) : b6 := [.one (.cells 3 [[.imm (.val (.int .u32 start)), .imm (.val (.int .u32 goal)), .own 1 0 l.length]]), .one (vec 4 d3 l)]
def B1 (sv : Int) (start : Int) (goal : Int) (l : List i6) : Option Unit := some ()
abbrev M8 (start : Int) (goal : Int) (l : List i6) : b6 := [.one (.cells 3 [[.imm (.val (.int .u32 start)), .imm (.val (.int .u32 goal)), .own 1 0 l.length]]), .one (vec 4 d3 l)]
def F6 (l : List i6) (a26 : Int) (u32 : Unit) : Int → ((List (Int × Unit)) × (List Int)) → Option ((List (Int × Unit)) × (List Int)) := fun t66 (c64, c65) => Option.bind (ix l t66) fun ai14 => if Go.bits .and .u32 a26 ai14.pre = ai14.pre then if (!(Option.isSome (mget c64 (Go.bits .or .u32 (Go.bits .andNot .u32 a26 ai14.del) ai14.add)))) = true then Option.bind (app 4 c65 [Go.bits .or .u32 (Go.bits .andNot .u32 a26 ai14.del) ai14.add]) fun ab58 => some (mset c64 (Go.bits .or .u32 (Go.bits .andNot .u32 a26 ai14.del) ai14.add) (), ab58) else some (c64, c65) else some (c64, c65)
def F9 (l : List i6) (c56 : List Int) (c57 : List (Int × Unit)) (a26 : Int) (u32 : Unit) : Option ((List (Int × Unit)) × (List Int)) := (Option.bind (forR 0 (l.length : Int) (F6 l a26 u32) (c57, n3 c56 0 ((c56.length : Int) - 1))) fun ⟨c64, c65⟩ => some (c64, c65))
def G1 (start : Int) (goal : Int) (l : List i6) : ((List Int) × (List (Int × Unit)) × (List Int)) → Option (((List Int) × (List (Int × Unit)) × (List Int)) ⊕ ((List Int) ⊕ ((List Int) × Bool))) := fun (c56, c57, c58) => if 0 < (c56.length : Int) then Option.bind (ix c56 ((c56.length : Int) - 1)) fun a26 => Option.bind (cutV (c56.length : Int) 0 ((c56.length : Int) - 1)) fun u32 => Option.bind (app 4 c58 [a26]) fun a36 => Option.bind (B1 a26 start goal l) fun a39 => Option.bind (F9 l c56 c57 a26 u32) fun ⟨c62, c63⟩ => if 2000 < (c62.length : Int) then some (.inr (.inr ([], false))) else some (.inl (c63, c62, a36)) else some (.inr (.inl c58))
noncomputable def F0 (start : Int) (goal : Int) (l : List i6) : Option ((List Int) × Bool) := Option.bind (w7 start goal l) fun a12 => Option.bind (w7 start goal l) fun a16 => Option.bind (Loop (G1 start goal l) ([start], mset ([] : List (Int × Unit)) start (), [])) fun | .inl c59 => some (c59, true) | .inr x => some x
abbrev an6 (t : d8) : b6 := []
noncomputable def C0 (t : d8) : Option ((Int × Int) ⊕ (Int × Int × (List i6) × (List Int))) := Option.bind (A7 t) fun a10 => if (!((decide (a10.code = 0)) && (decide (a10.index = 0)))) = true then some (.inl (a10.code, a10.index)) else Option.bind (aa4 t) fun a16 => Option.bind (F0 a16.1 a16.2.1 a16.2.2) fun a20 => if (!a20.2) = true then some (.inl (10, -7)) else Option.bind (sortFU F5 a20.1) fun a27 => some (.inr (a16.1, a16.2.1, a16.2.2, a27))
abbrev ag0 : b6 := []
def G2 : Option Unit := some ()
abbrev aj1 (sv : Int) (start : Int) (goal : Int) (l : List i6) : b6 := [.one (.cells 3 [[.imm (.val (.int .u32 start)), .imm (.val (.int .u32 goal)), .own 1 0 l.length]]), .one (vec 4 d3 l)]
def J0 (sv : Int) (start : Int) (goal : Int) (l : List i6) : Option Unit := some ()
abbrev aa1 (l : List Int) (l2 : List b9) : b6 := [.one (prow 1 l), pool 4 b8 l2]
def n8 (l : List Int) (l2 : List b9) : Option Unit := some ()
abbrev Y9 (iv : Int) (kv : Int) (l : List Int) (l4 : List b9) : b6 := [.one (prow 1 l), pool 4 b8 l4]
def m5 (iv : Int) (kv : Int) (l : List Int) (l4 : List b9) : Option Bool := Option.bind (ix l iv) fun a9 => Option.bind (ix l4 a9) fun en56 => Option.bind (ix l kv) fun a16 => Option.bind (ix l4 a16) fun en57 => some ((decide (en56.key < en57.key)) || ((decide (en56.key = en57.key)) && (decide (en56.time < en57.time))))
abbrev Y4 (iv : Int) (kv : Int) (l : List Int) (l4 : List b9) : b6 := [.one (prow 1 l), pool 4 b8 l4]
def m4 (iv : Int) (kv : Int) (l : List Int) (l4 : List b9) : Option ((List Int) × (List b9)) := Option.bind (ix l kv) fun a12 => Option.bind (ix l iv) fun a16 => Option.bind (ix ((l.set iv.toNat a12).set kv.toNat a16) iv) fun ha57 => Option.bind (ix ((l.set iv.toNat a12).set kv.toNat a16) kv) fun ha58 => Option.bind (ix l4 ha57) fun en59 => Option.bind (ix (l4.set ha57.toNat (⟨en59.item, en59.key, en59.time, iv⟩ : b9)) ha58) fun en60 => some ((l.set iv.toNat a12).set kv.toNat a16, (l4.set ha57.toNat (⟨en59.item, en59.key, en59.time, iv⟩ : b9)).set ha58.toNat (⟨en60.item, en60.key, en60.time, kv⟩ : b9))
abbrev R2 (i01 : Int) (nv : Int) (time : Int) (l : List Int) (l5 : List (Int × Int)) (l6 : List b9) : b6 := [.one (.cells 3 [[.own 1 0 l.length, .map 2, int time]]), .one (prow 3 l), .one (pmap 3 (Value.int .u32) l5), pool 4 b8 l6]
def s9 (nv : Int) : ((List Int) × (List b9) × Int) → Option (((List Int) × (List b9) × Int) ⊕ ((List Int) × (List b9) × Int)) := fun (c60, c61, iv62) => if ((decide (nv ≤ w64 ((w64 (2 * iv62)) + 1))) || (decide (w64 ((w64 (2 * iv62)) + 1) < 0))) = true then some (.inr (c60, c61, iv62)) else Option.bind (Option.bind (if w64 ((w64 ((w64 (2 * iv62)) + 1)) + 1) < nv then Option.bind (m5 (w64 ((w64 ((w64 (2 * iv62)) + 1)) + 1)) (w64 ((w64 (2 * iv62)) + 1)) c60 c61) fun a32 => some a32 else some false) fun t69 => if t69 = true then some (w64 ((w64 ((w64 (2 * iv62)) + 1)) + 1)) else some (w64 ((w64 (2 * iv62)) + 1))) fun j67 => Option.bind (m5 j67 iv62 c60 c61) fun a38 => if (!a38) = true then some (.inr (c60, c61, iv62)) else Option.bind (m4 iv62 j67 c60 c61) fun a43 => Option.bind (ab2 c60 a43.1) fun u74 => some (.inl (a43.1, a43.2, j67))
noncomputable def x7 (i01 : Int) (nv : Int) (time : Int) (l : List Int) (l5 : List (Int × Int)) (l6 : List b9) : Option ((List Int) × (List b9) × Bool) := Option.bind (Loop (s9 nv) (l, l6, i01)) fun ⟨c63, c64, iv65⟩ => some (c63, c64, decide (i01 < iv65))
abbrev U5 (j : Int) (time : Int) (l : List Int) (l4 : List (Int × Int)) (l5 : List b9) : b6 := [.one (.cells 3 [[.own 1 0 l.length, .map 2, int time]]), .one (prow 3 l), .one (pmap 3 (Value.int .u32) l4), pool 4 b8 l5]
def E7 : ((List Int) × (List b9) × Int) → Option (((List Int) × (List b9) × Int) ⊕ ((List Int) × (List b9))) := fun (c58, c59, j60) => Option.bind (chkN 2) fun u7 => Option.bind (if w64 ((w64 (j60 - 1)).tdiv 2) = j60 then some true else Option.bind (m5 j60 (w64 ((w64 (j60 - 1)).tdiv 2)) c58 c59) fun a15 => some (!a15)) fun t63 => if t63 = true then some (.inr (c58, c59)) else Option.bind (m4 (w64 ((w64 (j60 - 1)).tdiv 2)) j60 c58 c59) fun a21 => Option.bind (ab2 c58 a21.1) fun u67 => some (.inl (a21.1, a21.2, w64 ((w64 (j60 - 1)).tdiv 2)))
noncomputable def B2 (j : Int) (time : Int) (l : List Int) (l4 : List (Int × Int)) (l5 : List b9) : Option ((List Int) × (List b9)) := Option.bind (Loop E7 (l, l5, j)) fun ⟨c61, c62⟩ => some (c61, c62)
abbrev ah7 (iv : Int) (time : Int) (l : List Int) (l4 : List (Int × Int)) (l5 : List b9) : b6 := [.one (.cells 3 [[.own 1 0 l.length, .map 2, int time]]), .one (prow 3 l), .one (pmap 3 (Value.int .u32) l4), pool 4 b8 l5]
noncomputable def z6 (iv : Int) (time : Int) (l : List Int) (l4 : List (Int × Int)) (l5 : List b9) : Option ((List Int) × (List b9)) := Option.bind (n8 l l5) fun a7 => Option.bind (x7 iv (l.length : Int) time l l4 l5) fun a8 => if (!a8.2.2) = true then Option.bind (B2 iv time a8.1 l4 a8.2.1) fun a12 => some (a12.1, a12.2) else some (a8.1, a8.2.1)
abbrev W2 (xv : Int) (time : Int) (l : List b9) (l4 : List Int) (l5 : List (Int × Int)) : b6 := [.one (.cells 3 [[.own 2 0 l4.length, .map 3, int time]]), pool 4 b8 l, .one (prow 1 l4), .one (pmap 1 (Value.int .u32) l5)]
def x9 (xv : Int) (time : Int) (l : List b9) (l4 : List Int) (l5 : List (Int × Int)) : Option ((List b9) × (List Int)) := Option.bind (ix l xv) fun en58 => Option.bind (app 8 l4 [xv]) fun a20 => some (l.set xv.toNat (⟨en58.item, en58.key, en58.time, (l4.length : Int)⟩ : b9), a20)
abbrev ah4 (xv : Int) (time : Int) (l : List b9) (l4 : List Int) (l5 : List (Int × Int)) : b6 := [.one (.cells 3 [[.own 2 0 l4.length, .map 3, int time]]), pool 4 b8 l, .one (prow 1 l4), .one (pmap 1 (Value.int .u32) l5)]
noncomputable def x6 (xv : Int) (time : Int) (l : List b9) (l4 : List Int) (l5 : List (Int × Int)) : Option ((List b9) × (List Int)) := Option.bind (x9 xv time l l4 l5) fun a6 => Option.bind (n8 a6.2 a6.1) fun a9 => Option.bind (B2 (w64 ((a6.2.length : Int) - 1)) time a6.2 l5 a6.1) fun a11 => some (a11.2, a11.1)
abbrev aa0 (item : Int) (key : Int) (time : Int) (l : List Int) (l5 : List (Int × Int)) (l6 : List b9) : b6 := [.one (.cells 3 [[.own 1 0 l.length, .map 2, int time]]), .one (prow 3 l), .one (pmap 3 (Value.int .u32) l5), pool 4 b8 l6]
noncomputable def o5 (item : Int) (key : Int) (time : Int) (l : List Int) (l5 : List (Int × Int)) (l6 : List b9) : Option ((List (Int × Int)) × (List Int) × (List b9)) := if (Option.isSome (mget l5 item)) = true then Option.bind (mget l5 item) fun ap61 => Option.bind (ix l6 ap61) fun en62 => Option.bind (z6 en62.fat (w64 (time + 1)) l l5 ((l6.set ap61.toNat (⟨en62.item, key, en62.time, en62.fat⟩ : b9)).set ap61.toNat (⟨en62.item, key, w64 (time + 1), en62.fat⟩ : b9))) fun a45 => some (l5, a45.1, a45.2) else Option.bind (chkH l6.length (List.map (·.2) l5)) fun u63 => Option.bind (chkH l6.length l) fun u64 => Option.bind (x6 (l6.length : Int) (w64 (time + 1)) (l6 ++ [(⟨item, key, w64 (time + 1), 0⟩ : b9)]) l (mset l5 item (l6.length : Int))) fun a66 => some (mset l5 item (l6.length : Int), a66.2, a66.1)
abbrev ab1 (time : Int) (l : List Int) (l3 : List (Int × Int)) (l4 : List b9) : b6 := [.one (.cells 3 [[.own 1 0 l.length, .map 2, int time]]), .one (prow 3 l), .one (pmap 3 (Value.int .u32) l3), pool 4 b8 l4]
def A6 (time : Int) (l : List Int) (l3 : List (Int × Int)) (l4 : List b9) : Option Unit := some ()
abbrev W0 (iv : Int) (kv : Int) (l : List Int) (l4 : List b9) : b6 := [.one (prow 1 l), pool 4 b8 l4]
def s7 (iv : Int) (kv : Int) (l : List Int) (l4 : List b9) : Option ((List Int) × (List b9)) := Option.bind (ix l kv) fun a12 => Option.bind (ix l iv) fun a16 => Option.bind (ix ((l.set iv.toNat a12).set kv.toNat a16) iv) fun ha57 => Option.bind (ix ((l.set iv.toNat a12).set kv.toNat a16) kv) fun ha58 => Option.bind (ix l4 ha57) fun en59 => Option.bind (ix (l4.set ha57.toNat (⟨en59.item, en59.key, en59.time, iv⟩ : b9)) ha58) fun en60 => some ((l.set iv.toNat a12).set kv.toNat a16, (l4.set ha57.toNat (⟨en59.item, en59.key, en59.time, iv⟩ : b9)).set ha58.toNat (⟨en60.item, en60.key, en60.time, kv⟩ : b9))
abbrev W3 (iv : Int) (kv : Int) (l : List Int) (l4 : List b9) : b6 := [.one (prow 1 l), pool 4 b8 l4]
def D3 (iv : Int) (kv : Int) (l : List Int) (l4 : List b9) : Option Bool := Option.bind (ix l iv) fun a9 => Option.bind (ix l4 a9) fun en56 => Option.bind (ix l kv) fun a16 => Option.bind (ix l4 a16) fun en57 => some ((decide (en56.key < en57.key)) || ((decide (en56.key = en57.key)) && (decide (en56.time < en57.time))))
abbrev P9 (i01 : Int) (nv : Int) (time : Int) (l : List Int) (l5 : List (Int × Int)) (l6 : List b9) : b6 := [.one (.cells 3 [[.own 1 0 l.length, .map 2, int time]]), .one (prow 3 l), .one (pmap 3 (Value.int .u32) l5), pool 4 b8 l6]
def Q6 (nv : Int) : ((List Int) × (List b9) × Int) → Option (((List Int) × (List b9) × Int) ⊕ ((List Int) × (List b9) × Int)) := fun (c60, c61, iv62) => if ((decide (nv ≤ w64 ((w64 (2 * iv62)) + 1))) || (decide (w64 ((w64 (2 * iv62)) + 1) < 0))) = true then some (.inr (c60, c61, iv62)) else Option.bind (Option.bind (if w64 ((w64 ((w64 (2 * iv62)) + 1)) + 1) < nv then Option.bind (m5 (w64 ((w64 ((w64 (2 * iv62)) + 1)) + 1)) (w64 ((w64 (2 * iv62)) + 1)) c60 c61) fun a32 => some a32 else some false) fun t69 => if t69 = true then some (w64 ((w64 ((w64 (2 * iv62)) + 1)) + 1)) else some (w64 ((w64 (2 * iv62)) + 1))) fun j67 => Option.bind (D3 j67 iv62 c60 c61) fun a38 => if (!a38) = true then some (.inr (c60, c61, iv62)) else Option.bind (s7 iv62 j67 c60 c61) fun a43 => Option.bind (ab2 c60 a43.1) fun u74 => some (.inl (a43.1, a43.2, j67))
noncomputable def E5 (i01 : Int) (nv : Int) (time : Int) (l : List Int) (l5 : List (Int × Int)) (l6 : List b9) : Option ((List Int) × (List b9) × Bool) := Option.bind (Loop (Q6 nv) (l, l6, i01)) fun ⟨c63, c64, iv65⟩ => some (c63, c64, decide (i01 < iv65))
abbrev Y6 (time : Int) (l : List Int) (l3 : List (Int × Int)) (l4 : List b9) : b6 := [.one (.cells 3 [[.own 1 0 l.length, .map 2, int time]]), .one (prow 3 l), .one (pmap 3 (Value.int .u32) l3), pool 4 b8 l4]
def y9 (time : Int) (l : List Int) (l3 : List (Int × Int)) (l4 : List b9) : Option ((List Int) × Int) := Option.bind (ix l ((l.length : Int) - 1)) fun a12 => Option.bind (subL l 0 ((l.length : Int) - 1)) fun a19 => some (a19, a12)
abbrev ah6 (time : Int) (l : List Int) (l3 : List (Int × Int)) (l4 : List b9) : b6 := [.one (.cells 3 [[.own 1 0 l.length, .map 2, int time]]), .one (prow 3 l), .one (pmap 3 (Value.int .u32) l3), pool 4 b8 l4]
noncomputable def C8 (time : Int) (l : List Int) (l3 : List (Int × Int)) (l4 : List b9) : Option ((List b9) × (List Int) × Int) := Option.bind (n8 l l4) fun a5 => Option.bind (s7 0 (w64 ((l.length : Int) - 1)) l l4) fun a9 => Option.bind (ab2 l a9.1) fun u58 => Option.bind (E5 0 (w64 ((l.length : Int) - 1)) time a9.1 l3 a9.2) fun a12 => Option.bind (y9 time a12.1 l3 a12.2.1) fun a14 => some (a12.2.1, a14.1, a14.2)
abbrev W7 (time : Int) (l : List Int) (l3 : List (Int × Int)) (l4 : List b9) : b6 := [.one (.cells 3 [[.own 1 0 l.length, .map 2, int time]]), .one (prow 3 l), .one (pmap 3 (Value.int .u32) l3), pool 4 b8 l4]
noncomputable def s8 (time : Int) (l : List Int) (l3 : List (Int × Int)) (l4 : List b9) : Option ((List (Int × Int)) × (List b9) × (List Int) × Int × Int × Bool) := if (l.length : Int) = 0 then some (l3, l4, l, 0, 0, false) else Option.bind (C8 time l l3 l4) fun a17 => Option.bind (ix a17.1 a17.2.2) fun en62 => some (mdel l3 en62.item, a17.1, a17.2.1, en62.item, en62.key, true)
abbrev Y8 (item : Int) (key : Int) (time : Int) (l : List Int) (l5 : List (Int × Int)) (l6 : List b9) : b6 := [.one (.cells 3 [[.own 1 0 l.length, .map 2, int time]]), .one (prow 3 l), .one (pmap 3 (Value.int .u32) l5), pool 4 b8 l6]
noncomputable def y8 (item : Int) (key : Int) (time : Int) (l : List Int) (l5 : List (Int × Int)) (l6 : List b9) : Option ((List (Int × Int)) × (List Int) × (List b9)) := if (Option.isSome (mget l5 item)) = true then Option.bind (mget l5 item) fun ap61 => Option.bind (ix l6 ap61) fun en62 => Option.bind (z6 en62.fat (w64 (time + 1)) l l5 ((l6.set ap61.toNat (⟨en62.item, key, en62.time, en62.fat⟩ : b9)).set ap61.toNat (⟨en62.item, key, w64 (time + 1), en62.fat⟩ : b9))) fun a45 => some (l5, a45.1, a45.2) else Option.bind (chkH l6.length (List.map (·.2) l5)) fun u63 => Option.bind (chkH l6.length l) fun u64 => Option.bind (x6 (l6.length : Int) (w64 (time + 1)) (l6 ++ [(⟨item, key, w64 (time + 1), 0⟩ : b9)]) l (mset l5 item (l6.length : Int))) fun a66 => some (mset l5 item (l6.length : Int), a66.2, a66.1)
abbrev M5 (l : List Int) (start : Int) (goal : Int) (l4 : List i6) : b6 := [.one (.cells 3 [[.imm (.val (.int .u32 start)), .imm (.val (.int .u32 goal)), .own 1 0 l4.length]]), .one (vec 4 d3 l4)]
def M6 (l4 : List i6) (a23 : Int) : Int → (List (Int × List r9)) → Option (List (Int × List r9)) := fun t73 c72 => Option.bind (ix l4 t73) fun ai14 => if Go.bits .and .u32 a23 ai14.pre = ai14.pre then Option.bind (app 16 (rowM c72 (Go.bits .or .u32 (Go.bits .andNot .u32 a23 ai14.del) ai14.add)) [(⟨a23, ai14.cost⟩ : r9)]) fun ab51 => some (mset c72 (Go.bits .or .u32 (Go.bits .andNot .u32 a23 ai14.del) ai14.add) ab51) else some c72
def M7 (l4 : List i6) (c56 : List (Int × List r9)) (a23 : Int) : Option (List (Int × List r9)) := (Option.bind (forR 0 (l4.length : Int) (M6 l4 a23) c56) fun c72 => some c72)
noncomputable def G7 (l : List Int) (start : Int) (goal : Int) (l4 : List i6) : Int → ((List (Int × List r9)) × (List (Int × Int)) × (List (Int × Int)) × (List b9) × Int × (List Int)) → Option ((List (Int × List r9)) × (List (Int × Int)) × (List (Int × Int)) × (List b9) × Int × (List Int)) := fun t62 (c56, c57, c58, c59, c60, c61) => Option.bind (ix l t62) fun a23 => Option.bind (Option.bind (J0 a23 start goal l4) fun a29 => if Go.bits .and .u32 a23 goal = goal then Option.bind (o5 a23 0 c60 c61 c58 c59) fun a34 => some (mset (mset c57 a23 1000000000) a23 0, a34.1, w64 (c60 + 1), a34.2.1, a34.2.2) else some (mset c57 a23 1000000000, c58, c60, c61, c59)) fun ⟨c63, c64, c65, c66, c67⟩ => Option.bind (B1 a23 start goal l4) fun a37 => Option.bind (M7 l4 c56 a23) fun c71 => some (c71, c63, c64, c67, c65, c66)
noncomputable def G9 (c56 : List (Int × List r9)) (a58 : (List (Int × Int)) × (List b9) × (List Int) × Int × Int × Bool) : Int → ((List (Int × Int)) × (List (Int × Int)) × (List b9) × Int × (List Int)) → Option ((List (Int × Int)) × (List (Int × Int)) × (List b9) × Int × (List Int)) := fun t87 (c82, c83, c84, c85, c86) => Option.bind (Option.bind (ix (rowM c56 a58.2.2.2.1) t87) fun a68 => if w64 (a58.2.2.2.2.1 + a68.cost) < Option.getD (mget c82 a68.ffrom) 0 then Option.bind (y8 a68.ffrom (w64 (a58.2.2.2.2.1 + a68.cost)) c85 c86 c83 c84) fun a93 => some (mset c82 a68.ffrom (w64 (a58.2.2.2.2.1 + a68.cost)), a93.1, w64 (c85 + 1), a93.2.1, a93.2.2) else some (c82, c83, c85, c86, c84)) fun ⟨c88, c89, c90, c91, c92⟩ => some (c88, c89, c92, c90, c91)
noncomputable def G6 (c56 : List (Int × List r9)) : ((List (Int × Int)) × (List (Int × Int)) × (List b9) × Int × (List Int)) → Option (((List (Int × Int)) × (List (Int × Int)) × (List b9) × Int × (List Int)) ⊕ (List (Int × Int))) := fun (c75, c76, c77, c78, c79) => Option.bind (A6 c78 c79 c76 c77) fun a54 => if 0 < (c79.length : Int) then Option.bind (s8 c78 c79 c76 c77) fun a58 => (Option.bind (forR 0 ((rowM c56 a58.2.2.2.1).length : Int) (G9 c56 a58) (c75, a58.1, a58.2.1, c78, a58.2.2.1)) fun ⟨c82, c83, c84, c85, c86⟩ => some (.inl (c82, c83, c84, c85, c86))) else some (.inr c75)
noncomputable def N5 (l : List Int) (start : Int) (goal : Int) (l4 : List i6) : Option (List (Int × Int)) := Option.bind (G2) fun a18 => (Option.bind (forR 0 (l.length : Int) (G7 l start goal l4) (([] : List (Int × List r9)), ([] : List (Int × Int)), ([] : List (Int × Int)), ([] : List b9), 0, ([] : List Int))) fun ⟨c56, c57, c58, c59, c60, c61⟩ => Option.bind (Loop (G6 c56) (c57, c58, c59, c60, c61)) fun c80 => some c80)
noncomputable def O6 (t : d8) : Option (Int × k8) := Option.bind (C0 t) fun | .inl fk2 => if (!((decide (fk2.1 = 0)) && (decide (fk2.2 = 0)))) = true then some (0, (⟨fk2.1, fk2.2⟩ : k8)) else none | .inr fk2 => if (!((decide (0 = 0)) && (decide (0 = 0)))) = true then some (0, (⟨0, 0⟩ : k8)) else Option.bind (N5 fk2.2.2.2 fk2.1 fk2.2.1 fk2.2.2.1) fun a19 => Option.bind (w7 fk2.1 fk2.2.1 fk2.2.2.1) fun a21 => some (Option.getD (mget a19 fk2.1) 0, (⟨0, 0⟩ : k8))
def J7 : Int → (List Int) → Option (List Int) := fun t5 c4 => Option.bind (ix c4 t5) fun a35 => some (c4.set t5.toNat t5)
def L9 (bv : List Int) (a41 : Int) : Int → ((List Int) × Int) → Option ((List Int) × Int) := fun t10 (c8, diagonal9) => Option.bind (ix bv t10) fun a56 => Option.bind (ix c8 t10) fun a60 => Option.bind (ix c8 (t10 + 1)) fun a65 => Option.bind (if a41 = a56 then some (min (w64 ((min a60 a65) + 1)) diagonal9) else some (w64 ((min a60 a65) + 1))) fun nv11 => Option.bind (ix c8 (t10 + 1)) fun a81 => Option.bind (ix c8 (t10 + 1)) fun a84 => some (c8.set ((t10 + 1).toNat) nv11, a81)
def F2 (av : List Int) (bv : List Int) : Int → (List Int) → Option (List Int) := fun t7 c6 => Option.bind (ix av t7) fun a41 => Option.bind (ix c6 0) fun a44 => Option.bind (ix c6 0) fun a47 => Option.bind (ix c6 0) fun a50 => (Option.bind (forR 0 (bv.length : Int) (L9 bv a41) (c6.set ((0 : Int).toNat) (w64 (a47 + 1)), a44)) fun ⟨c8, diagonal9⟩ => some c8)
def J8 (av : List Int) (bv : List Int) : Option (Int × k8) := if ((decide (60 < (av.length : Int))) || (decide (60 < (bv.length : Int)))) = true then some (0, (⟨2, -5⟩ : k8)) else Option.bind (mkL 8 (w64 ((bv.length : Int) + 1)) 0) fun a26 => (Option.bind (forR 0 (a26.length : Int) J7 a26) fun c4 => (Option.bind (forR 0 (av.length : Int) (F2 av bv) c4) fun c6 => Option.bind (ix c6 (bv.length : Int)) fun a90 => some (a90, (⟨0, 0⟩ : k8))))
def ai4 : Option d8 := some (⟨2, [0], [1], [(⟨[0], [1], [0], 1⟩ : i8), (⟨[], [1], [], 3⟩ : i8)]⟩ : d8)
def O2 (av : List Int) (bv : List Int) : Int → Unit → Option (Unit ⊕ Bool) := fun iv4 _ => Option.bind (ix av iv4) fun a19 => Option.bind (ix bv iv4) fun a23 => if a19 = a23 then some (.inl ()) else some (.inr false)
def O7 (av : List Int) (bv : List Int) : Option Bool := if (av.length : Int) = (bv.length : Int) then (Option.bind (rngX 0 (av.length : Int) (O2 av bv) ()) fun | .inl _ => some true | .inr x => some x) else some false
noncomputable def N3 : Option Bool := Option.bind (J8 [1, 2] [2, 3]) fun a10 => Option.bind (ai4) fun a14 => Option.bind (M4 a14 [1]) fun a16 => Option.bind (if a10.2.code = 0 then if a16.2.2.2.code = 0 then if a10.1 = 2 then if a16.2.2.1 = true then if a16.2.1 = 0 then Option.bind (O7 a16.1 [1]) fun a43 => some a43 else some false else some false else some false else some false else some false) fun t1 => some t1
noncomputable def B9 (t : d8) (plan : List Int) : Option Bool := Option.bind (M4 t plan) fun a14 => Option.bind (O6 t) fun a21 => if ((!(decide (a14.2.2.2.code = 0))) || (!(decide (a21.2.code = 0)))) = true then Option.bind (N3) fun a32 => some a32 else Option.bind (if a14.2.2.1 = (decide (a21.1 < 1000000000)) then Option.bind (N3) fun a38 => some a38 else some false) fun t4 => some t4
def af7 (nv : Int) (low : Int) (high : Int) : Option Bool := some ((decide (low ≤ nv)) && (decide (nv ≤ high)))
def T0 (code : Int) (index : Int) : Option k8 := some (⟨code, index⟩ : k8)
def ad7 (l : List Int) (nv : Int) : Int → Unit → Option (Unit ⊕ Bool) := fun iv3 _ => Option.bind (Option.bind (ix l iv3) fun a14 => Option.bind (af7 a14 0 (w64 (nv - 1))) fun a18 => if (!a18) = true then some true else if 0 < iv3 then Option.bind (ix l iv3) fun a26 => Option.bind (ix l (iv3 - 1)) fun a31 => some (decide (a26 ≤ a31)) else some false) fun t4 => if t4 = true then some (.inr false) else some (.inl ())
def O3 (l : List Int) (nv : Int) : Option Bool := (Option.bind (rngX 0 (l.length : Int) (ad7 l nv) ()) fun | .inl _ => some true | .inr x => some x)
def ref1_Has_l1 (l : List Int) (nv : Int) : Int → Unit → Option (Unit ⊕ Bool) := fun iv3 _ => Option.bind (ix l iv3) fun a14 => if a14 = nv then some (.inr true) else some (.inl ())
def ref1_Has (l : List Int) (nv : Int) : Option Bool := (Option.bind (rngX 0 (l.length : Int) (ref1_Has_l1 l nv) ()) fun | .inl _ => some false | .inr x => some x)
def ag8 (av : List Int) (bv : List Int) : Int → Unit → Option (Unit ⊕ Bool) := fun iv3 _ => Option.bind (ix av iv3) fun a15 => Option.bind (ref1_Has bv a15) fun a17 => if a17 = true then some (.inr false) else some (.inl ())
def ae2 (av : List Int) (bv : List Int) : Option Bool := (Option.bind (rngX 0 (av.length : Int) (ag8 av bv) ()) fun | .inl _ => some true | .inr x => some x)
def G8 (t : d8) : Int → Unit → Option (Unit ⊕ k8) := fun iv6 _ => Option.bind (ix t.operators iv6) fun a39 => Option.bind (Option.bind (O3 a39.pre t.facts) fun a45 => if (!a45) = true then some true else Option.bind (O3 a39.add t.facts) fun a52 => if (!a52) = true then some true else Option.bind (O3 a39.del t.facts) fun a60 => if (!a60) = true then some true else Option.bind (ae2 a39.add a39.del) fun a68 => some (!a68)) fun t7 => if t7 = true then Option.bind (T0 5 iv6) fun a72 => some (.inr a72) else Option.bind (af7 a39.cost 0 100) fun a75 => if (!a75) = true then Option.bind (T0 3 iv6) fun a78 => some (.inr a78) else some (.inl ())
def ab8 (t : d8) : Option k8 := Option.bind (af7 t.facts 0 24) fun a7 => if (!a7) = true then Option.bind (T0 3 (-1)) fun a9 => some a9 else Option.bind (O3 t.init t.facts) fun a14 => if (!a14) = true then Option.bind (T0 5 (-2)) fun a16 => some a16 else Option.bind (O3 t.goal t.facts) fun a21 => if (!a21) = true then Option.bind (T0 5 (-3)) fun a23 => some a23 else if 40 < (t.operators.length : Int) then Option.bind (T0 2 (-1)) fun a28 => some a28 else (Option.bind (rngX 0 (t.operators.length : Int) (G8 t) ()) fun | .inl _ => some (⟨0, 0⟩ : k8) | .inr x => some x)
def ac5 (operators : Int) (plan : List Int) : Int → Unit → Option (Unit ⊕ k8) := fun iv4 _ => Option.bind (ix plan iv4) fun a18 => Option.bind (af7 a18 0 (w64 (operators - 1))) fun a22 => if (!a22) = true then Option.bind (T0 3 (-6)) fun a24 => some (.inr a24) else some (.inl ())
def aa5 (operators : Int) (plan : List Int) : Option k8 := if 60 < (plan.length : Int) then Option.bind (T0 2 (-5)) fun a9 => some a9 else (Option.bind (rngX 0 (plan.length : Int) (ac5 operators plan) ()) fun | .inl _ => some (⟨0, 0⟩ : k8) | .inr x => some x)
def ab7 (t : d8) (plan : List Int) : Option k8 := Option.bind (ab8 t) fun a7 => Option.bind (if a7.code = 0 then Option.bind (aa5 (t.operators.length : Int) plan) fun a15 => some (a15.code, a15.index) else some (a7.code, a7.index)) fun ⟨c3, c4⟩ => some (⟨c3, c4⟩ : k8)
end Ab
end
section
namespace Ab
open Go
theorem eOk1 {n t : Nat} {v : T} {r : Env} (h : v.ok n = true) (hr : V4 n r = true) : V4 n ((t, v) :: r) = true := by
 simp only [V4, h, hr, Bool.and_self]
section
open Go.Proofs
variable {P : Program} {σ0 : b6} {sz : Nat} {Q : Post} {env : Env} {σv : b6} {ops : Array Oper} {rest : List Oper}
end
end Ab
end
section
namespace Go.Proofs
open Go.Shelf
open Tryz
def Tryz.lays283_ren : Go.Shelf.Ren := ⟨fun | 283 => 105 | n => n, fun | 3 => 3 | 9 => 9 | 4 => 4 | n => n, fun | n => n⟩
theorem Tryz.lays283 : Go.Proofs.Lays.n283 prog Tryz.lays283_ren := {
 mixed := by kernel_rfl
 f283 := func105.trans (congrArg some (by kernel_rfl))
 t3 := underlying3
 a3 := isAgg3
 z3 := sizeOf3
 v3 := zeroValue3
 t4 := underlying4
 a4 := isAgg4
 z4 := sizeOf4
 v4 := zeroValue4
 t9 := underlying9
 a9 := isAgg9
 z9 := sizeOf9
 v9 := zeroValue9 }
open Go.Lib in
theorem Tryz.internal_strconv_small (i : Nat) (h : i < 100) (w : World) :
  Calls prog 105 #[.int .i64 i] w fun e w' => e = .returned (.string ⟨(Lib.decDigits i).toArray⟩) ∧ w' = w := Any.internal_strconv_small Tryz.lays283 i h w
def Tryz.lays189_ren : Go.Shelf.Ren := ⟨fun | 189 => 88 | 125 => 76 | 257 => 115 | 128 => 98 | 129 => 99 | 294 => 127 | 295 => 128 | 296 => 129 | 297 => 130 | 298 => 131 | 299 => 132 | 216 => 113 | 300 => 133 | 301 => 134 | 328 => 146 | 329 => 117 | 330 => 118 | 331 => 147 | 332 => 148 | 215 => 100 | 343 => 152 | n => n, fun | 28 => 22 | 3 => 3 | 46 => 126 | 0 => 0 | 51 => 72 | 53 => 152 | 4 => 4 | 183 => 161 | 182 => 160 | 131 => 82 | 5 => 5 | 9 => 9 | 218 => 186 | 222 => 190 | 228 => 203 | 229 => 204 | n => n, fun | n => n⟩
theorem Tryz.lays189 : Go.Proofs.Lays.n189 prog Tryz.lays189_ren := {
 mixed := by kernel_rfl
 f125 := func76.trans (congrArg some (by kernel_rfl))
 f128 := func98.trans (congrArg some (by kernel_rfl))
 f129 := func99.trans (congrArg some (by kernel_rfl))
 f189 := func88.trans (congrArg some (by kernel_rfl))
 f215 := func100.trans (congrArg some (by kernel_rfl))
 f216 := func113.trans (congrArg some (by kernel_rfl))
 f257 := func115.trans (congrArg some (by kernel_rfl))
 f294 := func127.trans (congrArg some (by kernel_rfl))
 f295 := func128.trans (congrArg some (by kernel_rfl))
 f296 := func129.trans (congrArg some (by kernel_rfl))
 f297 := func130.trans (congrArg some (by kernel_rfl))
 f298 := func131.trans (congrArg some (by kernel_rfl))
 f299 := func132.trans (congrArg some (by kernel_rfl))
 f300 := func133.trans (congrArg some (by kernel_rfl))
 f301 := func134.trans (congrArg some (by kernel_rfl))
 f328 := func146.trans (congrArg some (by kernel_rfl))
 f329 := func117.trans (congrArg some (by kernel_rfl))
 f330 := func118.trans (congrArg some (by kernel_rfl))
 f331 := func147.trans (congrArg some (by kernel_rfl))
 f332 := func148.trans (congrArg some (by kernel_rfl))
 f343 := func152.trans (congrArg some (by kernel_rfl))
 t0 := underlying0
 a0 := isAgg0
 z0 := sizeOf0
 v0 := zeroValue0
 t3 := underlying3
 a3 := isAgg3
 z3 := sizeOf3
 v3 := zeroValue3
 t4 := underlying4
 a4 := isAgg4
 z4 := sizeOf4
 v4 := zeroValue4
 t5 := underlying5
 a5 := isAgg5
 z5 := sizeOf5
 v5 := zeroValue5
 t9 := underlying9
 a9 := isAgg9
 z9 := sizeOf9
 v9 := zeroValue9
 t28 := underlying22
 a28 := isAgg22
 z28 := sizeOf22
 v28 := zeroValue22
 t46 := underlying126
 a46 := isAgg126
 z46 := sizeOf126
 v46 := zeroValue126
 t51 := underlying72
 a51 := isAgg72
 z51 := sizeOf72
 v51 := zeroValue72
 t53 := underlying152
 a53 := isAgg152
 z53 := sizeOf152
 v53 := zeroValue152
 t131 := underlying82
 a131 := isAgg82
 z131 := sizeOf82
 v131 := zeroValue82
 t182 := underlying160
 a182 := isAgg160
 z182 := sizeOf160
 v182 := zeroValue160
 t183 := underlying161
 a183 := isAgg161
 z183 := sizeOf161
 v183 := zeroValue161
 t218 := underlying186
 a218 := isAgg186
 z218 := sizeOf186
 v218 := zeroValue186
 t222 := underlying190
 a222 := isAgg190
 z222 := sizeOf190
 v222 := zeroValue190
 t228 := underlying203
 a228 := isAgg203
 z228 := sizeOf203
 v228 := zeroValue203
 t229 := underlying204
 a229 := isAgg204
 z229 := sizeOf204
 v229 := zeroValue204 }
open Go.Sort Go.RowKit in
theorem Tryz.slices_Sort_int (blk off cap : Nat) (zs : List Int) (w : World) (hH : Holds (Value.int .i64) w blk off zs.toArray) (hblk : blk < w.heap.size) (hsz : zs.length < 4611686018427387904) :
  Calls prog 88 #[.slice (some ⟨blk, off, none⟩) zs.length cap] w fun e w' =>
   e = .returned (.tuple #[]) ∧ ∃ n os, w' = grow (putRow (Value.int .i64) (Sort.ahead w n) blk off (zs.mergeSort fun x y => decide (x ≤ y)).toArray) os := Any.slices_Sort_int Tryz.lays189 blk off cap zs w hH hblk hsz
def Tryz.lays112_ren : Go.Shelf.Ren := ⟨fun | 112 => 44 | n => n, fun | 28 => 22 | 3 => 3 | 4 => 4 | 0 => 0 | n => n, fun | n => n⟩
theorem Tryz.lays112 : Go.Proofs.Lays.n112 prog Tryz.lays112_ren := {
 mixed := by kernel_rfl
 f112 := func44.trans (congrArg some (by kernel_rfl))
 t0 := underlying0
 a0 := isAgg0
 z0 := sizeOf0
 v0 := zeroValue0
 t3 := underlying3
 a3 := isAgg3
 z3 := sizeOf3
 v3 := zeroValue3
 t4 := underlying4
 a4 := isAgg4
 z4 := sizeOf4
 v4 := zeroValue4
 t28 := underlying22
 a28 := isAgg22
 z28 := sizeOf22
 v28 := zeroValue22 }
open Go.RowKit Go.Lib Go.Sort in
theorem Tryz.slices_Reverse_int (blk off cap : Nat) (zs : List Int) (w : World) (hH : Holds (Value.int .i64) w blk off zs.toArray) (hsz : zs.length ≤ 9223372036854775807) :
  Calls prog 44 #[.slice (some ⟨blk, off, none⟩) zs.length cap] w fun e w' => e = .returned (.tuple #[]) ∧ ∃ n, w' = putRow (Value.int .i64) (Sort.ahead w n) blk off zs.reverse.toArray := Any.slices_Reverse_int Tryz.lays112 blk off cap zs w hH hsz
open Go.RowKit Go.Lib Go.Sort in
theorem Tryz.slices_Reverse_int_empty (a : Option Addr) (cap : Nat) (w : World) :
  Calls prog 44 #[.slice a 0 cap] w fun e w' => e = .returned (.tuple #[]) ∧ w' = w := Any.slices_Reverse_int_empty Tryz.lays112 a cap w
def Tryz.laysNm220_ren : Go.Shelf.Ren := ⟨fun | 20 => 89 | n => n, fun | 22 => 22 | 3 => 3 | 4 => 4 | 0 => 0 | n => n, fun | n => n⟩
theorem Tryz.laysNm220 : Go.Proofs.Lays2.n20 prog Tryz.laysNm220_ren := {
 mixed := by kernel_rfl
 f20 := func89.trans (congrArg some (by kernel_rfl))
 t0 := underlying0
 a0 := isAgg0
 z0 := sizeOf0
 v0 := zeroValue0
 t3 := underlying3
 a3 := isAgg3
 z3 := sizeOf3
 v3 := zeroValue3
 t4 := underlying4
 a4 := isAgg4
 z4 := sizeOf4
 v4 := zeroValue4
 t22 := underlying22
 a22 := isAgg22
 z22 := sizeOf22
 v22 := zeroValue22
 i3 := by kernel_rfl }
open Go.RowKit Go.Lib Go.Sort in
theorem Tryz.slices_Compact_int (blk off cap : Nat) (zs : List Int) (w : World) (hH : Holds (Value.int .i64) w blk off zs.toArray) (hsz : zs.length ≤ 9223372036854775807) (hcap : zs.length ≤ cap) :
  Calls prog 89 #[.slice (some ⟨blk, off, none⟩) zs.length cap] w fun e w' => e = .returned (.slice (some ⟨blk, off, none⟩) (Lib.compact zs).length cap) ∧ ∃ q, w' = putRow (Value.int .i64) (Sort.ahead w q) blk off (Lib.compact zs ++ List.replicate (zs.length - (Lib.compact zs).length) 0).toArray := Any.slices_Compact_int Tryz.laysNm220 blk off cap zs w hH hsz hcap
open Go.RowKit Go.Lib Go.Sort in
theorem Tryz.slices_Compact_int_empty (a : Option Addr) (cap : Nat) (w : World) :
  Calls prog 89 #[.slice a 0 cap] w fun e w' => e = .returned (.slice a 0 cap) ∧ w' = w := Any.slices_Compact_int_empty Tryz.laysNm220 a cap w
open Go.RowKit Go.Sort in
theorem Tryz.slices_Sort_int_none (p : Option Addr) (cap : Nat) (w : World) :
  Calls prog 88 #[.slice p 0 cap] w fun e w' => e = .returned (.tuple #[]) ∧ w' = w := Any.slices_Sort_int_none Tryz.lays189 p cap w
def Tryz.laysSlF6_f56_ren : Go.Shelf.Ren := ⟨fun | 6 => 56 | 15 => 76 | 14 => 75 | 28 => 98 | 29 => 99 | 20 => 90 | 21 => 91 | 22 => 92 | 23 => 93 | 24 => 94 | 25 => 95 | 26 => 96 | 27 => 97 | 46 => 116 | 47 => 117 | 48 => 118 | 49 => 119 | 50 => 120 | 57 => 135 | n => n, fun | 22 => 67 | 24 => 72 | 25 => 97 | 3 => 3 | 39 => 126 | 0 => 0 | 53 => 72 | 55 => 152 | 4 => 4 | 46 => 161 | 45 => 160 | 50 => 82 | 5 => 5 | 9 => 9 | 66 => 186 | 70 => 190 | 76 => 203 | 77 => 204 | n => n, fun | n => n⟩
theorem Tryz.laysSlF6_f56 : Go.Proofs.SlLaysF.n6 prog Tryz.laysSlF6_f56_ren := {
 mixed := by kernel_rfl
 f6 := ⟨Tryz.f56.name, by decide, func56.trans (congrArg some (by kernel_rfl))⟩
 f14 := ⟨Tryz.f75.name, by decide, func75.trans (congrArg some (by kernel_rfl))⟩
 f15 := func76.trans (congrArg some (by kernel_rfl))
 f20 := ⟨Tryz.f90.name, by decide, func90.trans (congrArg some (by kernel_rfl))⟩
 f21 := ⟨Tryz.f91.name, by decide, func91.trans (congrArg some (by kernel_rfl))⟩
 f22 := ⟨Tryz.f92.name, by decide, func92.trans (congrArg some (by kernel_rfl))⟩
 f23 := ⟨Tryz.f93.name, by decide, func93.trans (congrArg some (by kernel_rfl))⟩
 f24 := ⟨Tryz.f94.name, by decide, func94.trans (congrArg some (by kernel_rfl))⟩
 f25 := ⟨Tryz.f95.name, by decide, func95.trans (congrArg some (by kernel_rfl))⟩
 f26 := ⟨Tryz.f96.name, by decide, func96.trans (congrArg some (by kernel_rfl))⟩
 f27 := ⟨Tryz.f97.name, by decide, func97.trans (congrArg some (by kernel_rfl))⟩
 f28 := func98.trans (congrArg some (by kernel_rfl))
 f29 := func99.trans (congrArg some (by kernel_rfl))
 f46 := ⟨Tryz.f116.name, by decide, func116.trans (congrArg some (by kernel_rfl))⟩
 f47 := func117.trans (congrArg some (by kernel_rfl))
 f48 := func118.trans (congrArg some (by kernel_rfl))
 f49 := ⟨Tryz.f119.name, by decide, func119.trans (congrArg some (by kernel_rfl))⟩
 f50 := ⟨Tryz.f120.name, by decide, func120.trans (congrArg some (by kernel_rfl))⟩
 f57 := ⟨Tryz.f135.name, by decide, func135.trans (congrArg some (by kernel_rfl))⟩
 t0 := underlying0
 a0 := isAgg0
 z0 := sizeOf0
 v0 := zeroValue0
 t3 := underlying3
 a3 := isAgg3
 z3 := sizeOf3
 v3 := zeroValue3
 t4 := underlying4
 a4 := isAgg4
 z4 := sizeOf4
 v4 := zeroValue4
 t5 := underlying5
 a5 := isAgg5
 z5 := sizeOf5
 v5 := zeroValue5
 t9 := underlying9
 a9 := isAgg9
 z9 := sizeOf9
 v9 := zeroValue9
 t22 := underlying67
 a22 := isAgg67
 z22 := sizeOf67
 v22 := zeroValue67
 a24 := isAgg72
 z24 := sizeOf72
 t25 := underlying97
 a25 := isAgg97
 z25 := sizeOf97
 v25 := zeroValue97
 t39 := underlying126
 a39 := isAgg126
 z39 := sizeOf126
 v39 := zeroValue126
 t45 := underlying160
 a45 := isAgg160
 z45 := sizeOf160
 v45 := zeroValue160
 t46 := underlying161
 a46 := isAgg161
 z46 := sizeOf161
 v46 := zeroValue161
 t50 := underlying82
 a50 := isAgg82
 z50 := sizeOf82
 v50 := zeroValue82
 t53 := underlying72
 a53 := isAgg72
 z53 := sizeOf72
 v53 := zeroValue72
 t55 := underlying152
 a55 := isAgg152
 z55 := sizeOf152
 v55 := zeroValue152
 t66 := underlying186
 a66 := isAgg186
 z66 := sizeOf186
 v66 := zeroValue186
 t70 := underlying190
 a70 := isAgg190
 z70 := sizeOf190
 v70 := zeroValue190
 t76 := underlying203
 a76 := isAgg203
 z76 := sizeOf203
 v76 := zeroValue203
 t77 := underlying204
 a77 := isAgg204
 z77 := sizeOf204
 v77 := zeroValue204 }
def Tryz.laysSlF6_f110_ren : Go.Shelf.Ren := ⟨fun | 6 => 110 | 15 => 76 | 14 => 126 | 28 => 98 | 29 => 99 | 20 => 138 | 21 => 139 | 22 => 140 | 23 => 141 | 24 => 142 | 25 => 143 | 26 => 144 | 27 => 145 | 46 => 149 | 47 => 117 | 48 => 118 | 49 => 150 | 50 => 151 | 57 => 153 | n => n, fun | 22 => 32 | 24 => 22 | 25 => 38 | 3 => 3 | 39 => 126 | 0 => 0 | 53 => 72 | 55 => 152 | 4 => 4 | 46 => 161 | 45 => 160 | 50 => 82 | 5 => 5 | 9 => 9 | 66 => 186 | 70 => 190 | 76 => 203 | 77 => 204 | n => n, fun | n => n⟩
theorem Tryz.laysSlF6_f110 : Go.Proofs.SlLaysF.n6 prog Tryz.laysSlF6_f110_ren := {
 mixed := by kernel_rfl
 f6 := ⟨Tryz.f110.name, by decide, func110.trans (congrArg some (by kernel_rfl))⟩
 f14 := ⟨Tryz.f126.name, by decide, func126.trans (congrArg some (by kernel_rfl))⟩
 f15 := func76.trans (congrArg some (by kernel_rfl))
 f20 := ⟨Tryz.f138.name, by decide, func138.trans (congrArg some (by kernel_rfl))⟩
 f21 := ⟨Tryz.f139.name, by decide, func139.trans (congrArg some (by kernel_rfl))⟩
 f22 := ⟨Tryz.f140.name, by decide, func140.trans (congrArg some (by kernel_rfl))⟩
 f23 := ⟨Tryz.f141.name, by decide, func141.trans (congrArg some (by kernel_rfl))⟩
 f24 := ⟨Tryz.f142.name, by decide, func142.trans (congrArg some (by kernel_rfl))⟩
 f25 := ⟨Tryz.f143.name, by decide, func143.trans (congrArg some (by kernel_rfl))⟩
 f26 := ⟨Tryz.f144.name, by decide, func144.trans (congrArg some (by kernel_rfl))⟩
 f27 := ⟨Tryz.f145.name, by decide, func145.trans (congrArg some (by kernel_rfl))⟩
 f28 := func98.trans (congrArg some (by kernel_rfl))
 f29 := func99.trans (congrArg some (by kernel_rfl))
 f46 := ⟨Tryz.f149.name, by decide, func149.trans (congrArg some (by kernel_rfl))⟩
 f47 := func117.trans (congrArg some (by kernel_rfl))
 f48 := func118.trans (congrArg some (by kernel_rfl))
 f49 := ⟨Tryz.f150.name, by decide, func150.trans (congrArg some (by kernel_rfl))⟩
 f50 := ⟨Tryz.f151.name, by decide, func151.trans (congrArg some (by kernel_rfl))⟩
 f57 := ⟨Tryz.f153.name, by decide, func153.trans (congrArg some (by kernel_rfl))⟩
 t0 := underlying0
 a0 := isAgg0
 z0 := sizeOf0
 v0 := zeroValue0
 t3 := underlying3
 a3 := isAgg3
 z3 := sizeOf3
 v3 := zeroValue3
 t4 := underlying4
 a4 := isAgg4
 z4 := sizeOf4
 v4 := zeroValue4
 t5 := underlying5
 a5 := isAgg5
 z5 := sizeOf5
 v5 := zeroValue5
 t9 := underlying9
 a9 := isAgg9
 z9 := sizeOf9
 v9 := zeroValue9
 t22 := underlying32
 a22 := isAgg32
 z22 := sizeOf32
 v22 := zeroValue32
 a24 := isAgg22
 z24 := sizeOf22
 t25 := underlying38
 a25 := isAgg38
 z25 := sizeOf38
 v25 := zeroValue38
 t39 := underlying126
 a39 := isAgg126
 z39 := sizeOf126
 v39 := zeroValue126
 t45 := underlying160
 a45 := isAgg160
 z45 := sizeOf160
 v45 := zeroValue160
 t46 := underlying161
 a46 := isAgg161
 z46 := sizeOf161
 v46 := zeroValue161
 t50 := underlying82
 a50 := isAgg82
 z50 := sizeOf82
 v50 := zeroValue82
 t53 := underlying72
 a53 := isAgg72
 z53 := sizeOf72
 v53 := zeroValue72
 t55 := underlying152
 a55 := isAgg152
 z55 := sizeOf152
 v55 := zeroValue152
 t66 := underlying186
 a66 := isAgg186
 z66 := sizeOf186
 v66 := zeroValue186
 t70 := underlying190
 a70 := isAgg190
 z70 := sizeOf190
 v70 := zeroValue190
 t76 := underlying203
 a76 := isAgg203
 z76 := sizeOf203
 v76 := zeroValue203
 t77 := underlying204
 a77 := isAgg204
 z77 := sizeOf204
 v77 := zeroValue204 }
open Go.RowKit Go.Lib Go.Sort in
theorem Tryz.slices_SortFunc_f56 {α : Type} [Inhabited α] (enc : α → Value) (h1 : OneCell enc) (cf : α → α → Int) (hO : SWO (ltOf cf)) (g : Nat) (cb : Array Value) (blk off cap : Nat) (d : Array α) (w : World) (eg : ∀ args w, (callFunc g args).run prog w = .ok (.enter g args) w) (hcmp : CmpLays1 prog g cb enc cf blk off d.size w) (hH : Holds enc w blk off d) (hblk : blk < w.heap.size) (hsz : d.size < 4611686018427387904) :
  Calls prog 56 #[.slice (some ⟨blk, off, none⟩) d.size cap, .func (.func g) #[] cb] w fun e w' =>
   e = .returned (.tuple #[]) ∧ ∃ d' n os, PermIn 0 d.size d d' ∧ SortedIn (ltOf cf) 0 d.size d' ∧ w' = sortWorld enc w blk off n d' os := Any.slices_SortFunc Tryz.laysSlF6_f56 enc h1 cf hO g cb blk off cap d w eg hcmp hH hblk hsz
open Go.RowKit Go.Lib Go.Sort in
theorem Tryz.slices_SortFunc_f110 {α : Type} [Inhabited α] (enc : α → Value) (h1 : OneCell enc) (cf : α → α → Int) (hO : SWO (ltOf cf)) (g : Nat) (cb : Array Value) (blk off cap : Nat) (d : Array α) (w : World) (eg : ∀ args w, (callFunc g args).run prog w = .ok (.enter g args) w) (hcmp : CmpLays1 prog g cb enc cf blk off d.size w) (hH : Holds enc w blk off d) (hblk : blk < w.heap.size) (hsz : d.size < 4611686018427387904) :
  Calls prog 110 #[.slice (some ⟨blk, off, none⟩) d.size cap, .func (.func g) #[] cb] w fun e w' =>
   e = .returned (.tuple #[]) ∧ ∃ d' n os, PermIn 0 d.size d d' ∧ SortedIn (ltOf cf) 0 d.size d' ∧ w' = sortWorld enc w blk off n d' os := Any.slices_SortFunc Tryz.laysSlF6_f110 enc h1 cf hO g cb blk off cap d w eg hcmp hH hblk hsz
def Tryz.laysSlF06_f56_ren : Go.Shelf.Ren := ⟨fun | 6 => 56 | 15 => 76 | 14 => 75 | 28 => 98 | 29 => 99 | 20 => 90 | 21 => 91 | 22 => 92 | 23 => 93 | 24 => 94 | 25 => 95 | 26 => 96 | 27 => 97 | 46 => 116 | 47 => 117 | 48 => 118 | 49 => 119 | 50 => 120 | 57 => 135 | n => n, fun | 22 => 67 | 24 => 72 | 25 => 97 | 3 => 3 | 39 => 126 | 0 => 0 | 53 => 72 | 55 => 152 | 4 => 4 | 46 => 161 | 45 => 160 | 50 => 82 | 5 => 5 | 9 => 9 | 66 => 186 | 70 => 190 | 76 => 203 | 77 => 204 | n => n, fun | n => n⟩
theorem Tryz.laysSlF06_f56 : Go.Proofs.SlLaysF0.n6 prog Tryz.laysSlF06_f56_ren := {
 mixed := by kernel_rfl
 f6 := ⟨Tryz.f56.name, by decide, func56.trans (congrArg some (by kernel_rfl))⟩
 f14 := ⟨Tryz.f75.name, by decide, func75.trans (congrArg some (by kernel_rfl))⟩
 f15 := func76.trans (congrArg some (by kernel_rfl))
 f20 := ⟨Tryz.f90.name, by decide, func90.trans (congrArg some (by kernel_rfl))⟩
 f21 := ⟨Tryz.f91.name, by decide, func91.trans (congrArg some (by kernel_rfl))⟩
 f22 := ⟨Tryz.f92.name, by decide, func92.trans (congrArg some (by kernel_rfl))⟩
 f23 := ⟨Tryz.f93.name, by decide, func93.trans (congrArg some (by kernel_rfl))⟩
 f24 := ⟨Tryz.f94.name, by decide, func94.trans (congrArg some (by kernel_rfl))⟩
 f25 := ⟨Tryz.f95.name, by decide, func95.trans (congrArg some (by kernel_rfl))⟩
 f26 := ⟨Tryz.f96.name, by decide, func96.trans (congrArg some (by kernel_rfl))⟩
 f27 := ⟨Tryz.f97.name, by decide, func97.trans (congrArg some (by kernel_rfl))⟩
 f28 := func98.trans (congrArg some (by kernel_rfl))
 f29 := func99.trans (congrArg some (by kernel_rfl))
 f46 := ⟨Tryz.f116.name, by decide, func116.trans (congrArg some (by kernel_rfl))⟩
 f47 := func117.trans (congrArg some (by kernel_rfl))
 f48 := func118.trans (congrArg some (by kernel_rfl))
 f49 := ⟨Tryz.f119.name, by decide, func119.trans (congrArg some (by kernel_rfl))⟩
 f50 := ⟨Tryz.f120.name, by decide, func120.trans (congrArg some (by kernel_rfl))⟩
 f57 := ⟨Tryz.f135.name, by decide, func135.trans (congrArg some (by kernel_rfl))⟩
 t0 := underlying0
 a0 := isAgg0
 z0 := sizeOf0
 v0 := zeroValue0
 t3 := underlying3
 a3 := isAgg3
 z3 := sizeOf3
 v3 := zeroValue3
 t4 := underlying4
 a4 := isAgg4
 z4 := sizeOf4
 v4 := zeroValue4
 t5 := underlying5
 a5 := isAgg5
 z5 := sizeOf5
 v5 := zeroValue5
 t9 := underlying9
 a9 := isAgg9
 z9 := sizeOf9
 v9 := zeroValue9
 t22 := underlying67
 a22 := isAgg67
 z22 := sizeOf67
 v22 := zeroValue67
 t25 := underlying97
 a25 := isAgg97
 z25 := sizeOf97
 v25 := zeroValue97
 t39 := underlying126
 a39 := isAgg126
 z39 := sizeOf126
 v39 := zeroValue126
 t45 := underlying160
 a45 := isAgg160
 z45 := sizeOf160
 v45 := zeroValue160
 t46 := underlying161
 a46 := isAgg161
 z46 := sizeOf161
 v46 := zeroValue161
 t50 := underlying82
 a50 := isAgg82
 z50 := sizeOf82
 v50 := zeroValue82
 t53 := underlying72
 a53 := isAgg72
 z53 := sizeOf72
 v53 := zeroValue72
 t55 := underlying152
 a55 := isAgg152
 z55 := sizeOf152
 v55 := zeroValue152
 t66 := underlying186
 a66 := isAgg186
 z66 := sizeOf186
 v66 := zeroValue186
 t70 := underlying190
 a70 := isAgg190
 z70 := sizeOf190
 v70 := zeroValue190
 t76 := underlying203
 a76 := isAgg203
 z76 := sizeOf203
 v76 := zeroValue203
 t77 := underlying204
 a77 := isAgg204
 z77 := sizeOf204
 v77 := zeroValue204 }
open Go.RowKit Go.Lib Go.Sort in
theorem Tryz.slices_SortFunc_none_f56 {α : Type} [Inhabited α] (p : Option Addr) (cap : Nat) (fv : Value) (w : World) :
  Calls prog 56 #[.slice p 0 cap, fv] w fun e w' => e = .returned (.tuple #[]) ∧ w' = w := AnyF.slices_SortFunc_none Tryz.laysSlF06_f56 p cap fv w
def Tryz.laysSlF06_f110_ren : Go.Shelf.Ren := ⟨fun | 6 => 110 | 15 => 76 | 14 => 126 | 28 => 98 | 29 => 99 | 20 => 138 | 21 => 139 | 22 => 140 | 23 => 141 | 24 => 142 | 25 => 143 | 26 => 144 | 27 => 145 | 46 => 149 | 47 => 117 | 48 => 118 | 49 => 150 | 50 => 151 | 57 => 153 | n => n, fun | 22 => 32 | 24 => 22 | 25 => 38 | 3 => 3 | 39 => 126 | 0 => 0 | 53 => 72 | 55 => 152 | 4 => 4 | 46 => 161 | 45 => 160 | 50 => 82 | 5 => 5 | 9 => 9 | 66 => 186 | 70 => 190 | 76 => 203 | 77 => 204 | n => n, fun | n => n⟩
theorem Tryz.laysSlF06_f110 : Go.Proofs.SlLaysF0.n6 prog Tryz.laysSlF06_f110_ren := {
 mixed := by kernel_rfl
 f6 := ⟨Tryz.f110.name, by decide, func110.trans (congrArg some (by kernel_rfl))⟩
 f14 := ⟨Tryz.f126.name, by decide, func126.trans (congrArg some (by kernel_rfl))⟩
 f15 := func76.trans (congrArg some (by kernel_rfl))
 f20 := ⟨Tryz.f138.name, by decide, func138.trans (congrArg some (by kernel_rfl))⟩
 f21 := ⟨Tryz.f139.name, by decide, func139.trans (congrArg some (by kernel_rfl))⟩
 f22 := ⟨Tryz.f140.name, by decide, func140.trans (congrArg some (by kernel_rfl))⟩
 f23 := ⟨Tryz.f141.name, by decide, func141.trans (congrArg some (by kernel_rfl))⟩
 f24 := ⟨Tryz.f142.name, by decide, func142.trans (congrArg some (by kernel_rfl))⟩
 f25 := ⟨Tryz.f143.name, by decide, func143.trans (congrArg some (by kernel_rfl))⟩
 f26 := ⟨Tryz.f144.name, by decide, func144.trans (congrArg some (by kernel_rfl))⟩
 f27 := ⟨Tryz.f145.name, by decide, func145.trans (congrArg some (by kernel_rfl))⟩
 f28 := func98.trans (congrArg some (by kernel_rfl))
 f29 := func99.trans (congrArg some (by kernel_rfl))
 f46 := ⟨Tryz.f149.name, by decide, func149.trans (congrArg some (by kernel_rfl))⟩
 f47 := func117.trans (congrArg some (by kernel_rfl))
 f48 := func118.trans (congrArg some (by kernel_rfl))
 f49 := ⟨Tryz.f150.name, by decide, func150.trans (congrArg some (by kernel_rfl))⟩
 f50 := ⟨Tryz.f151.name, by decide, func151.trans (congrArg some (by kernel_rfl))⟩
 f57 := ⟨Tryz.f153.name, by decide, func153.trans (congrArg some (by kernel_rfl))⟩
 t0 := underlying0
 a0 := isAgg0
 z0 := sizeOf0
 v0 := zeroValue0
 t3 := underlying3
 a3 := isAgg3
 z3 := sizeOf3
 v3 := zeroValue3
 t4 := underlying4
 a4 := isAgg4
 z4 := sizeOf4
 v4 := zeroValue4
 t5 := underlying5
 a5 := isAgg5
 z5 := sizeOf5
 v5 := zeroValue5
 t9 := underlying9
 a9 := isAgg9
 z9 := sizeOf9
 v9 := zeroValue9
 t22 := underlying32
 a22 := isAgg32
 z22 := sizeOf32
 v22 := zeroValue32
 t25 := underlying38
 a25 := isAgg38
 z25 := sizeOf38
 v25 := zeroValue38
 t39 := underlying126
 a39 := isAgg126
 z39 := sizeOf126
 v39 := zeroValue126
 t45 := underlying160
 a45 := isAgg160
 z45 := sizeOf160
 v45 := zeroValue160
 t46 := underlying161
 a46 := isAgg161
 z46 := sizeOf161
 v46 := zeroValue161
 t50 := underlying82
 a50 := isAgg82
 z50 := sizeOf82
 v50 := zeroValue82
 t53 := underlying72
 a53 := isAgg72
 z53 := sizeOf72
 v53 := zeroValue72
 t55 := underlying152
 a55 := isAgg152
 z55 := sizeOf152
 v55 := zeroValue152
 t66 := underlying186
 a66 := isAgg186
 z66 := sizeOf186
 v66 := zeroValue186
 t70 := underlying190
 a70 := isAgg190
 z70 := sizeOf190
 v70 := zeroValue190
 t76 := underlying203
 a76 := isAgg203
 z76 := sizeOf203
 v76 := zeroValue203
 t77 := underlying204
 a77 := isAgg204
 z77 := sizeOf204
 v77 := zeroValue204 }
open Go.RowKit Go.Lib Go.Sort in
theorem Tryz.slices_SortFunc_none_f110 {α : Type} [Inhabited α] (p : Option Addr) (cap : Nat) (fv : Value) (w : World) :
  Calls prog 110 #[.slice p 0 cap, fv] w fun e w' => e = .returned (.tuple #[]) ∧ w' = w := AnyF.slices_SortFunc_none Tryz.laysSlF06_f110 p cap fv w
end Go.Proofs
end
section
namespace Ab
open Go Go.Proofs
open Tryz
theorem sort_facts : I0 prog 88 := ⟨_, func88, rfl, rfl⟩
theorem compact_facts : I0 prog 89 := ⟨_, func89, rfl, rfl⟩
theorem sortL_ok : SortOk prog 88 := fun hσ hl => sort_fn sort_facts (fun blk off cap zs w hH hb hs => Tryz.slices_Sort_int blk off cap zs w hH hb hs) (fun p cap w => Tryz.slices_Sort_int_none p cap w) hσ hl
theorem compactL_ok : CompactOk prog 89 := fun hσ => compact_fn compact_facts (fun blk off cap zs w hH hs hc => Tryz.slices_Compact_int blk off cap zs w hH hs hc) (fun a cap w => Tryz.slices_Compact_int_empty a cap w) hσ
end Ab
end
section
namespace Ab
open Go Go.Proofs
open Tryz
theorem sortF_facts : I0 prog 110 := ⟨_, func110, rfl, rfl⟩
theorem sortF_LLi64_ok : SortFOk prog 110 := fun hgn hO hT hg _ _ _ hσ hl => sortF_fn sortF_facts hgn hO hT hg (fun β _ enc h1 cf hO g cb blk off cap d w eg hcmp hH hblk hsz => Tryz.slices_SortFunc_f110 enc h1 cf hO g cb blk off cap d w eg hcmp hH hblk hsz) (fun p cap fv w => Tryz.slices_SortFunc_none_f110 (α := Unit) p cap fv w) hσ hl
end Ab
end
section
namespace Ab
open Go Go.Proofs
open Tryz
theorem reverse_facts : I0 prog 44 := ⟨_, func44, rfl, rfl⟩
theorem revL_ok : RevOk prog 44 := fun hσ => rev_fn reverse_facts (fun blk off cap zs w hH hs => Tryz.slices_Reverse_int blk off cap zs w hH hs) (fun p cap w => Tryz.slices_Reverse_int_empty p cap w) hσ
end Ab
end
section
namespace Ab
open Go Go.Proofs
open Tryz
theorem sortU_facts : I0 prog 56 := ⟨_, func56, rfl, rfl⟩
theorem sortF_Lu32_ok : SortFOk prog 56 := fun hgn hO hT hg _ _ _ hσ hl => sortF_fn sortU_facts hgn hO hT hg (fun β _ enc h1 cf hO g cb blk off cap d w eg hcmp hH hblk hsz => Tryz.slices_SortFunc_f56 enc h1 cf hO g cb blk off cap d w eg hcmp hH hblk hsz) (fun p cap fv w => Tryz.slices_SortFunc_none_f56 (α := Unit) p cap fv w) hσ hl
end Ab
end
