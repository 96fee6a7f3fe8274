/-
  Texts that the proof stands on.
-/
import Derived.Test.YtfjhmljchkhpnaaGreatDoorKRwRepSpec2
import Derived.Shelf.SlSortCmp.Whole1
import Derived.Laws.CopyRow
import Derived.Shelf.Small.Bits
import Derived.Shelf.Strconv.Itoa0
import Derived.Shelf.Strconv.Itoa1
import Derived.Shelf.LaysM
import Derived.Shelf.Strconv.Itoa2
import Derived.Shelf.Sort.Plain
import Derived.Shelf.Slices.Reverse
import Derived.Shelf.Slices.Equal
import Derived.Ground.Names2Prog
import Derived.Shelf.Slices.SearchI
import Derived.Shelf.Slices.Cells
import Derived.Shelf.Slices.In.SortNone
import Derived.Shelf.Slices.Empties
import Derived.Shelf.Slices.Empties2
import Derived.Ground.SlsfProg
import Derived.Shelf.SlSortCmp.Insertion
import Derived.Shelf.SlSortCmp.SiftDown1
import Derived.Shelf.SlSortCmp.HeapSort1
import Derived.Shelf.SlSortCmp.Insertion1
import Derived.Shelf.SlSortCmp.Median1
import Derived.Shelf.SlSortCmp.Pivot1
import Derived.Shelf.SlSortCmp.ReverseRange1
import Derived.Shelf.SlSortCmp.PartialInsertion1
import Derived.Shelf.SlSortCmp.PartitionEqual1
import Derived.Shelf.SlSortCmp.Partition1
import Derived.Shelf.SlSortCmp.Pdq1
import Derived.Shelf.SlSortCmp.NoneTotal
import Derived.Test.YtfjhmljchkhpnaaGreatDoorProg
set_option linter.all false
section
namespace Ab
open Go
def sortL (l : List Int) : Option (List Int) := if l.length < 4611686018427387904 then some (srt l) else none
def P6 (l : List Int) : List Int := Go.Lib.compact l
theorem sortL_len {l l' : List Int} (h : sortL l = some l') : l.length = l'.length := by
 unfold sortL at h
 split at h
 ·cases h; simp [srt]
 ·cases h
def SortOk (P : Program) (f : FuncId) : Prop := ∀ {σ : b6} {id : Id} {l : List Int}, σ[id]? = some (some (vec 1 intI l)) → l.length < 4611686018427387904 →
  FnOk P f [.c (.own id 0 l.length)] σ fun r σ' => r = .tup [] ∧ σ'.length = σ.length ∧ ∀ i : Id, σ'[i]? = (σ.put id (some (vec 1 intI (srt l))))[i]?
def CompactOk (P : Program) (f : FuncId) : Prop := ∀ {σ : b6} {id : Id} {l : List Int}, σ[id]? = some (some (vec 1 intI l)) →
  FnOk P f [.c (.own id 0 l.length)] σ fun r σ' => r = .c (.own (σ.length, []) 0 (Go.Lib.compact l).length) ∧ σ' = σ.put id none ++ [.one (vec 1 intI (Go.Lib.compact l))]
section
variable {P : Program} {σ0 : b6} {sz : Nat} {Q : Post} {env : Env} {σv σ' : b6} {ops : Array Oper} {rest : List Oper} {dst : Option Nat} {ty : TypeId} {pos : String} {after : Array Edge}
theorem S.sort {x : Operand} {al : List Operand} {ats : Array TypeId} {f : FuncId} {id : Id} {n : Nat} {l l' : List Int} (hs : sortL l = some l') (hf : SortOk P f) (hx : ev env x = some (.c (.fn f []))) (ha : evs env al = some [.c (.own id 0 n)]) (hn : n = l.length) (hσ : σv[id]? = some (some (vec 1 intI l)))
  (hd : e9 sz dst = true) (hσ' : putF σv id (some (vec 1 intI l')) = some σ') (h : AOps P σ0 sz ops Q rest (St.mk (putE env dst (.tup [])) σ')) :
  AOps P σ0 sz ops Q (⟨dst, .call ⟨.value x, al.toArray, ats⟩, ty, pos, after, none⟩ :: rest) (St.mk env σv) := by
 have h2 := x8 hσ'
 subst h2 hn
 unfold sortL at hs
 split at hs
 ·cases hs
  refine AOps.callS hx ha hd (hf hσ ‹_›) ?_
  rintro r σ2 ⟨rfl, hl, he⟩
  refine AOps.sub (s' := ⟨putE env dst (.tup []), σv.put id (some (vec 1 intI (srt l)))⟩) ?_ h
  have := Sub.same (σ0 := σ0) (env := putE env dst (.tup [])) (σ1 := σ2) (σ2 := σv.put id (some (vec 1 intI (srt l)))) (by rw [b6.length_put, hl]) he
  cases dst <;> exact this
 ·cases hs
theorem S.compact {x : Operand} {al : List Operand} {ats : Array TypeId} {f : FuncId} {id n' : Id} {n : Nat} {l : List Int} {σ1 : b6} (hf : CompactOk P f) (hx : ev env x = some (.c (.fn f []))) (ha : evs env al = some [.c (.own id 0 n)]) (hn : n = l.length) (hσ : σv[id]? = some (some (vec 1 intI l)))
  (hd : e9 sz dst = true) (hid : newF σv = some n') (h1 : putF σv id none = some σ1) (hσ' : n5 σ1 (.one (vec 1 intI (P6 l))) = some σ') (h : AOps P σ0 sz ops Q rest (St.mk (putE env dst (.c (.own n' 0 (P6 l).length))) σ')) :
  AOps P σ0 sz ops Q (⟨dst, .call ⟨.value x, al.toArray, ats⟩, ty, pos, after, none⟩ :: rest) (St.mk env σv) := by
 have h2 := x8 h1
 have h3 := s8 hid; have h4 := l9 hσ'
 subst hn h2 h3 h4
 refine AOps.callS hx ha hd (hf hσ) ?_
 rintro r σ2 ⟨rfl, rfl⟩
 cases dst <;> exact h
end
end Ab
end
section
namespace Ab
open Go Go.Sort
theorem putCellsG_size {α : Type} [Inhabited α] {enc : α → Value} {off : Nat} {d : Array α} {arr : Array Value} : (putCells enc off d arr).size = arr.size := by simp [putCells]
theorem putCellsG_get {α : Type} [Inhabited α] {enc : α → Value} {off : Nat} {d : List α} {arr : Array Value} (h : off + d.length ≤ arr.size) {j : Nat} {x : α} (hj : d[j]? = some x) : (putCells enc off d.toArray arr)[off + j]? = some (enc x) := by
 have hjl := (List.getElem?_eq_some_iff.1 hj).1
 have hx := (List.getElem?_eq_some_iff.1 hj).2
 simp only [putCells, Array.getElem?_mapIdx]
 rw [Array.getElem?_eq_getElem (by omega)]
 simp only [Option.map_some, List.size_toArray]
 rw [if_pos (by omega)]
 simp [hjl, hx]
theorem putRowG_setRow {α : Type} [Inhabited α] {enc : α → Value} {w : World} {b off : Nat} {arr : Array Value} {ety : TypeId} {fr : Nat × Nat} {d : Array α} (hb : w.heap[b]? = some (.cells arr ety fr)) :
  putRow enc w b off d = w.setRow b (putCells enc off d arr) := by
 unfold putRow mapBlock World.setRow
 congr 1
 apply Array.ext_getElem?
 intro k
 simp only [Array.getElem?_modify]
 by_cases hk : b = k
 ·subst hk; simp only [if_true, hb, Option.map_some, onCells]
 ·simp [hk]
theorem putRowG_ahead {α : Type} [Inhabited α] (enc : α → Value) (w : World) (n b off : Nat) (d : Array α) : putRow enc (Go.Sort.ahead w n) b off d = Go.Sort.ahead (putRow enc w b off d) n := rfl
theorem putRow_other {α : Type} [Inhabited α] (enc : α → Value) (w : World) (b off : Nat) (d : Array α) {k : Nat} (hk : k ≠ b) : (putRow enc w b off d).heap[k]? = w.heap[k]? := by
 unfold putRow mapBlock
 simp only [Array.getElem?_modify]
 rw [if_neg (fun e => hk e.symm)]
theorem putRow_size {α : Type} [Inhabited α] (enc : α → Value) (w : World) (b off : Nat) (d : Array α) : (putRow enc w b off d).heap.size = w.heap.size := by simp [putRow, mapBlock]
theorem grow_of {W W' : World} (h1 : W'.os = W.os) (h2 : W'.tape = W.tape) (h3 : W.drawn ≤ W'.drawn) (h4 : W'.output = W.output) (h5 : W.heap.size ≤ W'.heap.size) (h6 : ∀ k, k < W.heap.size → W'.heap[k]? = W.heap[k]?) : ∃ q os, W' = Go.Sort.grow (W.drewN q) os := by
 refine ⟨W'.drawn - W.drawn, W'.heap.extract W.heap.size W'.heap.size, ?_⟩
 have hh : W'.heap = W.heap ++ W'.heap.extract W.heap.size W'.heap.size := by
  apply Array.ext_getElem?
  intro k
  rw [Array.getElem?_append]
  split
  ·exact h6 k ‹_›
  ·rw [Array.getElem?_extract]
   split
   ·congr 1; omega
   ·rw [Array.getElem?_eq_none (by omega)]
 obtain ⟨heap, tape, drawn, os, output⟩ := W
 obtain ⟨heap', tape', drawn', os', output'⟩ := W'
 dsimp only at h1 h2 h3 h4 hh
 subst h1 h2 h4
 unfold Go.Sort.grow World.drewN
 dsimp only
 rw [← hh]
 congr 1
 omega
section
variable {α : Type}
abbrev Shw (w : World) (A : Nat → Prop) (g0 : α → I) := {x : Value × α // RelI w A (g0 x.2) x.1}
theorem perm_unique {le : α → α → Bool} (hanti : ∀ a b, le a b = true → le b a = true → a = b) : ∀ {l m : List α}, l.Pairwise (fun a b => le a b = true) → m.Pairwise (fun a b => le a b = true) → l.Perm m → l = m
 | [], m, _, _, hp => (List.nil_perm.1 hp).symm
 | a :: l, [], _, _, hp => absurd hp.length_eq (by simp)
 | a :: l, b :: m, hl, hm, hp => by
  obtain ⟨l1, l2⟩ := List.pairwise_cons.1 hl
  obtain ⟨m1, m2⟩ := List.pairwise_cons.1 hm
  have hab : a = b := by
   rcases List.mem_cons.1 (hp.subset (List.mem_cons_self ..)) with e | e
   ·exact e
   ·rcases List.mem_cons.1 (hp.symm.subset (List.mem_cons_self ..)) with e' | e'
    ·exact e'.symm
    ·exact hanti a b (l1 b e') (m1 a e)
  subst hab
  rw [perm_unique hanti l2 m2 ((List.perm_cons a).1 hp)]
theorem sortF_fn {P : Program} {f g : FuncId} (hf : H9 P f) (hgn : H9 P g) {g0 : α → I} {cf : α → α → Int} (hO : SWO (Go.Proofs.ltOf cf)) (hT : ∀ a b, ¬ cf a b < 0 → ¬ cf b a < 0 → a = b)
  (hg : ∀ a b, d9 P g [.c (.imm (g0 a)), .c (.imm (g0 b))] (.c (int (cf a b))))
  (hC : ∀ (β : Type) [Inhabited β] (enc : β → Value), Go.Proofs.OneCell enc → ∀ (cf : β → β → Int), SWO (Go.Proofs.ltOf cf) → ∀ (g : Nat) (cb : Array Value) (blk off cap : Nat) (d : Array β) (w : World), (∀ args w, (callFunc g args).run P w = .ok (.enter g args) w) → Go.Proofs.CmpLays1 P g cb enc cf blk off d.size w → Holds enc w blk off d → blk < w.heap.size → d.size < 4611686018427387904 →
   Calls P f #[.slice (some ⟨blk, off, none⟩) d.size cap, .func (.func g) #[] cb] w fun e w' => e = .returned (.tuple #[]) ∧ ∃ d' n os, PermIn 0 d.size d d' ∧ SortedIn (Go.Proofs.ltOf cf) 0 d.size d' ∧ w' = Go.Proofs.sortWorld enc w blk off n d' os)
  (hC0 : ∀ (p : Option Addr) (cap : Nat) (fv : Value) (w : World), Calls P f #[.slice p 0 cap, fv] w fun e w' => e = .returned (.tuple #[]) ∧ w' = w)
  {σ : b6} {id : Id} {l : List α} (hσ : σ[id]? = some (some (vec 1 (fun a => [g0 a]) l))) (hl : l.length < 4611686018427387904) :
  FnOk P f [.c (.own id 0 l.length), .c (.fn g [])] σ fun r σ' => r = .tup [] ∧ σ'.length = σ.length ∧ ∀ i : Id, σ'[i]? = (σ.put id (some (vec 1 (fun a => [g0 a]) (l.mergeSort fun x y => decide (¬ cf y x < 0)))))[i]? := by
 refine ⟨hf, fun Γ vs hΓ hG hlen hrel => ?_⟩
 subst hΓ
 match vs, hlen with
 | [u, fv], _ =>
 have hu := z8 (hrel 0 _ u rfl rfl) hσ
 have hfv : fv = .func (.func g) #[] #[] := by
  have h := hrel 1 _ fv rfl rfl
  cases h with | c h => cases h with | fn us hr => rfl
 subst hfv
 have tupR : ∀ {w φ σ A}, RelT w φ σ A (.tup []) (.tuple #[]) := fun {w φ σ A} => RelT.tup (ts := []) (fun _ => undef) fun i t h => by simp at h
 have vlen : ∀ {m : List α}, ((m.map fun a => [g0 a]).map (·.map C.imm)).length = m.length := by simp
 rw [vlen] at hu
 have empty : ∀ (p : Option Addr) (cap : Nat), l = [] → Calls P f #[.slice p 0 cap, .func (.func g) #[] #[]] Γ.w0 fun e w' => ∃ v r σ' φ', e = .returned v ∧ (r = .tup [] ∧ σ'.length = Γ.σ0.length ∧ ∀ i : Id, σ'[i]? = (Γ.σ0.put id (some (vec 1 (fun a => [g0 a]) (l.mergeSort fun x y => decide (¬ cf y x < 0)))))[i]?) ∧ RelT w' φ' σ' (Al Γ.N φ' σ') r v ∧ Rs Γ σ' φ' w' := fun p cap he => by
  refine (hC0 p cap _ Γ.w0).mono ?_
  rintro e w' ⟨rfl, rfl⟩
  refine ⟨_, .tup [], Γ.σ0, Γ.φ0, rfl, ⟨rfl, rfl, fun i => ?_⟩, tupR, Rs.refl hG⟩
  have : (l.mergeSort fun x y => decide (¬ cf y x < 0)) = l := by rw [he]; simp
  rw [this]
  by_cases hi : i = id
  ·rw [hi, b6.get_put_eq hσ, hσ]
  ·rw [b6.get_put_ne hi]
 rcases hu with ⟨_, hv, _, h0⟩ | ⟨b, base, cap, arr, ety, a, hp, hv, ha, hcap, hmax, hjn, hbk, hsz⟩
 ·have he : l = [] := List.eq_nil_of_length_eq_zero (by omega)
  rw [hv]
  exact empty none 0 he
 ·rw [hv]
  by_cases hc0 : 0 < cap
  ·have := ha hc0
   subst this
   simp only [Nat.zero_mul, Nat.add_zero]
   have hR := Rs.refl hG
   rcases hR.st.blk _ _ hσ with ⟨h1, _⟩ | ⟨b', base', arr2, ety2, h1, h2, h3, h4, h5⟩
   ·rw [hp] at h1; cases h1
   ·rw [hp] at h1; cases h1
    rw [hbk] at h2; cases h2
    rw [vlen] at h3
    have hblk := (Array.getElem?_eq_some_iff.1 hbk).1
    have hAne : ∀ k, Al Γ.N Γ.φ0 Γ.σ0 k → k ≠ b := fun k hk e => by subst e; exact hk.2 id _ base hσ hp
    -- the elements
    obtain ⟨ds, d1, d2⟩ := ex_list (p := fun j (x : Shw Γ.w0 (Al Γ.N Γ.φ0 Γ.σ0) g0) => arr[base + j]? = some x.1.1 ∧ l[j]? = some x.1.2) l.length fun j hj => by
     obtain ⟨u, hu1, hu2⟩ := h5 j _ 0 (.imm (g0 l[j])) (by simp [hj]; rfl) rfl
     cases hu2 with | imm hu2 => exact ⟨⟨(u, l[j]), hu2⟩, by simpa using hu1, by simp [hj]⟩
    have dl : ds.map (fun x => x.1.2) = l := by
     refine List.ext_getElem? fun j => ?_
     rw [List.getElem?_map]
     by_cases hj : j < l.length
     ·obtain ⟨x, hx⟩ : ∃ x, ds[j]? = some x := ⟨ds[j], by simp [d1, hj]⟩
      rw [hx, (d2 j x hx).2]; rfl
     ·rw [List.getElem?_eq_none (by omega), List.getElem?_eq_none (by omega)]; rfl
    by_cases hl0 : l = []
    ·have hl1 : l.length = 0 := by rw [hl0]; rfl
     rw [hl1]
     exact empty _ cap hl0
    ·obtain ⟨x0, hx0⟩ : ∃ x, ds[0]? = some x := by
      have : 0 < ds.length := by rw [d1]; exact List.length_pos_iff.2 hl0
      exact ⟨ds[0], by simp [this]⟩
     letI : Inhabited (Shw Γ.w0 (Al Γ.N Γ.φ0 Γ.σ0) g0) := ⟨x0⟩
     have hH : Holds (fun x : Shw Γ.w0 (Al Γ.N Γ.φ0 Γ.σ0) g0 => x.1.1) Γ.w0 b base ds.toArray := by
      intro j hj
      have hjl : j < ds.length := by simpa using hj
      refine ⟨?_, by simp [World.frozen?, hbk]⟩
      rw [World.cell?]
      simp only [hbk]
      rw [(d2 j ds[j] (by simp [hjl])).1]
      simp [hjl]
     have hcmp : Go.Proofs.CmpLays1 P g #[] (fun x : Shw Γ.w0 (Al Γ.N Γ.φ0 Γ.σ0) g0 => x.1.1) (fun x y => cf x.1.2 y.1.2) b base ds.toArray.size Γ.w0 := by
      intro m os dk hdk x y
      have hW : ∀ k, Al Γ.N Γ.φ0 Γ.σ0 k → k < Γ.w0.heap.size → (Go.Proofs.sortWorld (fun x : Shw Γ.w0 (Al Γ.N Γ.φ0 Γ.σ0) g0 => x.1.1) Γ.w0 b base m dk os).heap[k]? = Γ.w0.heap[k]? := fun k hk hlt => by
       unfold Go.Proofs.sortWorld
       rw [heap_grow_old _ os (by rw [putRow_size]; exact hlt), putRow_other _ _ _ _ _ (hAne k hk)]; rfl
      have gd : ∀ W : World, Good ⟨W, fun _ => False, fun _ => none, []⟩ := fun W => ⟨⟨fun i b h => by simp at h, fun i j bi bj p q h => by simp at h⟩, fun b h => h.elim, fun i blk b base h => by simp at h⟩
      have rel : ∀ z : Shw Γ.w0 (Al Γ.N Γ.φ0 Γ.σ0) g0, RelT (Go.Proofs.sortWorld (fun x : Shw Γ.w0 (Al Γ.N Γ.φ0 Γ.σ0) g0 => x.1.1) Γ.w0 b base m dk os) (fun _ => none) [] (Al (fun _ => False) (fun _ => none) []) (.c (.imm (g0 z.1.2))) z.1.1 := fun z =>
       .c (.imm (z.2.mono hW fun k _ _ => ⟨_root_.id, fun i blk base h => by simp at h⟩))
      refine ((hg x.1.2 y.1.2).run ⟨Go.Proofs.sortWorld (fun x : Shw Γ.w0 (Al Γ.N Γ.φ0 Γ.σ0) g0 => x.1.1) Γ.w0 b base m dk os, fun _ => False, fun _ => none, []⟩ [x.1.1, y.1.1] rfl (gd _) rfl (fun i t v hi hv => ?_)).mono ?_
      ·match i with
       | 0 => cases hi; cases hv; exact rel x
       | 1 => cases hi; cases hv; exact rel y
       | i + 2 => simp at hi
      ·rintro e w' ⟨v, r, σ', φ', rfl, rfl, hr, hs⟩
       refine ⟨?_, grow_of hs.os hs.tape hs.drawn hs.output hs.size fun k hk => hs.block k ⟨hk, fun i blk base h => by simp at h⟩⟩
       cases hr with | c hr => cases hr with | imm hr => cases hr with | val => rfl
     obtain ⟨gf, gf1, gf2, gf3⟩ := hgn
     have hszd : ds.toArray.size = l.length := by simp [d1]
     have key := hC _ (fun x : Shw Γ.w0 (Al Γ.N Γ.φ0 Γ.σ0) g0 => x.1.1) (fun x => x.2.one) (fun x y => cf x.1.2 y.1.2) ⟨fun x => hO.irrefl x.1.2, fun x y z => hO.trans x.1.2 y.1.2 z.1.2, fun x y z => hO.ntrans x.1.2 y.1.2 z.1.2⟩ g #[] b base cap ds.toArray Γ.w0 (fun args w => by
      have h2' : ¬ gf.name = "runtime.NumGoroutine" := by simpa using gf2
      have h3' : ¬ gf.body = none := fun e => by rw [e] at gf3; cases gf3
      simp [callFunc, gf1, h2', h3']) hcmp hH hblk (by rw [hszd]; exact hl)
     rw [hszd] at key
     refine key.mono ?_
     rintro e w' ⟨rfl, d', n, os, hperm, hsort, rfl⟩
     obtain ⟨p1, _, p3⟩ := hperm
     have dsz : d'.size = l.length := by rw [p1]; simp [d1]
     have e1 : d'.toList.Perm ds := by
      have a1 : d'.extract 0 l.length = d' := by rw [← dsz]; simp
      have a2 : ds.toArray.extract 0 l.length = ds.toArray := by rw [← hszd]; simp
      rw [a1, a2] at p3
      simpa using p3
     have e2 : (d'.toList.map fun x => x.1.2) = l.mergeSort fun x y => decide (¬ cf y x < 0) := by
      refine perm_unique (le := fun x y => decide (¬ cf y x < 0)) (fun a b h1 h2 => ?_) ?_ ?_ ?_
      ·simp only [decide_eq_true_eq] at h1 h2
       exact hT a b h2 h1
      ·rw [List.pairwise_map, List.pairwise_iff_getElem]
       intro i j hi hj hij
       have hj' : j < d'.size := by simpa using hj
       have := hsort i j (by omega) hij (by rw [← dsz]; exact hj')
       rw [getElem!_pos d' j hj', getElem!_pos d' i (by omega)] at this
       simpa [Go.Proofs.ltOf] using this
      ·refine List.pairwise_mergeSort (fun a b c h1 h2 => ?_) (fun a b => ?_) l
       ·simp only [decide_eq_true_eq] at h1 h2 ⊢
        have := hO.ntrans c b a (by simpa [Go.Proofs.ltOf] using h2) (by simpa [Go.Proofs.ltOf] using h1)
        simpa [Go.Proofs.ltOf] using this
       ·simp only [Bool.or_eq_true, decide_eq_true_eq]
        rcases Int.lt_or_le (cf b a) 0 with h | h
        ·right
         intro h'
         have := hO.trans a b a (by simpa [Go.Proofs.ltOf] using h') (by simpa [Go.Proofs.ltOf] using h)
         rw [hO.irrefl] at this; cases this
        ·left; omega
      ·exact ((e1.map _).trans (by rw [dl])).trans (List.mergeSort_perm ..).symm
     rw [← e2]
     have hW := Rs.write (k := 1) (es' := ((d'.toList.map fun x => x.1.2).map fun a => [g0 a]).map (·.map C.imm)) (arr' := putCells (fun x : Shw Γ.w0 (Al Γ.N Γ.φ0 Γ.σ0) g0 => x.1.1) base d' arr) hR hσ hp hbk (by rw [vlen, vlen]; simp [dsz]) putCellsG_size (fun j e he => by
       simp only [List.map_map, List.getElem?_map, Option.map_eq_some_iff] at he
       obtain ⟨a, _, rfl⟩ := he; rfl) (by rw [vlen]; omega) (fun j e o x he hx => by
       simp only [List.map_map, List.getElem?_map, Option.map_eq_some_iff] at he
       obtain ⟨z, hz, rfl⟩ := he
       match o with
       | 0 =>
        cases hx
        have := putCellsG_get (enc := fun x : Shw Γ.w0 (Al Γ.N Γ.φ0 Γ.σ0) g0 => x.1.1) (off := base) (d := d'.toList) (arr := arr) (by simp [dsz]; omega) hz
        exact ⟨_, by simpa using this, .imm z.2⟩
       | o + 1 => simp at hx)
     unfold Go.Proofs.sortWorld
     rw [putRowG_ahead, putRowG_setRow hbk]
     refine ⟨_, .tup [], _, Γ.φ0, rfl, ⟨rfl, ?_, fun i => rfl⟩, tupR, (hW.2.ahead n).grow os⟩
     rw [b6.length_put]
  ·have he : l = [] := List.eq_nil_of_length_eq_zero (by omega)
   have hl0 : l.length = 0 := by rw [he]; rfl
   rw [hl0]
   exact empty (some a) cap he
end
end Ab
end
section
namespace Ab
open Go
def vw {α : Type} (l : List α) (off len : Int) : Option Unit := if 0 ≤ off ∧ 0 ≤ len ∧ off + len ≤ l.length then some () else none
def cutV (len lo hi : Int) : Option Unit := if 0 ≤ lo ∧ lo ≤ hi ∧ hi ≤ len then some () else none
def ixV {α : Type} (l : List α) (off len i : Int) : Option α := if 0 ≤ off ∧ 0 ≤ i ∧ i < len ∧ off + len ≤ l.length then ix l (off + i) else none
def r9 {α : Type} (l : List α) (off len : Int) : List α := (l.drop off.toNat).take len.toNat
def clrL {α : Type} (l : List α) (off len : Int) (z : α) : List α := l.take off.toNat ++ List.replicate len.toNat z ++ l.drop (off.toNat + len.toNat)
theorem M1 {α : Type} {l : List α} {off len : Int} {u : Unit} (h : vw l off len = some u) : 0 ≤ off ∧ 0 ≤ len ∧ off + len ≤ l.length := by
 unfold vw at h
 split at h
 ·assumption
 ·cases h
theorem X3 {len lo hi : Int} {u : Unit} (h : cutV len lo hi = some u) : 0 ≤ lo ∧ lo ≤ hi ∧ hi ≤ len := by
 unfold cutV at h
 split at h
 ·assumption
 ·cases h
theorem ixV_get {α : Type} {l : List α} {off len i : Int} {a : α} (h : ixV l off len i = some a) : (0 ≤ off ∧ 0 ≤ i ∧ i < len ∧ off + len ≤ l.length) ∧ ix l (off + i) = some a := by
 unfold ixV at h
 split at h
 ·exact ⟨‹_›, h⟩
 ·cases h
theorem ixV_ix {α : Type} {l : List α} {off len i : Int} {a : α} (h : ixV l off len i = some a) : ix l (off + i) = some a := (ixV_get h).2
theorem viewL_len {α : Type} {l : List α} {off len : Int} {u : Unit} (h : vw l off len = some u) : (r9 l off len).length = len.toNat := by
 have := M1 h
 simp [r9]; omega
section
variable {α : Type} {f : α → List I} {l : List α} {P : Program} {σ0 : b6} {sz : Nat} {Q : Post} {env env' : Env} {σv σ' : b6} {ops : Array Oper} {rest : List Oper} {dst : Option Nat} {ty : TypeId} {pos : String} {after : Array Edge} {id : Id} {k : Nat}
theorem S.lenV {x : Operand} {t e : TypeId} {n : Int} {j : Nat} [ht : TyD P t (.slice e)] (hn : 0 ≤ n) (hx : ev env x = some (.c (.own id j n.toNat))) (hσ : σv[id]? = some (some (vec k f l))) (hd : e9 sz dst = true)
  (h : n ≤ 9223372036854775807 → AOps P σ0 sz ops Q rest (St.mk (putE env dst (.c (int n))) σv)) : AOps P σ0 sz ops Q (⟨dst, .call ⟨.builtin .len, #[x], #[t]⟩, ty, pos, after, none⟩ :: rest) (St.mk env σv) :=
 AOps.lenOwnB hx hσ hd fun hb => by
  have e1 : ((n.toNat : Nat) : Int) = n := by omega
  rw [e1]
  exact h (by omega)
theorem S.idxV {x y : Operand} {t e : TypeId} {bytes : Nat} {z : Value} {kk : IntKind} {off len i : Int} {a : α} [ht : TyD P t (.slice e)] [hs : TyS P e k bytes z]
  (he : ixV l off len i = some a) (hx : ev env x = some (.c (.own id off.toNat len.toNat))) (hσ : σv[id]? = some (some (vec k f l))) (hy : ev env y = some (.c (.imm (.val (.int kk i))))) (hd : e9 sz dst = true)
  (h : AOps P σ0 sz ops Q rest (St.mk (putE env dst (.c (.ptr id (off + i).toNat 0))) σv)) : AOps P σ0 sz ops Q (⟨dst, .indexAddr t x y, ty, pos, after, none⟩ :: rest) (St.mk env σv) := by
 obtain ⟨⟨h1, h2, h3, h4⟩, _⟩ := ixV_get he
 refine .indexAddrOwn hx hσ hy (by omega) hd ?_
 rw [show off.toNat + i.toNat = (off + i).toNat by omega]
 exact h
theorem S.vFrom {x y : Operand} {t e : TypeId} {bytes : Nat} {z : Value} {kk : IntKind} {off len lo : Int} {j n : Nat} {u u' : Unit} [ht : TyD P t (.slice e)] [hs : TyS P e k bytes z]
  (hv : vw l off len = some u) (hc : cutV len lo len = some u') (hx : ev env x = some (.c (.own id j n))) (hj : j = off.toNat) (hn : n = len.toNat) (hσ : σv[id]? = some (some (vec k f l))) (hy : ev env y = some (.c (.imm (.val (.int kk lo))))) (hd : e9 sz dst = true)
  (h : AOps P σ0 sz ops Q rest (St.mk (putE env dst (.c (.own id (off + lo).toNat (len - lo).toNat))) σv)) : AOps P σ0 sz ops Q (⟨dst, .slice t x (some y) none none, ty, pos, after, none⟩ :: rest) (St.mk env σv) := by
 have h1 := M1 hv; have h2 := X3 hc
 subst hj hn
 have e1 : lo = ((lo.toNat : Nat) : Int) := by omega
 rw [e1] at hy
 refine AOps.sliceOwnFrom hx hσ hy (by omega) hd ?_
 rw [show off.toNat + lo.toNat = (off + lo).toNat by omega, show len.toNat - lo.toNat = (len - lo).toNat by omega]
 exact h
theorem S.vTo {x y : Operand} {t e : TypeId} {bytes : Nat} {z : Value} {kk : IntKind} {off len hi : Int} {j n : Nat} {u u' : Unit} [ht : TyD P t (.slice e)] [hs : TyS P e k bytes z]
  (hv : vw l off len = some u) (hc : cutV len 0 hi = some u') (hx : ev env x = some (.c (.own id j n))) (hj : j = off.toNat) (hn : n = len.toNat) (hσ : σv[id]? = some (some (vec k f l))) (hy : ev env y = some (.c (.imm (.val (.int kk hi))))) (hd : e9 sz dst = true)
  (h : AOps P σ0 sz ops Q rest (St.mk (putE env dst (.c (.own id off.toNat hi.toNat))) σv)) : AOps P σ0 sz ops Q (⟨dst, .slice t x none (some y) none, ty, pos, after, none⟩ :: rest) (St.mk env σv) := by
 have h1 := M1 hv; have h2 := X3 hc
 subst hj hn
 have e1 : hi = ((hi.toNat : Nat) : Int) := by omega
 rw [e1] at hy
 exact AOps.sliceOwnTo hx hσ hy (by omega) hd h
theorem S.v3 {x y y' : Operand} {t e : TypeId} {bytes : Nat} {z : Value} {kk kk' : IntKind} {off len lo hi : Int} {j n : Nat} {u u' : Unit} [ht : TyD P t (.slice e)] [hs : TyS P e k bytes z]
  (hv : vw l off len = some u) (hc : cutV len lo hi = some u') (hx : ev env x = some (.c (.own id j n))) (hj : j = off.toNat) (hn : n = len.toNat) (hσ : σv[id]? = some (some (vec k f l))) (hy : ev env y = some (.c (.imm (.val (.int kk lo))))) (hy' : ev env y' = some (.c (.imm (.val (.int kk' hi))))) (hd : e9 sz dst = true)
  (h : AOps P σ0 sz ops Q rest (St.mk (putE env dst (.c (.own id (off + lo).toNat (hi - lo).toNat))) σv)) : AOps P σ0 sz ops Q (⟨dst, .slice t x (some y) (some y') none, ty, pos, after, none⟩ :: rest) (St.mk env σv) := by
 have h1 := M1 hv; have h2 := X3 hc
 subst hj hn
 refine AOps.sliceOwn hx hσ hy hy' (by omega) hd ?_
 rw [show off.toNat + lo.toNat = (off + lo).toNat by omega, show hi.toNat - lo.toNat = (hi - lo).toNat by omega]
 exact h
def ReE (env : Env) (t : Nat) (c' : C) : Env → Prop
 | [] => True
 | (t', v) :: r => (t' = t ∧ v = .c c' ∨ lookup t' env = some v) ∧ ReE env t c' r
theorem ReE.get {t : Nat} {c' : C} : ∀ {env' : Env}, ReE env t c' env' → ∀ t' v, lookup t' env' = some v → t' = t ∧ v = .c c' ∨ lookup t' env = some v
 | [], _, t, v, h => by simp [lookup] at h
 | (k, x) :: r, ⟨h1, h2⟩, t', v, h => by
  simp only [lookup] at h
  split at h
  ·cases h
   rename_i e
   have : k = t' := by simpa using e
   subst this
   exact h1
  ·exact ReE.get h2 t' v h
theorem Sub.reown {off len : Int} {j n : Nat} {n' : Id} {σ1 : b6} {u : Unit} (t : Nat) (hv : vw l off len = some u) (hx : lookup t env = some (.c (.own id j n))) (hj : j = off.toNat) (hn : n = len.toNat) (hσ : σv[id]? = some (some (vec k f l))) (h0 : Nat.ble σ0.length id.1 = true) (hid : newF σv = some n')
  (h1 : putF σv id none = some σ1) (hσ' : n5 σ1 (.one (vec k f (r9 l off len))) = some σ') (henv : ReE env t (.own n' 0 (r9 l off len).length) env') : Sub σ0 ⟨env, σv⟩ ⟨env', σ'⟩ := fun Γ sz φ a w hΓ hR => by
 have h2 := x8 h1
 have h3 := s8 hid; have h4 := l9 hσ'
 have hvl := viewL_len hv
 have hvg := M1 hv
 subst hj hn h2 h3 h4
 have hidl := b6.lt_of hσ
 have at_new : (σv.put id none ++ [.one (vec k f (r9 l off len))])[((σv.length, []) : Id)]? = some (some (vec k f (r9 l off len))) := by
  rw [b6.get_right (by simp)]; simp; rfl
 obtain ⟨u0, hu0, hrel⟩ := hR.env t _ hx
 have ho := z8 hrel hσ
 have fin : ∀ (φ' : Phi) (hk : Kept w w φ φ' σv (σv.put id none ++ [.one (vec k f (r9 l off len))]) (Al Γ.N φ σv) (Al Γ.N φ' (σv.put id none ++ [.one (vec k f (r9 l off len))]))) (hs : Rs Γ (σv.put id none ++ [.one (vec k f (r9 l off len))]) φ' w) (hview : J2 w (φ' (σv.length, [])) k (r9 l off len).length 0 (r9 l off len).length u0),
   R Γ sz ⟨env', σv.put id none ++ [.one (vec k f (r9 l off len))]⟩ φ' a w := fun φ' hk hs hview => by
  have hR1 := hR.of hk hs
  refine { toRs := hs, defers := hR1.defers, asize := hR.asize, env := fun t' v' ht' => ?_ }
  rcases henv.get t' v' ht' with ⟨rfl, rfl⟩ | h
  ·refine ⟨u0, hu0, .c (.own (by simp) (by cases hrel with | c g2 => exact g2.one) fun k' es' he => ?_)⟩
   rw [at_new] at he
   cases he
   simpa using hview
  ·obtain ⟨u1, g1, g2⟩ := hR1.env t' v' h
   exact ⟨u1, g1, g2⟩
 rcases ho with ⟨p1, p2, p3, p4⟩ | ⟨b, base, cap, arr, ety, ad, hp, hvv, had, hcap, hmax, hjn, hbk, hsz⟩
 ·have hnil : r9 l off len = [] := List.eq_nil_of_length_eq_zero (by rw [hvl, p4])
  have hK := hR.toRs.kill id
  have hV := hK.2.virt k
  have e1 : σv.put id none ++ [.one (vec k f (r9 l off len))] = σv.put id none ++ [.one (.cells k [])] := by rw [hnil]; rfl
  rw [b6.length_put] at hV
  refine ⟨fun i => if i = (σv.length, []) then none else φ i, ?_⟩
  have := fin (fun i => if i = (σv.length, []) then none else φ i) (by rw [e1]; exact Kept.trans (Nat.le_refl _) hK.1 hV.1) (by rw [e1]; exact hV.2) (.inl ⟨by simp, p2, rfl, by rw [hnil]; rfl⟩)
  exact this
 ·obtain ⟨arr2, ety2, q1, q2, q3, q4⟩ := C4 hR hσ hp
  rw [hbk] at q1; cases q1
  have hO := Rs.reown (k := k) (base' := base + off.toNat * k) (es' := ((r9 l off len).map f).map (·.map C.imm)) (arr' := arr) hR.toRs hσ hp hbk (fun j e he => by
    have : ((r9 l off len).map f).map (·.map C.imm) = ((((l.map f).map (·.map C.imm)).drop off.toNat).take len.toNat) := by simp [r9, List.map_drop, List.map_take]
    rw [this, List.getElem?_take] at he
    split at he
    ·rw [List.getElem?_drop] at he
     exact q3 _ e he
    ·cases he) (by
    simp only [List.length_map, hvl]
    have : (off.toNat + cap) * k = off.toNat * k + cap * k := Nat.add_mul ..
    have : len.toNat * k ≤ cap * k := Nat.mul_le_mul_right k hcap
    omega) (fun j e o x he hx => by
    have : ((r9 l off len).map f).map (·.map C.imm) = ((((l.map f).map (·.map C.imm)).drop off.toNat).take len.toNat) := by simp [r9, List.map_drop, List.map_take]
    rw [this, List.getElem?_take] at he
    split at he
    ·rw [List.getElem?_drop] at he
     obtain ⟨u2, g1, g2⟩ := q4 _ e o x he hx
     refine ⟨u2, ?_, g2⟩
     rw [← g1, Nat.add_mul]
     congr 1; omega
    ·cases he)
  rw [Go.setRow_self w b arr ety (0, 0) hbk] at hO
  refine ⟨fun i => if i = (σv.length, []) then some (b, base + off.toNat * k) else φ i, ?_⟩
  refine fin _ hO.1 hO.2 (.inr ⟨b, base + off.toNat * k, cap, arr, ety, ad, by simp, ?_, fun hc => ?_, ?_, hmax, by omega, hbk, ?_⟩)
  ·rw [hvv, hvl]
  ·rw [had hc, Nat.zero_mul, Nat.add_zero]
  ·rw [hvl]; exact hcap
  ·have : (off.toNat + cap) * k = off.toNat * k + cap * k := Nat.add_mul ..
   rw [Nat.zero_add]; omega
theorem AWP.reown {c : Code} {off len : Int} {j n : Nat} {n' : Id} {σ1 : b6} {u : Unit} (t : Nat) (hv : vw l off len = some u) (hx : lookup t env = some (.c (.own id j n))) (hj : j = off.toNat) (hn : n = len.toNat) (hσ : σv[id]? = some (some (vec k f l))) (h0 : Nat.ble σ0.length id.1 = true) (hid : newF σv = some n')
  (h1 : putF σv id none = some σ1) (hσ' : n5 σ1 (.one (vec k f (r9 l off len))) = some σ') (henv : ReE env t (.own n' 0 (r9 l off len).length) env') (h : AWP P σ0 sz c Q ⟨env', σ'⟩) : AWP P σ0 sz c Q ⟨env, σv⟩ :=
 AWP.sub (Sub.reown t hv hx hj hn hσ h0 hid h1 hσ' henv) h
theorem zeroCells_one {v : Value} (n : Nat) : (Builtin.zeroCells #[v] n).toList = List.replicate n v := by
 refine List.ext_getElem? fun i => ?_
 simp only [Builtin.zeroCells, Array.toList_map, List.getElem?_map, List.getElem?_replicate]
 by_cases h : i < n
 ·have : (Array.range (n * (#[v] : Array Value).size)).toList[i]? = some i := by simp [h]
  rw [this, if_pos h]
  simp [Nat.mod_one]
 ·have : (Array.range (n * (#[v] : Array Value).size)).toList[i]? = none := by simp; omega
  rw [this, if_neg h]; rfl
theorem S.clear {x : Operand} {t e : TypeId} {bytes : Nat} {z : Value} {off len : Int} {j n : Nat} {u : Unit} {a0 : α} {c0 : C} [ht : TyD P t (.slice e)] [hs : TyS P e 1 bytes z] (hz1 : z.cells = #[z]) (hzc : z.oneCell' = true)
  (hf : (f a0).map C.imm = [c0]) (hrel : ∀ w φ σ A, RelC w φ σ A c0 z)
  (hv : vw l off len = some u) (hx : ev env x = some (.c (.own id j n))) (hj : j = off.toNat) (hn : n = len.toNat) (hσ : σv[id]? = some (some (vec 1 f l))) (hσ' : putF σv id (some (vec 1 f (clrL l off len a0))) = some σ')
  (h : AOps P σ0 sz ops Q rest (St.mk env σ')) : AOps P σ0 sz ops Q (⟨none, .call ⟨.builtin .clear, #[x], #[t]⟩, ty, pos, after, none⟩ :: rest) (St.mk env σv) := by
 have hvg := M1 hv
 have h2 := x8 hσ'
 subst hj hn h2
 refine .valueW rfl rfl (.tup []) (σv.put id (some (vec 1 f (clrL l off len a0)))) (fun Γ φ a w hR => ?_) h
 have tupR : ∀ {w φ σ A}, RelT w φ σ A (.tup []) (.tuple #[]) := fun {w φ σ A} => RelT.tup (ts := []) (fun _ => undef) fun i t h => by simp at h
 have ho := z8 (i7 hR hx) hσ
 have clen : (clrL l off len a0).length = l.length := by simp [clrL]; omega
 have nothing : len.toNat = 0 → clrL l off len a0 = l := fun e => by simp [clrL, e]
 have same : len.toNat = 0 → (execOp a.eval ⟨none, .call ⟨.builtin .clear, #[x], #[t]⟩, ty, pos, after, none⟩).run P w = .ok (.value (.tuple #[])) w → ∃ u w' φ', (execOp a.eval ⟨none, .call ⟨.builtin .clear, #[x], #[t]⟩, ty, pos, after, none⟩).run P w = .ok (.value u) w' ∧ RelT w' φ' (σv.put id (some (vec 1 f (clrL l off len a0)))) (Al Γ.N φ' (σv.put id (some (vec 1 f (clrL l off len a0))))) (.tup []) u ∧ R Γ sz ⟨env, σv.put id (some (vec 1 f (clrL l off len a0)))⟩ φ' a w' := fun e0 hrun => by
  rw [nothing e0]
  have hsub := Sub.blk (σ0 := Γ.σ0) (env := env) (id := id) (k := 1) (es := (l.map f).map (·.map C.imm)) (es' := (l.map f).map (·.map C.imm)) hσ rfl (fun i e' he => by
   rcases hR.st.blk _ _ hσ with ⟨_, g2⟩ | ⟨_, _, _, _, _, _, _, g4, _⟩
   ·rw [g2] at he; simp at he
   ·exact g4 i e' he) (fun i e' o x' he hx' => ⟨e', x', he, hx', fun _ _ _ _ _ hr => hr⟩)
  obtain ⟨φ', hR'⟩ := hsub Γ sz φ a w rfl hR
  exact ⟨_, w, φ', hrun, tupR, hR'⟩
 rcases ho with ⟨p1, p2, p3, p4⟩ | ⟨b, base, cap, arr, ety, ad, hp, hvv, had, hcap, hmax, hjn, hbk, hsz⟩
 ·exact same p4 (by simp [execOp, resolve, invoke, builtin, p2, Builtin.clear_, run_underlying ht.h])
 ·by_cases e0 : len.toNat = 0
  ·refine same e0 ?_
   rw [e0] at hvv
   simp [execOp, resolve, invoke, builtin, hvv, Builtin.clear_, run_underlying ht.h]
  ·have hc0 : 0 < cap := by omega
   have := had hc0
   subst this
   obtain ⟨arr2, ety2, q1, q2, q3, q4⟩ := C4 hR hσ hp
   rw [hbk] at q1; cases q1
   simp only [List.length_map] at q2 hjn
   have hst := run_storeCells_at P b (base + off.toNat * 1) ety (List.replicate len.toNat z) 0 arr w hbk (by simp; omega) (fun v hv => by rw [List.eq_of_mem_replicate hv]; exact hzc)
   simp only [Nat.add_zero, Nat.mul_one, List.length_replicate] at hst
   have hl1 : ∀ b : α, ((f b).map C.imm).length = (f b).length := fun b => by simp
   have hW := Rs.write (k := 1) (es' := ((clrL l off len a0).map f).map (·.map C.imm)) (arr' := (arr.toList.take (base + off.toNat) ++ List.replicate len.toNat z ++ arr.toList.drop (base + off.toNat + len.toNat)).toArray) hR.toRs hσ hp hbk (by simp [clen]) (by simp; omega) (fun i e' he => by
     simp only [List.map_map, List.getElem?_map, Option.map_eq_some_iff] at he
     obtain ⟨y, hy, rfl⟩ := he
     by_cases hyl : y ∈ l
     ·obtain ⟨i', hi'⟩ := List.getElem?_of_mem hyl
      exact q3 i' _ (by simp [hi'])
     ·have hy := List.mem_of_getElem? hy
      simp only [clrL, List.mem_append] at hy
      rcases hy with (hy | hy) | hy
      ·exact absurd (List.mem_of_mem_take hy) hyl
      ·rw [List.eq_of_mem_replicate hy]
       simp only [Function.comp_apply, hf]; rfl
      ·exact absurd (List.mem_of_mem_drop hy) hyl) (by simp; omega) (fun i e' o x' he hx' => by
     simp only [List.map_map, List.getElem?_map, Option.map_eq_some_iff, Function.comp_apply] at he
     obtain ⟨y, hy, rfl⟩ := he
     simp only [List.getElem?_toArray]
     have hsp := y4 arr.toList (List.replicate len.toNat z) (base + off.toNat) (base + (i * 1 + o)) (by simp; omega)
     simp only [List.length_replicate] at hsp
     rw [hsp]
     have hy' : (clrL l off len a0)[i]? = if off.toNat ≤ i ∧ i < off.toNat + len.toNat then some a0 else l[i]? := by
      have := y4 l (List.replicate len.toNat a0) off.toNat i (by simp; omega)
      simp only [List.length_replicate] at this
      rw [clrL, this]
      split
      ·rw [List.getElem?_replicate, if_pos (by omega)]
      ·rfl
     rw [hy'] at hy
     split at hy
     ·rename_i hi
      cases hy
      rw [hf] at hx'
      match o with
      | 0 =>
       cases hx'
       rw [if_pos (by omega), List.getElem?_replicate, if_pos (by omega)]
       exact ⟨z, rfl, hrel _ _ _ _⟩
      | o + 1 => simp at hx'
     ·rename_i hi
      have ho : o = 0 := by
       have h1 := q3 i ((f y).map C.imm) (by simp [hy])
       have := (List.getElem?_eq_some_iff.1 hx').1
       omega
      subst ho
      rw [if_neg (by omega)]
      obtain ⟨u2, g1, g2⟩ := q4 i ((f y).map C.imm) 0 x' (by simp [hy]) hx'
      exact ⟨u2, by simpa using g1, g2⟩)
   have hz := K9 (P := P) (t := e) w
   refine ⟨.tuple #[], _, φ, ?_, tupR, hR.of hW.1 hW.2⟩
   have hne : ¬ (len.toNat = 0) := e0
   simp [execOp, resolve, invoke, builtin, hvv, Builtin.clear_, run_underlying ht.h, hz, hz1, zeroCells_one, hst]
end
end Ab
end
section
namespace Ab
open Go Go.Sort
def CmpOk {α : Type} (cmp : α → α → Option Int) (cf : α → α → Int) : Prop := (∀ a b, cmp a b = some (cf a b)) ∧ SWO (Go.Proofs.ltOf cf) ∧ ∀ a b, ¬ cf a b < 0 → ¬ cf b a < 0 → a = b
noncomputable def sortFL {α : Type} (cmp : α → α → Option Int) (l : List α) : Option (List α) := open Classical in
 if h : l.length < 4611686018427387904 ∧ ∃ cf, CmpOk cmp cf then some (l.mergeSort fun x y => decide (¬ h.2.choose y x < 0)) else none
theorem sortFL_eq {α : Type} {cmp : α → α → Option Int} {cf : α → α → Int} {l : List α} (h : l.length < 4611686018427387904) (hc : CmpOk cmp cf) : sortFL cmp l = some (l.mergeSort fun x y => decide (¬ cf y x < 0)) := by
 unfold sortFL
 have hx : l.length < 4611686018427387904 ∧ ∃ cf, CmpOk cmp cf := ⟨h, cf, hc⟩
 rw [dif_pos hx]
 have e : hx.2.choose = cf := by
  funext a b
  have := hx.2.choose_spec.1 a b
  rw [hc.1 a b] at this
  exact (Option.some.inj this).symm
 rw [e]
theorem sortFL_len {α : Type} {cmp : α → α → Option Int} {l l' : List α} (h : sortFL cmp l = some l') : l.length = l'.length := by
 unfold sortFL at h
 split at h
 ·cases h; simp
 ·cases h
def SortFOk (P : Program) (f : FuncId) : Prop := ∀ {α : Type} {g : FuncId} {g0 : α → I} {cf : α → α → Int}, H9 P g → SWO (Go.Proofs.ltOf cf) → (∀ a b, ¬ cf a b < 0 → ¬ cf b a < 0 → a = b) → (∀ a b, d9 P g [.c (.imm (g0 a)), .c (.imm (g0 b))] (.c (int (cf a b)))) →
 ∀ {σ : b6} {id : Id} {l : List α}, σ[id]? = some (some (vec 1 (fun a => [g0 a]) l)) → l.length < 4611686018427387904 →
  FnOk P f [.c (.own id 0 l.length), .c (.fn g [])] σ fun r σ' => r = .tup [] ∧ σ'.length = σ.length ∧ ∀ i : Id, σ'[i]? = (σ.put id (some (vec 1 (fun a => [g0 a]) (l.mergeSort fun x y => decide (¬ cf y x < 0)))))[i]?
section
variable {P : Program} {σ0 : b6} {sz : Nat} {Q : Post} {env : Env} {σv σ' : b6} {ops : Array Oper} {rest : List Oper} {dst : Option Nat} {ty : TypeId} {pos : String} {after : Array Edge}
theorem S.sortF {α : Type} {f : α → List I} (g0 : α → I) {cmp : α → α → Option Int} {x : Operand} {al : List Operand} {ats : Array TypeId} {fs g : FuncId} {id : Id} {n : Nat} {l l' : List α} (hs : sortFL cmp l = some l') (hfg : f = fun a => [g0 a])
  (hcmp : ∀ {a b r}, cmp a b = some r → d9 P g [.c (.imm (g0 a)), .c (.imm (g0 b))] (.c (int r))) (hf : SortFOk P fs) (hgn : H9 P g) (hx : ev env x = some (.c (.fn fs []))) (ha : evs env al = some [.c (.own id 0 n), .c (.fn g [])]) (hn : n = l.length) (hσ : σv[id]? = some (some (vec 1 f l)))
  (hd : e9 sz dst = true) (hσ' : putF σv id (some (vec 1 f l')) = some σ') (h : AOps P σ0 sz ops Q rest (St.mk (putE env dst (.tup [])) σ')) :
  AOps P σ0 sz ops Q (⟨dst, .call ⟨.value x, al.toArray, ats⟩, ty, pos, after, none⟩ :: rest) (St.mk env σv) := by
 have h2 := x8 hσ'
 subst h2 hn hfg
 unfold sortFL at hs
 split at hs
 ·rename_i hx0
  cases hs
  obtain ⟨c1, c2, c3⟩ := hx0.2.choose_spec
  refine AOps.callS hx ha hd (hf hgn c2 c3 (fun a b => hcmp (c1 a b)) hσ hx0.1) ?_
  rintro r σ2 ⟨rfl, hl, he⟩
  refine AOps.sub (s' := ⟨putE env dst (.tup []), σv.put id (some (vec 1 (fun a => [g0 a]) (l.mergeSort fun x y => decide (¬ hx0.2.choose y x < 0))))⟩) ?_ h
  have := Sub.same (σ0 := σ0) (env := putE env dst (.tup [])) (σ1 := σ2) (σ2 := σv.put id (some (vec 1 (fun a => [g0 a]) (l.mergeSort fun x y => decide (¬ hx0.2.choose y x < 0))))) (by rw [b6.length_put, hl]) he
  cases dst <;> exact this
 ·cases hs
end
/-! ### Views in chains -/
theorem Q7 {α : Type} (l : List α) : vw l 0 (l.length : Int) = some () := by unfold vw; rw [if_pos]; omega
theorem vw_cut {α : Type} {l : List α} {off len lo hi : Int} {u u' : Unit} (h : vw l off len = some u) (hc : cutV len lo hi = some u') : vw l (off + lo) (hi - lo) = some () := by
 have := M1 h; have := X3 hc
 unfold vw; rw [if_pos]; omega
theorem vw_to {α : Type} {l : List α} {off len hi : Int} {u u' : Unit} (h : vw l off len = some u) (hc : cutV len 0 hi = some u') : vw l off hi = some () := by
 have := M1 h; have := X3 hc
 unfold vw; rw [if_pos]; omega
theorem clrL_len {α : Type} {l : List α} {off len : Int} {u : Unit} {z : α} (h : vw l off len = some u) : (clrL l off len z).length = l.length := by
 have := M1 h
 simp [clrL]; omega
end Ab
end
section
namespace Ab
open Go
def shlW (k : IntKind) (a b : Int) : Int := k.wrap (a * 2 ^ (min b.toNat k.bits))
def chk0 (b : Int) : Option Unit := if b < 0 then none else some ()
theorem chk0_get {b : Int} {u : Unit} (h : chk0 b = some u) : ¬ b < 0 := by
 unfold chk0 at h
 split at h
 ·cases h
 ·assumption
section
variable {P : Program} {σ0 : b6} {sz : Nat} {Q : Post} {env : Env} {σv : b6} {ops : Array Oper} {rest : List Oper} {dst : Option Nat} {ty : TypeId} {pos : String} {after : Array Edge}
theorem S.shl {t t' : TypeId} {x y : Operand} {k k' : IntKind} {a b : Int} {u : Unit} (hb : chk0 b = some u) (hx : ev env x = some (.c (.imm (.val (.int k a))))) (hy : ev env y = some (.c (.imm (.val (.int k' b))))) (hd : e9 sz dst = true)
  (h : AOps P σ0 sz ops Q rest (St.mk (putE env dst (.c (.imm (.val (.int k (shlW k a b)))))) σv)) : AOps P σ0 sz ops Q (⟨dst, .binOp .shl t x y t', ty, pos, after, none⟩ :: rest) (St.mk env σv) :=
 .bin hx hy hd rfl (fun w => by simp [go_sem]) (fun w => by simp [binOp, Op.shift, chk0_get hb, shlW]) h
end
section
variable {P : Program} {σ0 : b6} {sz : Nat} {Q : Post} {env env' : Env} {σv σ' : b6}
theorem Sub.virtB {α : Type} (k : Nat) (f : α → List I) {b n : Id} {kb o : Nat} {cs cs' : List C} {σ1 : b6} (hb : σv[b]? = some (some (.cells kb [cs]))) (hc : cs[o]? = some (.imm (.val (.slice none 0 0)))) (hn : newF σv = some n) (h1 : n5 σv (.one (vec k f [])) = some σ1)
  (hs : setF cs o (.own n 0 ([] : List α).length) = some cs') (hσ' : putF σ1 b (some (.cells kb [cs'])) = some σ') : Sub σ0 ⟨env, σv⟩ ⟨env, σ'⟩ := fun Γ sz φ a w hΓ hR => by
 have g1 := s8 hn; have g2 := l9 h1; have g3 := H3 hs; have g4 := x8 hσ'
 obtain ⟨g3, g3'⟩ := g3
 subst g1 g2 g3 g4
 have hbl := b6.lt_of hb
 have hV := hR.toRs.virt k
 have hb' : (σv ++ [.one (vec k f [])])[b]? = some (some (.cells kb [cs])) := by rw [b6.get_left hbl]; exact hb
 have e0 : (σv ++ [.one (.cells k [])] : b6) = σv ++ [.one (vec k f [])] := rfl
 rw [e0] at hV
 generalize hφ : (fun i => if i = ((σv.length, []) : Id) then none else φ i) = φ' at hV
 have φn : φ' (σv.length, []) = none := by rw [← hφ]; simp
 rcases hV.2.st.blk _ _ hb' with ⟨_, g⟩ | ⟨b0, base, arr, ety, q1, q2, q3, q4, q5⟩
 ·cases g
 ·have hW := Rs.write (k := kb) (es' := [cs.set o (.own (σv.length, []) 0 ([] : List α).length)]) (arr' := arr) hV.2 hb' q1 q2 rfl rfl (fun j e he => by
   match j with
   | 0 =>
    cases he
    rw [List.length_set]
    exact q4 0 cs rfl
   | j + 1 => simp at he) (by simpa using q3) (fun j e i x he hx => by
   match j with
   | 0 =>
    cases he
    rw [List.getElem?_set] at hx
    split at hx
    ·rename_i e
     subst e
     cases hx
     obtain ⟨u, hu, hr⟩ := q5 0 cs o _ rfl hc
     refine ⟨u, hu, ?_⟩
     cases hr with | imm hr => cases hr with | val h =>
      exact .own (by simp) rfl fun k' es' _ => .inl ⟨φn, rfl, rfl, rfl⟩
    ·exact q5 0 cs i x rfl hx
   | j + 1 => simp at he)
  rw [Go.setRow_self w b0 arr ety (0, 0) q2] at hW
  exact ⟨φ', (hR.of hV.1 hV.2).of hW.1 hW.2⟩
theorem AWP.virtB {α : Type} {c : Code} (k : Nat) (f : α → List I) {b n : Id} {kb o : Nat} {cs cs' : List C} {σ1 : b6} (hb : σv[b]? = some (some (.cells kb [cs]))) (hc : cs[o]? = some (.imm (.val (.slice none 0 0)))) (hn : newF σv = some n) (h1 : n5 σv (.one (vec k f [])) = some σ1)
  (hs : setF cs o (.own n 0 ([] : List α).length) = some cs') (hσ' : putF σ1 b (some (.cells kb [cs'])) = some σ') (h : AWP P σ0 sz c Q ⟨env, σ'⟩) : AWP P σ0 sz c Q ⟨env, σv⟩ := AWP.sub (Sub.virtB k f hb hc hn h1 hs hσ') h
def NilB : List C → List C → Prop
 | [], [] => True
 | c :: r, c' :: r' => (c' = c ∨ c = .imm (.val (.slice none 0 0)) ∧ ∃ k, c' = .imm (.sl k [])) ∧ NilB r r'
 | _, _ => False
theorem NilB.len : ∀ {l l' : List C}, NilB l l' → l'.length = l.length
 | [], [], _ => rfl
 | _ :: r, _ :: r', ⟨_, h⟩ => by simp [NilB.len h]
 | [], _ :: _, h => h.elim
 | _ :: _, [], h => h.elim
theorem NilB.get : ∀ {l l' : List C}, NilB l l' → ∀ (o : Nat) (x : C), l'[o]? = some x → ∃ x0, l[o]? = some x0 ∧ (x = x0 ∨ x0 = .imm (.val (.slice none 0 0)) ∧ ∃ k, x = .imm (.sl k []))
 | [], [], _, o, x, h => by simp at h
 | c :: r, c' :: r', ⟨h1, h2⟩, o, x, h => by
  match o with
  | 0 => cases h; exact ⟨c, rfl, h1⟩
  | o + 1 => simpa using NilB.get h2 o x (by simpa using h)
 | [], _ :: _, h, _, _, _ => h.elim
 | _ :: _, [], h, _, _, _ => h.elim
theorem Sub.nilB {b : Id} {kb : Nat} {cs : List C} (cs' : List C) (hb : σv[b]? = some (some (.cells kb [cs]))) (h : NilB cs cs') (hlen : cs.length = kb) (hσ' : putF σv b (some (.cells kb [cs'])) = some σ') : Sub σ0 ⟨env, σv⟩ ⟨env, σ'⟩ := by
 have g := x8 hσ'
 subst g
 refine Sub.blk hb rfl (fun j e he => ?_) (fun j e o x he hx => ?_)
 ·match j with
  | 0 => cases he; rw [h.len, hlen]
  | j + 1 => simp at he
 ·match j with
  | 0 =>
   cases he
   obtain ⟨x0, h1, h2⟩ := h.get o x hx
   refine ⟨cs, x0, rfl, h1, fun w φ σ A u hr => ?_⟩
   rcases h2 with rfl | ⟨rfl, k, rfl⟩
   ·exact hr
   ·cases hr with | imm hr => cases hr with | val => exact .imm .slNil
  | j + 1 => simp at he
theorem AWP.nilB {c : Code} {b : Id} {kb : Nat} {cs : List C} (cs' : List C) (hb : σv[b]? = some (some (.cells kb [cs]))) (h : NilB cs cs') (hlen : cs.length = kb) (hσ' : putF σv b (some (.cells kb [cs'])) = some σ') (hn : AWP P σ0 sz c Q ⟨env, σ'⟩) : AWP P σ0 sz c Q ⟨env, σv⟩ := AWP.sub (Sub.nilB cs' hb h hlen hσ') hn
end
end Ab
end
section
namespace Ab
open Go
section
variable {α : Type} {f : α → List I} {l : List α} {p m : Nat} {n id : Id}
abbrev vecS (f : α → List I) (l : List α) (p : Nat) (n : Id) (m : Nat) : Blk := .cells 1 (((l.map f).map (·.map C.imm)).set p [.own n 0 m])
theorem mem_set {β : Type} {x a : β} : ∀ {l : List β} {p : Nat}, x ∈ l.set p a → x ∈ l ∨ x = a
 | [], _, h => by simp at h
 | b :: l, 0, h => by
  rcases List.mem_cons.1 h with h | h
  ·exact .inr h
  ·exact .inl (List.mem_cons_of_mem _ h)
 | b :: l, p + 1, h => by
  rcases List.mem_cons.1 h with h | h
  ·exact .inl (h ▸ List.mem_cons_self ..)
  ·rcases mem_set h with h | h
   ·exact .inl (List.mem_cons_of_mem _ h)
   ·exact .inr h
theorem vs_no (h : idb n id = false) : (vecS f l p n m).no id = true := by
 simp only [Blk.no, List.all_eq_true]
 intro e he
 rcases mem_set he with h1 | rfl
 ·have := Blk.im_no id 1 (l.map f)
  simp only [Blk.im, Blk.no, List.all_eq_true] at this
  exact this e h1
 ·simp [C.noL, C.no, h]
theorem FrzB.vs {X : C → C → Prop} (h : idb n id = false) : FrzB id X (.one (vecS f l p n m)) (.one (vecS f l p n m)) := by
 have hno := vs_no (f := f) (l := l) (p := p) (m := m) h
 have imm : ∀ e ∈ ((l.map f).map (·.map C.imm)).set p [.own n 0 m], FrzL id X e e := fun e he => by
  rcases mem_set he with h1 | rfl
  ·simp only [List.map_map, List.mem_map, Function.comp_apply] at h1
   obtain ⟨a, _, rfl⟩ := h1
   exact FrzL.imm _
  ·exact ⟨.inl ⟨rfl, by simp [C.no, h]⟩, trivial⟩
 unfold FrzB
 split
 ·rename_i h1 _; cases h1
 ·rename_i k1 e k2 e' h1 h2
  simp only [Ent.one.injEq, Blk.cells.injEq] at h1 h2
  obtain ⟨rfl, h1⟩ := h1
  obtain ⟨rfl, h2⟩ := h2
  have : e = e' := by rw [h1] at h2; simpa using h2
  subst this
  exact ⟨rfl, imm e (by rw [h1]; simp)⟩
 ·rename_i h1 h2
  cases h1; cases h2
  exact ⟨rfl, hno⟩
 ·rename_i h1; cases h1
 ·rename_i h1 h2 h3 h4
  first | exact (h3 _ _ rfl rfl).elim | exact (h4 _ _ rfl rfl).elim | exact (h2 _ _ rfl rfl).elim
end
section
variable {P : Program} {σ0 : b6} {sz : Nat} {Q : Post} {env : Env} {σv σ' : b6} {ops : Array Oper} {rest : List Oper} {dst : Option Nat} {ty : TypeId} {pos : String} {after : Array Edge}
variable {α β : Type} {f : α → List I} {l : List α} {p m : Nat} {n id : Id}
inductive FrzE (id : Id) (k : Nat) (es : List (List I)) (X : C → C → Prop) : Ent → Ent → Prop
 | old {e e' : Ent} (h : FrzB id X e e') : FrzE id k es X e e'
 | vs {α : Type} {f : α → List I} {l : List α} {p m : Nat} {b : Blk} (h : Blk.frz id k es (vecS f l p id m) = b) : FrzE id k es X (.one (vecS f l p id m)) (.one b)
def FrzS2 (id : Id) (k : Nat) (es : List (List I)) (X : C → C → Prop) : b6 → b6 → Prop
 | [], [] => True
 | b :: r, b' :: r' => FrzE id k es X b b' ∧ FrzS2 id k es X r r'
 | _, _ => False
theorem FrzE.get {k : Nat} {es : List (List I)} {X : C → C → Prop} (hX : ∀ c c', X c c' → c.frz id k es = c') {e e' : Ent} (h : FrzE id k es X e e') (p : List Nat) : (e.sub p).map (Blk.frz id k es) = e'.sub p := by
 cases h with
 | old h => exact FrzB.get hX h p
 | vs h =>
  cases p with
  | nil => simp only [Ent.sub, Option.map_some, h]
  | cons => rfl
theorem FrzS2.get {k : Nat} {es : List (List I)} {X : C → C → Prop} (hX : ∀ c c', X c c' → c.frz id k es = c') : ∀ {σ σ2 : b6}, FrzS2 id k es X σ σ2 → ∀ i : Id, (σ[i]?).map (Option.map (Blk.frz id k es)) = σ2[i]?
 | [], [], _, i => rfl
 | [], _ :: _, h, _ => h.elim
 | _ :: _, [], h, _ => h.elim
 | e :: r, e' :: r', h, (0, p) => by
  rw [b6.at_eq, b6.at_eq]
  simp only [b6.at, List.getElem?_cons_zero, Option.map_some, FrzE.get hX h.1 p]
 | e :: r, e' :: r', h, (i + 1, p) => by
  have := FrzS2.get hX h.2 (i, p)
  rw [b6.at_eq, b6.at_eq] at this ⊢
  simpa [b6.at] using this
theorem FrzS2.len {k : Nat} {es : List (List I)} {X : C → C → Prop} : ∀ {σ σ2 : b6}, FrzS2 id k es X σ σ2 → σ2.length = σ.length
 | [], [], _ => rfl
 | [], _ :: _, h => h.elim
 | _ :: _, [], h => h.elim
 | e :: r, e' :: r', h => by simp [FrzS2.len h.2]
end
end Ab
end
section
namespace Ab
open Go
section
variable {P : Program} {σ0 : b6} {sz : Nat} {Q : Post} {env : Env} {σv σ' : b6} {ops : Array Oper} {rest : List Oper} {dst : Option Nat} {ty : TypeId} {pos : String} {after : Array Edge}
end
end Ab
end
section
namespace Ab
open Go
theorem Rs.allocB {Γ : Cx} {σ : b6} {φ : Phi} {w : World} (h : Rs Γ σ φ w) {p0 : Obj → List Value → Prop} {cs0 : List C} {us0 : List Value} {obj : Obj} (hob : p0 obj us0) (hcs : ∀ (i : Nat) (x : C), cs0[i]? = some x → ∃ u, us0[i]? = some u ∧ RelC w φ σ (Al Γ.N φ σ) x u) :
  Kept w (w.alloc obj) φ (i8 σ.length φ w.heap.size) σ (σ ++ [.one (.obj p0 cs0)]) (Al Γ.N φ σ) (Al Γ.N (i8 σ.length φ w.heap.size) (σ ++ [.one (.obj p0 cs0)])) ∧
  Rs Γ (σ ++ [.one (.obj p0 cs0)]) (i8 σ.length φ w.heap.size) (w.alloc obj) := by
 have old : ∀ b, b < w.heap.size → (w.alloc obj).heap[b]? = w.heap[b]? := fun b hb => by first | exact heap_alloc_old w _ hb | exact heap_alloc_old w _ _ hb
 have new : (w.alloc obj).heap[w.heap.size]? = some obj := heap_alloc_new w _
 have plo : ∀ i : Id, i.1 < σ.length → i8 σ.length φ w.heap.size i = φ i := fun i hi => by
  have : i ≠ (σ.length, []) := fun e => by rw [e] at hi; exact Nat.lt_irrefl _ hi
  simp [i8, this]
 have pnew : i8 σ.length φ w.heap.size (σ.length, []) = some (w.heap.size, 0) := by simp [i8]
 have cases2 : ∀ (i : Id) blk, (σ ++ [.one (.obj p0 cs0)])[i]? = some (some blk) → (i.1 < σ.length ∧ σ[i]? = some (some blk)) ∨ (i = (σ.length, []) ∧ blk = .obj p0 cs0) := fun i blk hi => b6.get_new hi
 have A1 : ∀ b, Al Γ.N φ σ b → b < w.heap.size → Al Γ.N (i8 σ.length φ w.heap.size) (σ ++ [.one (.obj p0 cs0)]) b := fun b hb hl => ⟨hb.1, fun i blk base hi hp => by
  rcases cases2 i blk hi with ⟨h1, h2⟩ | ⟨rfl, rfl⟩
  ·rw [plo i h1] at hp; exact hb.2 i blk base h2 hp
  ·rw [pnew] at hp; cases hp; omega⟩
 have hK : Kept w (w.alloc obj) φ (i8 σ.length φ w.heap.size) σ (σ ++ [.one (.obj p0 cs0)]) (Al Γ.N φ σ) (Al Γ.N (i8 σ.length φ w.heap.size) (σ ++ [.one (.obj p0 cs0)])) :=
  {imm := fun b _ hl => old b hl, all := A1, len := by simp,
   cells := fun i kk es' hi he => by
    rw [b6.get_left hi] at he
    exact ⟨es', he, rfl, plo i hi, fun b base arr ety hp hb => ⟨arr, (old b (Al.own_lt h.st he hp)).trans hb, rfl⟩⟩,
   obj := fun i p' cs' hi he => by
    rw [b6.get_left hi] at he
    exact ⟨plo i hi, p', cs', he⟩ }
 refine ⟨hK, ?_⟩
 exact {
  good := h.good
  st := ⟨fun i b hi => by
    rcases cases2 i b hi with ⟨h1, h2⟩ | ⟨rfl, rfl⟩
    ·rw [plo i h1]
     exact (h.st.blk i b h2).mono hK fun g base hp => old g (Al.own_lt h.st h2 hp)
    ·rw [pnew]
     exact ⟨w.heap.size, obj, us0, rfl, new, hob, fun i x hx => let ⟨u, g1, g2⟩ := hcs i x hx; ⟨u, g1, g2.mono hK⟩⟩,
   fun i j bi bj p q hi hj hp hq he => by
    obtain ⟨pb, po⟩ := p
    obtain ⟨qb, qo⟩ := q
    dsimp only at he
    subst he
    rcases cases2 i bi hi with ⟨h1, h2⟩ | ⟨rfl, rfl⟩ <;> rcases cases2 j bj hj with ⟨g1, g2⟩ | ⟨rfl, rfl⟩
    ·rw [plo i h1] at hp; rw [plo j g1] at hq
     exact h.st.inj i j bi bj _ _ h2 g2 hp hq rfl
    ·rw [plo i h1] at hp; rw [pnew] at hq; cases hq
     have := Al.own_lt h.st h2 hp; omega
    ·rw [plo j g1] at hq; rw [pnew] at hp; cases hp
     have := Al.own_lt h.st g2 hq; omega
    ·rfl⟩
  keep := fun i blk b base hi hp hKb => by
   rcases cases2 i blk hi with ⟨h1, h2⟩ | ⟨rfl, rfl⟩
   ·rw [plo i h1] at hp; exact h.keep i blk b base h2 hp hKb
   ·rw [pnew] at hp; cases hp
    have := hKb.1; have := h.size; omega
  os := h.os
  tape := h.tape
  drawn := h.drawn
  output := h.output
  size := Nat.le_trans h.size (by simp)
  block := fun b hKb => (old b (Nat.lt_of_lt_of_le hKb.1 h.size)).trans (h.block b hKb)
  kept := Kept.trans h.size h.kept hK }
theorem Rs.writeB {Γ : Cx} {σ : b6} {φ : Phi} {w : World} (h : Rs Γ σ φ w) {id : Id} {b : Nat} {q0 q1 : Obj → List Value → Prop} {cs0 cs1 : List C} {us1 : List Value} {o0 o1 : Obj} (hid : σ[id]? = some (some (.obj q0 cs0))) (hp : φ id = some (b, 0)) (hb : w.heap[b]? = some o0) (hq : q1 o1 us1) (hcs : ∀ (i : Nat) (x : C), cs1[i]? = some x → ∃ u, us1[i]? = some u ∧ RelC w φ σ (Al Γ.N φ σ) x u) :
  Kept w ({ w with heap := w.heap.setIfInBounds b o1 } : World) φ φ σ (σ.put id (some (.obj q1 cs1))) (Al Γ.N φ σ) (Al Γ.N φ (σ.put id (some (.obj q1 cs1)))) ∧ Rs Γ (σ.put id (some (.obj q1 cs1))) φ ({ w with heap := w.heap.setIfInBounds b o1 } : World) := by
 have new : ({ w with heap := w.heap.setIfInBounds b o1 } : World).heap[b]? = some o1 := (Go.MapKept.heap_set hb).1
 have old : ∀ g, g ≠ b → ({ w with heap := w.heap.setIfInBounds b o1 } : World).heap[g]? = w.heap[g]? := fun g hg => (Go.MapKept.heap_set hb).2 g hg
 have hsize : ({ w with heap := w.heap.setIfInBounds b o1 } : World).heap.size = w.heap.size := by simp
 have at_ : ∀ (i : Id) x, (σ.put id (some (.obj q1 cs1)))[i]? = some (some x) → (i = id ∧ x = .obj q1 cs1) ∨ (i ≠ id ∧ σ[i]? = some (some x)) := fun i x hi => by
  rcases b6.get_put hid hi with ⟨h1, h2⟩ | h
  ·cases h2; exact .inl ⟨h1, rfl⟩
  ·exact .inr h
 have other : ∀ (i : Id) blk g bs, i ≠ id → σ[i]? = some (some blk) → φ i = some (g, bs) → g ≠ b := fun i blk g bs hne hi hpi e => by
  subst e
  exact hne (h.st.inj i id _ _ _ _ hi hid hpi hp rfl)
 have A1 : ∀ g, Al Γ.N φ σ g → Al Γ.N φ (σ.put id (some (.obj q1 cs1))) g := fun g hg => ⟨hg.1, fun i blk bs hi hpi => by
  rcases at_ i blk hi with ⟨rfl, _⟩ | ⟨_, hi⟩
  ·exact hg.2 i _ bs hid hpi
  ·exact hg.2 i blk bs hi hpi⟩
 have hK : Kept w ({ w with heap := w.heap.setIfInBounds b o1 } : World) φ φ σ (σ.put id (some (.obj q1 cs1))) (Al Γ.N φ σ) (Al Γ.N φ (σ.put id (some (.obj q1 cs1)))) :=
  {imm := fun g hg _ => old g (fun e => by subst e; exact hg.2 id _ 0 hid hp), all := fun g hg _ => A1 g hg, len := by simp,
   cells := fun i kk es2 hi he => by
    rcases at_ i _ he with ⟨rfl, e⟩ | ⟨hne, he⟩
    ·cases e
    ·refine ⟨es2, he, rfl, rfl, fun b2 base2 arr2 ety2 hp2 hb2 => ⟨arr2, ?_, rfl⟩⟩
     exact (old b2 (other i _ b2 base2 hne he hp2)).trans hb2,
   obj := fun i p' cs' hi he => by
    rcases at_ i _ he with ⟨rfl, e⟩ | ⟨_, he⟩
    ·exact ⟨rfl, _, _, hid⟩
    ·exact ⟨rfl, p', cs', he⟩ }
 refine ⟨hK, ?_⟩
 exact {
  good := h.good
  st := ⟨fun i bk hi => by
    rcases at_ i _ hi with ⟨rfl, e⟩ | ⟨hne, hi⟩
    ·cases e
     rw [hp]
     exact ⟨b, o1, us1, rfl, new, hq, fun i x hx => let ⟨u, g1, g2⟩ := hcs i x hx; ⟨u, g1, g2.mono hK⟩⟩
    ·exact (h.st.blk i bk hi).mono hK fun g bs hpi => old g (other i bk g bs hne hi hpi),
   fun i j bi bj p q hi hj hpi hqj he => by
    have alive : ∀ (i : Id) bi, (σ.put id (some (.obj q1 cs1)))[i]? = some (some bi) → ∃ b0, σ[i]? = some (some b0) := fun i bi hi => by
     rcases at_ i _ hi with ⟨rfl, _⟩ | ⟨_, hi⟩
     ·exact ⟨_, hid⟩
     ·exact ⟨_, hi⟩
    obtain ⟨b1, h1⟩ := alive i bi hi
    obtain ⟨b2, h2⟩ := alive j bj hj
    exact h.st.inj i j b1 b2 p q h1 h2 hpi hqj he⟩
  keep := fun i blk g bs hi hpi hKb => by
   rcases at_ i _ hi with ⟨rfl, _⟩ | ⟨_, hi⟩
   ·exact h.keep i _ g bs hid hpi hKb
   ·exact h.keep i blk g bs hi hpi hKb
  os := h.os
  tape := h.tape
  drawn := h.drawn
  output := h.output
  size := by rw [hsize]; exact h.size
  block := fun g hKb => (old g (fun e => by subst e; exact h.keep id _ g 0 hid hp hKb)).trans (h.block g hKb)
  kept := Kept.trans h.size h.kept hK }
/-! ### What the slots hold that rounds read -/
def slotsP : List (Nat × Option Nat) → List Value → Array Value → Prop
 | [], _, _ => True
 | (t, none) :: r, us, a => (∃ u, us.head? = some u ∧ a[t]? = some u) ∧ slotsP r us.tail a
 | (t, some n) :: r, us, a => ((us.take n).length = n ∧ a[t]? = some (.agg (us.take n).toArray)) ∧ slotsP r (us.drop n) a
def slotE : List (Nat × Option Nat) → List C → Env
 | [], _ => []
 | (_, none) :: _, [] => []
 | (t, none) :: r, c :: cs => (t, .c c) :: slotE r cs
 | (t, some n) :: r, cs => match Nat.beq (cs.take n).length n with
  | true => (t, .agg (cs.take n)) :: slotE r (cs.drop n)
  | false => []
def slotC : List (Nat × Option Nat) → Env → Option (List C)
 | [], _ => some []
 | (t, none) :: r, env => match lookup t env, slotC r env with
  | some (.c c), some cs => some (c :: cs)
  | _, _ => none
 | (t, some n) :: r, env => match lookup t env, slotC r env with
  | some (.agg l), some cs => match Nat.beq l.length n with
   | true => some (l ++ cs)
   | false => none
  | _, _ => none
section
variable {w : World} {φ : Phi} {σ : b6} {A : Nat → Prop}
theorem slot_env : ∀ (sh : List (Nat × Option Nat)) {us : List Value} {a : Array Value} {cs : List C}, slotsP sh us a → (∀ (i : Nat) (x : C), cs[i]? = some x → ∃ u, us[i]? = some u ∧ RelC w φ σ A x u) →
  ∀ (t : Nat) (v : T), lookup t (slotE sh cs) = some v → ∃ u, a[t]? = some u ∧ RelT w φ σ A v u
 | [], us, a, cs, _, _, t, v, h => by simp [slotE, lookup] at h
 | (s, none) :: r, us, a, [], _, _, t, v, h => by simp [slotE, lookup] at h
 | (s, none) :: r, us, a, c :: cs, hs, hr, t, v, h => by
  simp only [slotE, lookup] at h
  obtain ⟨⟨u, hu, ha⟩, hs⟩ := hs
  obtain ⟨u0, hu0, hr0⟩ := hr 0 c rfl
  rw [List.head?_eq_getElem?] at hu
  rw [hu] at hu0; cases hu0
  split at h
  ·rename_i e
   cases h
   have := Nat.eq_of_beq_eq_true e
   subst this
   exact ⟨u, ha, .c hr0⟩
  ·exact slot_env r hs (fun i x hx => by
    obtain ⟨u, g1, g2⟩ := hr (i + 1) x hx
    exact ⟨u, by rw [← g1]; cases us <;> simp, g2⟩) t v h
 | (s, some n) :: r, us, a, cs, hs, hr, t, v, h => by
  simp only [slotE] at h
  obtain ⟨⟨hl, ha⟩, hs⟩ := hs
  cases hb : Nat.beq (cs.take n).length n with
  | false => rw [hb] at h; simp [lookup] at h
  | true =>
   rw [hb] at h
   have hlen := Nat.eq_of_beq_eq_true hb
   simp only [lookup] at h
   split at h
   ·rename_i e
    cases h
    have := Nat.eq_of_beq_eq_true e
    subst this
    refine ⟨_, ha, RelT.agg' (by rw [hl, hlen]) fun i c v hc hv => ?_⟩
    rw [List.getElem?_take] at hc hv
    split at hc
    ·rename_i hi
     rw [if_pos hi] at hv
     obtain ⟨u, g1, g2⟩ := hr i c hc
     rw [hv] at g1; cases g1; exact g2
    ·cases hc
   ·exact slot_env r hs (fun i x hx => by
     rw [List.getElem?_drop] at hx
     obtain ⟨u, g1, g2⟩ := hr _ x hx
     exact ⟨u, by rw [List.getElem?_drop]; exact g1, g2⟩) t v h
theorem slot_mk : ∀ (sh : List (Nat × Option Nat)) {env : Env} {a : Array Value} {cs : List C}, (∀ t v, lookup t env = some v → ∃ u, a[t]? = some u ∧ RelT w φ σ A v u) → slotC sh env = some cs →
  ∃ us, slotsP sh us a ∧ us.length = cs.length ∧ ∀ (i : Nat) (x : C), cs[i]? = some x → ∃ u, us[i]? = some u ∧ RelC w φ σ A x u
 | [], env, a, cs, _, h => by cases h; exact ⟨[], trivial, rfl, fun i x hx => by simp at hx⟩
 | (s, none) :: r, env, a, cs, he, h => by
  simp only [slotC] at h
  split at h <;> cases h
  rename_i c cs' h1 h2
  obtain ⟨us, g1, g0, g2⟩ := slot_mk r he h2
  obtain ⟨u, k1, k2⟩ := he s _ h1
  cases k2 with | c k2 =>
  refine ⟨u :: us, ⟨⟨u, rfl, k1⟩, g1⟩, by simp [g0], fun i x hx => ?_⟩
  match i with
  | 0 => cases hx; exact ⟨u, rfl, k2⟩
  | i + 1 => exact g2 i x hx
 | (s, some n) :: r, env, a, cs, he, h => by
  simp only [slotC] at h
  split at h
  ·rename_i l cs' h1 h2
   split at h <;> cases h
   rename_i hb
   have hn := Nat.eq_of_beq_eq_true hb
   obtain ⟨us, g1, g0, g2⟩ := slot_mk r he h2
   obtain ⟨u, k1, k2⟩ := he s _ h1
   obtain ⟨vs, rfl, k3, k4⟩ := RelT.agg_inv k2
   have hvn : vs.length = n := by omega
   refine ⟨vs ++ us, ⟨⟨by rw [List.take_left' hvn]; exact hvn, by rw [List.take_left' hvn]; exact k1⟩, by rw [List.drop_left' hvn]; exact g1⟩, by simp [g0, k3], fun i x hx => ?_⟩
   rw [List.getElem?_append] at hx ⊢
   rw [k3]
   split at hx
   ·rename_i hi; rw [if_pos hi]; exact k4 i x hx
   ·rename_i hi; rw [if_neg hi]; exact g2 _ x hx
  ·cases h
end
def loopP (szc : Nat) (ps : List Nat) (asg body : Code) (st : LoopState) (pend : Option Code) (sh : List (Nat × Option Nat)) : Obj → List Value → Prop := fun o us =>
 ∃ r : Go.Loop, o = .loop r ∧ r.state = st ∧ r.pending = pend ∧ r.params = ps.toArray ∧ r.assign = asg ∧ r.body = body ∧ r.tmps.size = szc ∧ slotsP sh us r.tmps
abbrev k7 (szc : Nat) (ps : List Nat) (asg body : Code) (st : LoopState) (pend : Option Code) (sh : List (Nat × Option Nat)) (cs : List C) : Blk := .obj (loopP szc ps asg body st pend sh) cs
def zipE : List Nat → List T → Env → Env
 | p :: ps, t :: ts, E => zipE ps ts ((p, t) :: E)
 | _, _, E => E
theorem zip_env {w : World} {φ : Phi} {σ : b6} {A : Nat → Prop} {szc : Nat} : ∀ (ps : List Nat) (ts : List T) (us : List Value) (E : Env) (a : Array Value), a.size = szc → ts.length = us.length → (∀ p ∈ ps, p < szc) →
  (∀ (i : Nat) (t : T) (u : Value), ts[i]? = some t → us[i]? = some u → RelT w φ σ A t u) → (∀ t v, lookup t E = some v → ∃ u, a[t]? = some u ∧ RelT w φ σ A v u) →
  ((ps.zip us).foldl (fun tmps (t, a) => tmps.setIfInBounds t a) a).size = szc ∧
  ∀ t v, lookup t (zipE ps ts E) = some v → ∃ u, ((ps.zip us).foldl (fun tmps (t, a) => tmps.setIfInBounds t a) a)[t]? = some u ∧ RelT w φ σ A v u
 | [], ts, us, E, a, hz, _, _, _, he => ⟨by simpa using hz, fun t v h => by simpa using he t v (by cases ts <;> exact h)⟩
 | p :: ps, [], us, E, a, hz, hl, _, _, he => by
  cases us with
  | nil => exact ⟨by simpa using hz, fun t v h => by simpa using he t v h⟩
  | cons u us => simp at hl
 | p :: ps, t :: ts, us, E, a, hz, hl, hp, hr, he => by
  cases us with
  | nil => simp at hl
  | cons u us =>
   simp only [List.zip_cons_cons, List.foldl_cons, zipE]
   refine zip_env ps ts us _ _ (by simpa using hz) (by simpa using hl) (fun q hq => hp q (List.mem_cons_of_mem _ hq)) (fun i t u h1 h2 => hr (i + 1) t u h1 h2) (fun s v h => ?_)
   simp only [lookup] at h
   split at h
   ·rename_i e
    cases h
    have := Nat.eq_of_beq_eq_true e
    subst this
    have hlt : p < a.size := by rw [hz]; exact hp p (by simp)
    exact ⟨u, by simp [hlt], hr 0 _ u rfl rfl⟩
   ·rename_i e
    obtain ⟨y, hy, hr'⟩ := he s v h
    have hne : p ≠ s := fun e' => by subst e'; simp at e
    exact ⟨y, by simp [hne, hy], hr'⟩
theorem b6.put2 (σ : b6) (n : Nat) (b b' : Option Blk) : (σ.put (n, []) b).put (n, []) b' = σ.put (n, []) b' := by
 have : ∀ e : Ent, (e.put [] b).put [] b' = e.put [] b' := fun e => by cases e <;> cases b <;> rfl
 apply List.ext_getElem?
 intro i
 simp only [b6.put, List.getElem?_modify]
 cases hs : σ[i]? with
 | none => simp
 | some e => by_cases hi : n = i <;> simp [hi, this]
theorem Rs.allocU {Γ : Cx} {σ : b6} {φ : Phi} {w : World} (h : Rs Γ σ φ w) (obj : Obj) : Kept w (w.alloc obj) φ φ σ σ (Al Γ.N φ σ) (Al Γ.N φ σ) ∧ Rs Γ σ φ (w.alloc obj) := by
  have old : ∀ b, b < w.heap.size → (w.alloc obj).heap[b]? = w.heap[b]? := fun b hb => by first | exact heap_alloc_old w _ hb | exact heap_alloc_old w _ _ hb
  have hK : Kept w (w.alloc obj) φ φ σ σ (Al Γ.N φ σ) (Al Γ.N φ σ) :=
    { imm := fun b _ hl => old b hl, all := fun b hb _ => hb, len := Nat.le_refl _,
      cells := fun i kk es' hi he => ⟨es', he, rfl, rfl, fun b base arr ety hp hb => ⟨arr, (old b (Al.own_lt h.st he hp)).trans hb, rfl⟩⟩,
      obj := fun i p' cs' hi he => ⟨rfl, p', cs', he⟩ }
  refine ⟨hK, ?_⟩
  exact { good := h.good, st := ⟨fun i b hi => (h.st.blk i b hi).mono hK fun g base hp => old g (Al.own_lt h.st hi hp), h.st.inj⟩,
          keep := h.keep, os := h.os, tape := h.tape, drawn := h.drawn, output := h.output, size := Nat.le_trans h.size (by simp),
          block := fun b hKb => (old b (Nat.lt_of_lt_of_le hKb.1 h.size)).trans (h.block b hKb), kept := Kept.trans h.size h.kept hK }
section
variable {P : Program} {σ0 : b6} {sz : Nat} {Q : Post} {env env' : Env} {σv σ' σb : b6} {ops : Array Oper} {rest : List Oper} {dst : Option Nat} {ty : TypeId} {pos : String} {after : Array Edge}
variable {szc : Nat} {ps : List Nat} {asg body : Code} {sh : List (Nat × Option Nat)} {cs : List C}
theorem yld_inv {w : World} {φ : Phi} {σ : b6} {A : Nat → Prop} {id : Id} {p : Obj → List Value → Prop} {u : Value} (h : RelT w φ σ A (.c (.yld id)) u) (hσ : σ[id]? = some (some (.obj p cs))) : ∃ b base, φ id = some (b, base) ∧ u = .func (.yield b) #[] #[] := by
 cases h with | c h => cases h with | yld hid h1 h => exact h _ _ hσ
def yPost (P : Program) (σ0 : b6) (sz : Nat) (Q : Post) (ops : Array Oper) (rest : List Oper) (env : Env) (dst : Option Nat) (id : Id) (szc : Nat) (ps : List Nat) (asg body : Code) (sh : List (Nat × Option Nat)) : Post := fun e s' =>
 ∃ cs', s'.σ[id]? = some (some (k7 szc ps asg body .busy none sh cs')) ∧ match e with
 | .normal => AOps P σ0 sz ops Q rest ⟨putE env dst (.c (bool true)), s'.σ.put id (some (k7 szc ps asg body .ready none sh cs'))⟩
 | .ret => AOps P σ0 sz ops Q rest ⟨putE env dst (.c (bool false)), s'.σ.put id (some (k7 szc ps asg body .done (some .ret) sh cs'))⟩
 | .exit i => AOps P σ0 sz ops Q rest ⟨putE env dst (.c (bool false)), s'.σ.put id (some (k7 szc ps asg body .done (some (.exit i)) sh cs'))⟩
 | _ => False
theorem AOps.yield {x : Operand} {as' : List Operand} {ats : Array TypeId} {id : Id} {ts : List T} {E1 : Env} {σ1 : b6} (hx : ev env x = some (.c (.yld id))) (ha : evs env as' = some ts) (hσ : σv[id]? = some (some (k7 szc ps asg body .ready none sh cs)))
  (hl : Nat.beq ts.length ps.length = true) (hps : ps.all (fun p => Nat.blt p szc) = true) (hna : B8 asg = false) (hnr : B8 body = false) (hd : e9 sz dst = true) (hσ1 : σ1[id]? = some (some (k7 szc ps asg body .ready none sh cs))) (hσb : σ1.put id (some (k7 szc ps asg body .busy none sh cs)) = σb)
  (hass : AWP P σv szc asg (fun e s' => e = .normal ∧ s' = St.mk E1 σ1) ⟨zipE ps ts (slotE sh cs), σv⟩)
  (h : AWP P σv szc body (yPost P σ0 sz Q ops rest env dst id szc ps asg body sh) ⟨E1, σb⟩) :
  AOps P σ0 sz ops Q (⟨dst, .call ⟨.value x, as'.toArray, ats⟩, ty, pos, after, none⟩ :: rest) (St.mk env σv) := fun Γ φ a w hΓ hR ro => by
 subst hσb
 obtain ⟨b, base, hp, hv⟩ := yld_inv (i7 hR hx) hσ
 obtain ⟨b', o, us, g1, g2, ⟨r, rfl, r1, r2, r3, r4, r5, r6, r7⟩, g3⟩ := hR.st.blk _ _ hσ
 rw [hp] at g1; cases g1
 obtain ⟨k1, k2⟩ := evs_rel hR ha
 have hlen : ts.length = ps.length := Nat.eq_of_beq_eq_true hl
 have hrun : (execOp a.eval ⟨dst, .call ⟨.value x, as'.toArray, ats⟩, ty, pos, after, none⟩).run P w = .ok (.round b r.fn ((ps.zip (as'.map a.eval)).foldl (fun tmps (t, a) => tmps.setIfInBounds t a) r.tmps) asg body) w := by
  have := run_yield (P := P) (args := (as'.map a.eval).toArray) g2 (by rw [r3]; simp; omega)
  rw [r3, r4, r5] at this
  simp only [List.zip_toArray, List.foldl_toArray] at this
  simp [execOp, resolve, hv, Deferred.ofValue, invoke, this]
 refine S5 rfl ⟨fun _ _ => trivial, ?_⟩
 rw [sem_ro hrun (fun d => nofun), Oper.uponIn_round]
 have hz := zip_env (w := w) (φ := φ) (σ := σv) (A := Al Γ.N φ σv) (szc := szc) ps ts (as'.map a.eval) (slotE sh cs) r.tmps r6 (by simp [k1]) (fun p hp => by
   have := List.all_eq_true.1 hps p hp
   simpa using this) k2 (slot_env sh r7 g3)
 have hR1 : R ⟨w, Γ.N, φ, σv⟩ szc ⟨zipE ps ts (slotE sh cs), σv⟩ φ { tmps := (ps.zip (as'.map a.eval)).foldl (fun tmps (t, a) => tmps.setIfInBounds t a) r.tmps, defers := [] } w :=
  {toRs := hR.toRs.down.rs, defers := .nil, asize := hz.1, env := hz.2 }
 have hid : id.1 < σv.length := b6.lt_of hσ
 refine ⟨fun h => by simp at h, roundIn_of_wpIn (F := fw ro) trivial (wpIn_mono (hass _ φ _ _ rfl hR1 (some b) (fun e => by rw [hna] at e; cases e)) ?_)⟩
 rintro e a1 w1 ⟨s1, φ1, ⟨rfl, rfl⟩, hR1⟩
 have hφ1 : φ1 id = some (b, 0) := ((hR1.toRs.kept.obj id _ _ hid hσ1).1).trans hp
 obtain ⟨b', o, us, q1, q2, ⟨r', rfl, r1, r2, r3, r4, r5, r6, r7⟩, q3⟩ := hR1.st.blk _ _ hσ1
 rw [hφ1] at q1; cases q1
 have hW := Rs.writeB (q1 := loopP szc ps asg body .busy none sh) (cs1 := cs) (o1 := .loop { r' with state := .busy }) hR1.toRs hσ1 hφ1 q2 ⟨{ r' with state := .busy }, rfl, rfl, r2, r3, r4, r5, r6, r7⟩ q3
 refine ⟨_, run_beginRound (P := P) q2 r1, ?_⟩
 refine wpIn_mono (h _ φ1 _ _ rfl (hR1.of hW.1 hW.2) (some b) (fun e => by rw [hnr] at e; cases e)) ?_
 rintro e a' w' ⟨s', φ', ⟨cs', hσ', hm⟩, hR'⟩
 have hφ : φ' id = some (b, 0) := ((hR'.toRs.kept.obj id _ _ hid hσ').1).trans hp
 obtain ⟨b', o, us', q1, q2, ⟨r'', rfl, p1, p2, p3, p4, p5, p6, p7⟩, q3⟩ := hR'.st.blk _ _ hσ'
 rw [hφ] at q1; cases q1
 have fin : ∀ (jump : Option Code) (st : LoopState), st = (if jump.isNone then .ready else .done) → AOps P σ0 sz ops Q rest ⟨putE env dst (.c (bool jump.isNone)), s'.σ.put id (some (k7 szc ps asg body st jump sh cs'))⟩ →
   ∃ v w'', (Instr.endRound b jump).run P w' = .ok v w'' ∧ wpListIn (fw ro) 0 P ops (lift Γ sz Q) rest (a.put dst v) w'' := fun jump st hst hA => by
  subst hst
  have hE := Rs.writeB (q1 := loopP szc ps asg body (if jump.isNone then .ready else .done) jump sh) (cs1 := cs') (o1 := .loop { r'' with state := if jump.isNone then .ready else .done, pending := jump }) hR'.toRs hσ' hφ q2 ⟨_, rfl, rfl, rfl, p3, p4, p5, p6, p7⟩ q3
  refine ⟨_, _, run_endRound jump q2, ?_⟩
  exact hA Γ φ' _ _ hΓ ((hR.of hE.2.kept (hR.toRs.up hE.2)).put hd (.bool _)) ro
 cases e with
 | normal => exact fin none .ready rfl hm
 | ret => exact fin (some .ret) .done rfl hm
 | exit i => exact fin (some (.exit i)) .done rfl hm
 | goto t => exact hm.elim
 | panic c => exact hm.elim
 | outgrown => exact hm.elim
theorem W9 {id : Id} {env2 : Env} {σ2 σ3 : b6} (hσ : σ2[id]? = some (some (k7 szc ps asg body .busy none sh cs))) (h3 : σ2.put id (some (k7 szc ps asg body .ready none sh cs)) = σ3)
  (h : AOps P σ0 sz ops Q rest (St.mk (putE env dst (.c (bool true))) σ3)) : yPost P σ0 sz Q ops rest env dst id szc ps asg body sh .normal (St.mk env2 σ2) := ⟨cs, hσ, by subst h3; exact h⟩
theorem yPost_ret {id : Id} {env2 : Env} {σ2 σ3 : b6} (hσ : σ2[id]? = some (some (k7 szc ps asg body .busy none sh cs))) (h3 : σ2.put id (some (k7 szc ps asg body .done (some .ret) sh cs)) = σ3)
  (h : AOps P σ0 sz ops Q rest (St.mk (putE env dst (.c (bool false))) σ3)) : yPost P σ0 sz Q ops rest env dst id szc ps asg body sh .ret (St.mk env2 σ2) := ⟨cs, hσ, by subst h3; exact h⟩
def rPost (P : Program) (σ0 : b6) (sz : Nat) (Q : Post) (env : Env) (n : Nat) (ps : List Nat) (asg body : Code) (sh : List (Nat × Option Nat)) (σ' : b6) : Prop :=
 ∃ st pend cs', st ≠ .busy ∧ σ'[((n, []) : Id)]? = some (some (k7 sz ps asg body st pend sh cs')) ∧ match pend with
 | none => Q .normal ⟨env, σ'.put (n, []) none⟩
 | some c => AWP P σ0 sz c Q ⟨env, σ'.put (n, []) none⟩
theorem ae4 {n : Nat} {σ2 σ3 : b6} (hσ : σ2[((n, []) : Id)]? = some (some (k7 sz ps asg body .ready none sh cs))) (h3 : σ2.put (n, []) none = σ3) (h : Q .normal (St.mk env σ3)) : rPost P σ0 sz Q env n ps asg body sh σ2 :=
 ⟨.ready, none, cs, nofun, hσ, by subst h3; exact h⟩
theorem rPost_jump {n : Nat} {c : Code} {σ2 σ3 : b6} (hσ : σ2[((n, []) : Id)]? = some (some (k7 sz ps asg body .done (some c) sh cs))) (h3 : σ2.put (n, []) none = σ3) (h : AWP P σ0 sz c Q (St.mk env σ3)) : rPost P σ0 sz Q env n ps asg body sh σ2 :=
 ⟨.done, some c, cs, nofun, hσ, by subst h3; exact h⟩
theorem AWP.rangeFunc {g : Operand} {f : FuncId} {caps : List C} {n : Nat} {Qit : T → b6 → Prop} (sh : List (Nat × Option Nat)) (hg : ev env g = some (.c (.fn f caps))) (hs : slotC sh env = some cs) (hn : newF σv = some (n, [])) (hσ : n5 σv (.one (k7 sz ps asg body .ready none sh cs)) = some σ')
  (hf : FnOk P f (.c (.yld (n, [])) :: caps.map T.c) σ' Qit) (hq : ∀ r σ'', Qit r σ'' → rPost P σ0 sz Q env n ps asg body sh σ'') : AWP P σ0 sz (.rangeFunc g ps.toArray asg body) Q (St.mk env σv) := fun Γ φ a w hΓ hR ro hro => by
 have hro := hro rfl
 subst hro
 have h2 := s8 hn; have h3 := l9 hσ
 cases h2
 subst h3
 obtain ⟨fn, f1, f2, f3⟩ := hf.fn
 obtain ⟨cv, g1, g2, g3⟩ := fn_inv (i7 hR hg)
 obtain ⟨us, s1, _, s2⟩ := slot_mk sh hR.env hs
 refine wpIn_rangeFunc fun fid _ => ?_
 have hU := Rs.allocU hR.toRs (.deferred (some []))
 have hA := Rs.allocB (p0 := loopP sz ps asg body .ready none sh) (cs0 := cs) (us0 := us) (obj := .loop { state := .ready, pending := none, fn := fid, tmps := a.tmps, params := ps.toArray, assign := asg, body, defers := w.heap.size }) hU.2
  ⟨_, rfl, rfl, rfl, rfl, rfl, rfl, hR.asize, s1⟩ (fun i x hx => let ⟨u, q1, q2⟩ := s2 i x hx; ⟨u, q1, q2.mono hU.1⟩)
 have hw : (w.alloc (.deferred (some []))).heap.size = w.heap.size + 1 := by simp
 have hK := Kept.trans (by simp) hU.1 hA.1
 generalize hW : (w.alloc (.deferred (some []))).alloc (.loop { state := .ready, pending := none, fn := fid, tmps := a.tmps, params := ps.toArray, assign := asg, body, defers := w.heap.size }) = W at hA hK
 refine ⟨w.heap.size + 1, [{ target := .collected w.heap.size, args := #[] }], W, { target := .fn (.func f) cv.toArray, args := #[.func (.yield (w.heap.size + 1)) #[] #[]] }, W, f, (Value.func (.yield (w.heap.size + 1)) #[] #[] :: cv).toArray, W, ?_, ?_, fun _ _ => trivial, ?_, fun h => by simp at h, ?_⟩
 ·rw [← hW]; exact run_enterLoop_outer fid a.tmps ps.toArray asg body
 ·have e2 : a.eval (.const (.func (.yield (w.heap.size + 1)) #[] #[])) = .func (.yield (w.heap.size + 1)) #[] #[] := rfl
  simp [resolve, rangeCall, g1, e2, Deferred.ofValue]
 ·have f2' : ¬ fn.name = "runtime.NumGoroutine" := by simpa using f2
  have f3' : ¬ fn.body = none := fun e => by rw [e] at f3; cases f3
  simp [invoke, callFunc, f1, f2', f3']
 refine (callsIn_wide (n := 0 - 1)).2 ?_
 refine (hf.run ⟨_, Γ.N, _, _⟩ (Value.func (.yield (w.heap.size + 1)) #[] #[] :: cv) rfl hA.2.down (by simp [g2]) (fun i t u hi hu => ?_)).mono ?_
 ·match i with
  | 0 =>
   cases hi; cases hu
   exact .c (.yld (by simp) rfl fun p cs hp => ⟨_, 0, by simp [i8, hw], rfl⟩)
  | i + 1 =>
   simp only [List.getElem?_cons_succ, List.getElem?_map, Option.map_eq_some_iff] at hi hu
   obtain ⟨c, hc, rfl⟩ := hi
   exact .c ((g3 i c u hc hu).mono hK)
 ·rintro e w' ⟨v, r, σ2, φ', rfl, hQ, hr, hs'⟩
  obtain ⟨st, pend, cs', hb, hσ2, hm⟩ := hq r σ2 hQ
  have hφ : φ' (σv.length, []) = some (w.heap.size + 1, 0) := by
   rw [(hs'.kept.obj (σv.length, []) _ _ (by simp) hσ2).1]; simp [i8, hw]
  obtain ⟨b', o, us', q1, q2, ⟨r', rfl, p1, p2, p3, p4, p5, p6, p7⟩, q3⟩ := hs'.st.blk _ _ hσ2
  rw [hφ] at q1; cases q1
  have hE := Rs.writeB (q1 := fun _ _ => True) (cs1 := []) (us1 := []) (o1 := .loop { r' with state := .exhausted }) hs' hσ2 hφ q2 trivial (fun i x hx => by simp at hx)
  have hX := Rs.kill hE.2 (σv.length, [])
  rw [b6.put2] at hX
  have hDK := hK.trans (by rw [← hW]; simp; omega) (hX.2.kept)
  have hmark : Marks Γ φ' (σ2.put (σv.length, []) none) (w'.putObj (w.heap.size + 1) (.loop { r' with state := .exhausted })) ([{ target := .collected w.heap.size, args := #[] }] ++ a.defers) := by
   have m0 : Marks Γ φ σv (w.alloc (.deferred (some []))) ([{ target := .collected w.heap.size, args := #[] }] ++ a.defers) := by
    have m1 := hR.defers.kept hU.1
    refine ⟨List.nodup_cons.2 ⟨fun hin => ?_, m1.1⟩, fun d hd => ?_⟩
    ·obtain ⟨D, e, q, _⟩ := hR.defers.2 _ hin
     have : D = w.heap.size := by cases e; rfl
     rw [this] at q
     have := (Array.getElem?_eq_some_iff.1 q).1
     omega
    ·rcases List.mem_cons.1 hd with rfl | hd
     ·refine ⟨w.heap.size, rfl, heap_alloc_new w _, hR.size, fun hN => ?_, fun i blk base hi hp => ?_⟩
      ·have := hR.good.lt _ hN
       have := hR.size
       omega
      ·have := Al.own_lt hR.st hi hp
       omega
     ·exact m1.2 d hd
   exact (m0.kept hA.1).kept hX.2.kept
  have hRf : R Γ sz ⟨env, σ2.put (σv.length, []) none⟩ φ' { a with defers := [{ target := .collected w.heap.size, args := #[] }] ++ a.defers } (w'.putObj (w.heap.size + 1) (.loop { r' with state := .exhausted })) :=
   {toRs := hA.2.up hX.2, defers := hmark, asize := hR.asize, env := fun t v ht => let ⟨u, hu, hr⟩ := hR.env t v ht; ⟨u, hu, hr.mono hDK⟩ }
  refine ⟨r'.pending, _, run_endLoop q2 (by rw [p1]; exact hb), ?_⟩
  subst p2
  revert hm
  generalize r'.pending = pend at *
  intro hm
  cases pend with
  | none => exact ⟨_, φ', hm, hRf⟩
  | some c => exact hm Γ φ' _ _ hΓ hRf none (fun _ => rfl)
theorem AWP.rangeB {g : Operand} {f : FuncId} {caps : List C} {n : Nat} (sh : List (Nat × Option Nat)) (hg : ev env g = some (.c (.fn f caps))) (hs : slotC sh env = some cs) (hn : newF σv = some (n, []))
  (h : ∀ A B : Code, A = asg → B = body → ∃ (σ' : b6) (Qit : T → b6 → Prop), n5 σv (.one (k7 sz ps A B .ready none sh cs)) = some σ' ∧ FnOk P f (.c (.yld (n, [])) :: caps.map T.c) σ' Qit ∧ ∀ r σ'', Qit r σ'' → rPost P σ0 sz Q env n ps A B sh σ'') :
  AWP P σ0 sz (.rangeFunc g ps.toArray asg body) Q (St.mk env σv) := by
 obtain ⟨σ', Qit, h1, h2, h3⟩ := h asg body rfl rfl
 exact AWP.rangeFunc sh hg hs hn h1 h2 h3
theorem AOps.yieldB {A B : Code} {x : Operand} {as' : List Operand} {ats : Array TypeId} {id : Id} {ts : List T} {E1 : Env} {σ1 : b6} (hA : A = asg) (hB : B = body) (hx : ev env x = some (.c (.yld id))) (ha : evs env as' = some ts) (hσ : σv[id]? = some (some (k7 szc ps A B .ready none sh cs)))
  (hl : Nat.beq ts.length ps.length = true) (hps : ps.all (fun p => Nat.blt p szc) = true) (hna : B8 asg = false) (hnr : B8 body = false) (hd : e9 sz dst = true) (hσ1 : σ1[id]? = some (some (k7 szc ps A B .ready none sh cs))) (hσb : σ1.put id (some (k7 szc ps A B .busy none sh cs)) = σb)
  (hass : AWP P σv szc asg (fun e s' => e = .normal ∧ s' = St.mk E1 σ1) ⟨zipE ps ts (slotE sh cs), σv⟩)
  (h : AWP P σv szc body (yPost P σ0 sz Q ops rest env dst id szc ps A B sh) ⟨E1, σb⟩) :
  AOps P σ0 sz ops Q (⟨dst, .call ⟨.value x, as'.toArray, ats⟩, ty, pos, after, none⟩ :: rest) (St.mk env σv) := by
 subst hA hB
 exact AOps.yield hx ha hσ hl hps hna hnr hd hσ1 hσb hass h
end
end Ab
end
section
namespace Ab
open Go
def mvr (r n : Nat) (i : Id) : Id := ((match Nat.beq i.1 r with | true => n | false => i.1), i.2)
theorem ac4 {r n : Nat} {i : Id} (h : i.1 = r) : mvr r n i = (n, i.2) := by
 have : Nat.beq i.1 r = true := by rw [h]; exact Nat.beq_refl r
 simp only [mvr, this]
theorem mvr_ne {r n : Nat} {i : Id} (h : i.1 ≠ r) : mvr r n i = i := by
 have : Nat.beq i.1 r = false := F8 h
 simp only [mvr, this]
section
variable {P : Program} {σ0 : b6} {sz : Nat} {Q : Post} {env env' : Env} {σv σ' : b6} {ops : Array Oper} {rest : List Oper} {dst : Option Nat} {ty : TypeId} {pos : String} {after : Array Edge}
inductive EntR (r n : Nat) (σ : b6) (m i : Nat) : Ent → Prop
 | dead : EntR r n σ m i .dead
 | one {b : Blk} (h1 : b.ok m = true) (h2 : σ[mvr r n (i, [])]? = some (some (b.ren (mvr r n)))) : EntR r n σ m i (.one b)
 | vec {α : Type} {k : Nat} {f : α → List I} {l : List α} (h2 : σ[mvr r n (i, [])]? = some (some (vec k f l))) : EntR r n σ m i (.one (vec k f l))
 | mat {α : Type} {k j : Nat} {f : α → List I} {M : List (List α)} (hj : (mvr r n (i, [])).1 = j) (hi : Nat.blt i m = true) (h : σ[j]? = some (mat (j, []) k f M)) : EntR r n σ m i (mat (i, []) k f M)
 | any {e : Ent} (h : ∀ p b, e.sub p = some b → b.ok m = true ∧ σ[mvr r n (i, p)]? = some (some (b.ren (mvr r n)))) : EntR r n σ m i e
def StR_ (r n : Nat) (σ : b6) (m : Nat) : Nat → b6 → Prop
 | _, [] => True
 | i, e :: l => EntR r n σ m i e ∧ StR_ r n σ m (i + 1) l
theorem EntR.get {r n : Nat} {σ : b6} {m i : Nat} {e : Ent} (h : EntR r n σ m i e) {p : List Nat} {b : Blk} (hb : e.sub p = some b) : b.ok m = true ∧ σ[mvr r n (i, p)]? = some (some (b.ren (mvr r n))) := by
 cases h with
 | dead => cases p <;> cases hb
 | one h1 h2 => cases p with
  | nil => cases hb; exact ⟨h1, h2⟩
  | cons => cases hb
 | vec h2 => cases p with
  | nil => cases hb; exact ⟨J0, by rw [Blk.im_ren]; exact h2⟩
  | cons => cases hb
 | @mat α k j f M hj hi h =>
  have hi' : i < m := by simpa using hi
  have e : ∀ q, mvr r n (i, q) = (j, q) := fun q => by rw [← hj]; rfl
  rw [e, m4 h]
  cases p with
  | nil =>
   cases hb
   refine ⟨T4 hi' _, ?_⟩
   rw [mat_main]
   congr 2
   simp only [Blk.ren]
   congr 1
   apply List.ext_getElem?
   intro q
   rw [List.getElem?_map]
   simp only [hdr, List.getElem?_mapIdx, Option.map_map]
   cases M[q]? with
   | none => rfl
   | some row => simp [C.renL, C.ren, e]
  | cons a q =>
   rw [y6] at hb ⊢
   split at hb
   ·rename_i row hrow
    cases q with
    | cons b q => cases hb
    | nil => cases hb; exact ⟨J0, by rw [Blk.im_ren]⟩
   ·cases hb
 | any h => exact h p b hb
theorem StR_.get {r n m : Nat} {σ : b6} : ∀ {i : Nat} {σ' : b6}, StR_ r n σ m i σ' → ∀ (j : Nat) (p : List Nat) (b : Blk), σ'[((j, p) : Id)]? = some (some b) → b.ok m = true ∧ σ[mvr r n (i + j, p)]? = some (some (b.ren (mvr r n)))
 | _, [], _, j, p, b, h => by simp at h
 | i, e :: l, h, 0, p, b, hb => by
  rw [b6.at_eq] at hb
  simp only [b6.at, List.getElem?_cons_zero, Option.some.injEq] at hb
  exact h.1.get hb
 | i, e :: l, h, j + 1, p, b, hb => by
  have := StR_.get (i := i + 1) h.2 j p b (by
   rw [b6.at_eq] at hb ⊢
   simpa [b6.at] using hb)
  rwa [show i + 1 + j = i + (j + 1) by omega] at this
def EnvR (r n : Nat) (env : Env) : Env → Prop
 | [] => True
 | (t, v) :: l => lookup t env = some (v.ren (mvr r n)) ∧ EnvR r n env l
theorem EnvR.get {r n : Nat} : ∀ {env' : Env}, EnvR r n env env' → ∀ t v, lookup t env' = some v → lookup t env = some (v.ren (mvr r n))
 | [], _, t, v, h => by simp [lookup] at h
 | (k, x) :: l, ⟨h1, h2⟩, t, v, h => by
  simp only [lookup] at h
  split at h
  ·rename_i he; cases h; rw [← Nat.eq_of_beq_eq_true he]; exact h1
  ·exact EnvR.get h2 t v h
def deadR (σ : b6) (n : Nat) : Bool := match σ[n]? with
 | some .dead => true
 | some _ => false
 | none => true
theorem Sub.moveM (r n : Nat) (h0 : Nat.ble σ0.length r = true) (hl : Nat.ble σ0.length σ'.length = true) (hn : deadR σ' n = true) (henv : EnvR r n env env') (he : envOk σ'.length env' = true) (hst : StR_ r n σv σ'.length 0 σ') : Sub σ0 ⟨env, σv⟩ ⟨env', σ'⟩ := by
 have h0' := Nat.le_of_ble_eq_true h0
 have hd : ∀ (p : List Nat) b, σ'[((n, p) : Id)]? ≠ some (some b) := fun p b hb => by
  rw [b6.at_eq] at hb
  simp only [b6.at] at hb
  simp only [deadR] at hn
  split at hb
  ·rename_i e hx
   rw [hx] at hn
   cases e with
   | dead => cases p <;> cases hb
   | one => cases hn
   | node => cases hn
  ·cases hb
 refine Sub.mk (mvr r n) (fun i hi => mvr_ne (fun e => by omega)) (Nat.le_of_ble_eq_true hl) (fun i j b b' hi hj h => ?_) (fun i b hi => ?_) (fun t v ht => ⟨U2 he t v ht, henv.get t v ht⟩)
 ·by_cases h1 : i.1 = r <;> by_cases h2 : j.1 = r
  ·rw [ac4 h1, ac4 h2] at h
   exact Prod.ext (h1.trans h2.symm) (Prod.mk.inj h).2
  ·rw [ac4 h1, mvr_ne h2] at h
   subst h; exact absurd hj (hd _ _)
  ·rw [ac4 h2, mvr_ne h1] at h
   subst h; exact absurd hi (hd _ _)
  ·rwa [mvr_ne h1, mvr_ne h2] at h
 ·have := hst.get i.1 i.2 b hi
  rwa [Nat.zero_add] at this
theorem AWP.moveM {c : Code} (r n : Nat) (h0 : Nat.ble σ0.length r = true) (hl : Nat.ble σ0.length σ'.length = true) (hn : deadR σ' n = true) (henv : EnvR r n env env') (he : envOk σ'.length env' = true) (hst : StR_ r n σv σ'.length 0 σ') (h : AWP P σ0 sz c Q (St.mk env' σ')) : AWP P σ0 sz c Q (St.mk env σv) :=
 AWP.sub (Sub.moveM r n h0 hl hn henv he hst) h
/-! ### A row of nothing appended to rows -/
theorem Sub.virtJ (k : Nat) {b : Id} {j : Nat} {es : List (List C)} (hb : σv[b]? = some (some (.cells 1 es))) (hj : es[j]? = some [.imm (.val (.slice none 0 0))]) :
  Sub σ0 ⟨env, σv⟩ ⟨env, b6.put (σv ++ [.one (.cells k [])]) b (some (.cells 1 (es.set j [.own (σv.length, []) 0 0])))⟩ := fun Γ sz φ a w hΓ hR => by
 have hbl := b6.lt_of hb
 have hV := hR.toRs.virt k
 have hb' : (σv ++ [.one (.cells k [])])[b]? = some (some (.cells 1 es)) := by rw [b6.get_left hbl]; exact hb
 generalize hφ : (fun i => if i = ((σv.length, []) : Id) then none else φ i) = φ' at hV
 have φn : φ' (σv.length, []) = none := by rw [← hφ]; simp
 rcases hV.2.st.blk _ _ hb' with ⟨_, g⟩ | ⟨b0, base, arr, ety, q1, q2, q3, q4, q5⟩
 ·subst g; simp at hj
 ·have hW := Rs.write (k := 1) (es' := es.set j [.own (σv.length, []) 0 0]) (arr' := arr) hV.2 hb' q1 q2 (by simp) rfl (fun i e he => by
   rw [List.getElem?_set] at he
   split at he
   ·split at he
    ·cases he; rfl
    ·cases he
   ·exact q4 i e he) q3 (fun i e o x he hx => by
   rw [List.getElem?_set] at he
   split at he
   ·rename_i e; subst e
    split at he
    ·cases he
     match o, hx with
     | 0, hx =>
      cases hx
      obtain ⟨u, hu, hr⟩ := q5 j _ 0 _ hj rfl
      refine ⟨u, hu, ?_⟩
      cases hr with | imm hr => cases hr with | val h =>
       exact .own (by simp) rfl fun k' es' _ => .inl ⟨φn, rfl, rfl, rfl⟩
     | o + 1, hx => simp at hx
    ·cases he
   ·exact q5 i e o x he hx)
  rw [Go.setRow_self w b0 arr ety (0, 0) q2] at hW
  exact ⟨φ', (hR.of hV.1 hV.2).of hW.1 hW.2⟩
theorem set_dead {σ : b6} {r : Nat} (i : Id) (x : Blk) (h : (σ.set r .dead)[i]? = some (some x)) : i.1 ≠ r ∧ σ[i]? = some (some x) := by
 obtain ⟨i1, q⟩ := i
 rw [b6.at_eq] at h ⊢
 simp only [b6.at, List.getElem?_set] at h ⊢
 by_cases e : r = i1
 ·subst e
  rw [if_pos rfl] at h
  split at h
  ·rename_i e hx
   split at hx
   ·cases hx; cases q <;> cases h
   ·cases hx
  ·cases h
 ·rw [if_neg e] at h
  exact ⟨fun e' => e e'.symm, h⟩
theorem S.appendM {α : Type} {k r s : Nat} {f : α → List I} {M M' : List (List α)} {x y : Operand} {t e : TypeId} {bytes m n : Nat} {z : Value} {σ1 : b6} [ht : TyD P t (.slice e)] [hts : TyS P e 1 bytes z]
  (ha : app bytes M [[]] = some M') (hzk : (z.cells.size == 1) = true) (hbp : Nat.blt 0 bytes = true) (hx : ev env x = some (.c (.own (r, []) 0 m))) (hm : m = M.length) (hσ : σv[r]? = some (mat (r, []) k f M))
  (hy : ev env y = some (.c (.own (s, []) 0 1))) (hs : σv[((s, []) : Id)]? = some (some (.cells 1 [[.imm (.val (.slice none 0 0))]]))) (hn : newF σv = some (n, [])) (h1 : setF σv r .dead = some σ1) (hσ' : n5 σ1 (mat (n, []) k f M') = some σ') (hd : e9 sz dst = true) (h0 : Nat.ble σ0.length n = true)
  (h : AOps P σ0 sz ops Q rest (St.mk (putE env dst (.c (.own (n, []) 0 M'.length))) σ')) :
  AOps P σ0 sz ops Q (⟨dst, .call ⟨.builtin .append, #[x, y], #[t, t]⟩, ty, pos, after, none⟩ :: rest) (St.mk env σv) := by
 have h2 := (H3 h1).1; have h3 := s8 hn; have h4 := l9 hσ'
 cases h3
 subst h2 h4 hm
 obtain ⟨hb, rfl⟩ := app_get ha
 have hrl := (List.getElem?_eq_some_iff.1 hσ).1
 have h0' := Nat.le_of_ble_eq_true h0
 intro Γ0 φ0 a0 w0 hΓ0 hR0
 have hsrc : Src σv 1 (.c (.own (s, []) 0 1)) [[.imm (.val (.slice none 0 0))]] := .own (j := 0) (n := 1) hs
 refine AOps.append hzk hbp hx (X0 hσ) hy hsrc (by simpa using hb) hd ?_ Γ0 φ0 a0 w0 hΓ0 hR0
 have e1 : ((hdr (r, []) M).drop 0).take M.length = hdr (r, []) M := by rw [List.drop_zero, List.take_of_length_le (by simp)]
 rw [e1]
 -- the last head becomes a row of its own
 have hlast : (σv.put (r, []) none ++ [.one (.cells 1 (hdr (r, []) M ++ [[.imm (.val (.slice none 0 0))]]))])[((σv.length, []) : Id)]? = some (some (.cells 1 (hdr (r, []) M ++ [[.imm (.val (.slice none 0 0))]]))) := by
  rw [b6.get_right (by simp)]; simp [b6.at_eq, b6.at, Ent.sub]
 refine AOps.sub (Sub.virtJ k hlast (j := M.length) (by rw [List.getElem?_append_right (by simp)]; simp)) ?_
 have e2 : (hdr (r, []) M ++ [[C.imm (.val (.slice none 0 0))]]).set M.length [.own (σv.length + 1, []) 0 0] = hdr (r, []) M ++ [[.own (σv.length + 1, []) 0 0]] := by
  rw [List.set_append_right _ _ (by simp)]; simp
 have e3 : (σv.put (r, []) none ++ [Ent.one (.cells 1 (hdr (r, []) M ++ [[C.imm (.val (.slice none 0 0))]]))]).length = σv.length + 1 := by simp
 rw [e3, e2]
 generalize hX : b6.put ((σv.put (r, []) none ++ [Ent.one (.cells 1 (hdr (r, []) M ++ [[C.imm (.val (.slice none 0 0))]]))]) ++ [.one (.cells k [])]) (σv.length, []) (some (.cells 1 (hdr (r, []) M ++ [[.own (σv.length + 1, []) 0 0]]))) = σX
 have xn : σX[((σv.length, []) : Id)]? = some (some (.cells 1 (hdr (r, []) M ++ [[.own (σv.length + 1, []) 0 0]]))) := by
  rw [← hX]; exact b6.get_put_eq (by rw [b6.get_left (by simp)]; exact hlast)
 have xv : σX[((σv.length + 1, []) : Id)]? = some (some (.cells k [])) := by
  rw [← hX, b6.get_put_ne (by simp), b6.get_right (by simp)]; simp [b6.at_eq, b6.at, Ent.sub]
 have xo : ∀ i : Id, i.1 < σv.length → i ≠ (r, []) → σX[i]? = σv[i]? := fun i hi hne => by
  rw [← hX, b6.get_put_ne (fun e => by rw [e] at hi; simp at hi), b6.get_left (by simp; omega), b6.get_left (by simpa using hi), b6.get_put_ne hne]
 -- what the new names stand for
 generalize hπ : (fun i : Id => if i.1 = σv.length then (if i.2 = [] then (σv.length, []) else if i.2 = [M.length] then (σv.length + 1, []) else (r, i.2)) else i) = π
 have π0 : ∀ i : Id, i.1 ≠ σv.length → π i = i := fun i hi => by rw [← hπ]; simp [hi]
 have πn : π (σv.length, []) = (σv.length, []) := by rw [← hπ]; simp
 have πv : π (σv.length, [M.length]) = (σv.length + 1, []) := by rw [← hπ]; simp
 have πr : ∀ q, q < M.length → π (σv.length, [q]) = (r, [q]) := fun q hq => by rw [← hπ]; simp; omega
 have hMlen : (M ++ [[]] : List (List α)).length = M.length + 1 := by simp
 -- the blocks of the store that is wanted
 have cases3 : ∀ (i : Id) b, (σv.set r .dead ++ [mat (σv.length, []) k f (M ++ [[]])])[i]? = some (some b) →
   (i.1 < σv.length ∧ i.1 ≠ r ∧ σv[i]? = some (some b)) ∨ (i = (σv.length, []) ∧ b = .cells 1 (hdr (σv.length, []) (M ++ [[]]))) ∨ (∃ q row, i = (σv.length, [q]) ∧ (M ++ [[]])[q]? = some row ∧ b = vec k f row) := fun i b hi => by
  rcases Nat.lt_or_ge i.1 σv.length with hl | hl
  ·rw [b6.get_left (by simpa using hl)] at hi
   obtain ⟨g1, g2⟩ := set_dead i b hi
   exact .inl ⟨hl, g1, g2⟩
  ·rw [b6.get_right (by simpa using hl)] at hi
   obtain ⟨i1, q⟩ := i
   simp only [List.length_set] at hi hl
   have hz : i1 = σv.length := by
    have := b6.lt_of hi
    simp at this; simp at hl; omega
   subst hz
   rw [Nat.sub_self, m4 (e := mat (σv.length, []) k f (M ++ [[]])) rfl] at hi
   cases q with
   | nil => cases hi; exact .inr (.inl ⟨rfl, rfl⟩)
   | cons p q =>
    rw [y6] at hi
    split at hi
    ·rename_i row hrow
     cases q with
     | nil => cases hi; exact .inr (.inr ⟨p, row, rfl, hrow, rfl⟩)
     | cons => cases hi
    ·cases hi
 refine AOps.sub (s' := ⟨putE env dst (.c (.own (σv.length, []) 0 (M ++ [[]]).length)), σv.set r .dead ++ [mat (σv.length, []) k f (M ++ [[]])]⟩) ?_ h
 have hlen' : (σv.set r .dead ++ [mat (σv.length, []) k f (M ++ [[]])]).length = σv.length + 1 := by simp
 refine Sub.mk π (fun i hi => π0 i (by omega)) (by rw [hlen']; omega) (fun i j b b' hi hj he => ?_) (fun i b hi => ?_) (fun t v ht => ?_)
 ·rcases cases3 i b hi with ⟨g1, g2, _⟩ | ⟨rfl, _⟩ | ⟨q, row, rfl, g1, _⟩ <;> rcases cases3 j b' hj with ⟨k1, k2, _⟩ | ⟨rfl, _⟩ | ⟨q', row', rfl, k1, _⟩
  ·rwa [π0 i (by omega), π0 j (by omega)] at he
  ·rw [π0 i (by omega), πn] at he; subst he; simp at g1
  ·rw [π0 i (by omega)] at he
   have hq : q' < M.length + 1 := by rw [← hMlen]; exact (List.getElem?_eq_some_iff.1 k1).1
   by_cases e : q' = M.length
   ·subst e; rw [πv] at he; subst he; exact absurd g1 (by simp)
   ·rw [πr q' (by omega)] at he; subst he; exact absurd rfl g2
  ·rw [π0 j (by omega), πn] at he; subst he; simp at k1
  ·rfl
  ·have hq : q' < M.length + 1 := by rw [← hMlen]; exact (List.getElem?_eq_some_iff.1 k1).1
   by_cases e : q' = M.length
   ·subst e; rw [πn, πv] at he; simp at he
   ·rw [πn, πr q' (by omega)] at he; simp at he
  ·rw [π0 j (by omega)] at he
   have hq : q < M.length + 1 := by rw [← hMlen]; exact (List.getElem?_eq_some_iff.1 g1).1
   by_cases e : q = M.length
   ·subst e; rw [πv] at he; subst he; exact absurd k1 (by simp)
   ·rw [πr q (by omega)] at he; subst he; exact absurd rfl k2
  ·have hq : q < M.length + 1 := by rw [← hMlen]; exact (List.getElem?_eq_some_iff.1 g1).1
   by_cases e : q = M.length
   ·subst e; rw [πn, πv] at he; simp at he
   ·rw [πn, πr q (by omega)] at he; simp at he
  ·have hq : q < M.length + 1 := by rw [← hMlen]; exact (List.getElem?_eq_some_iff.1 g1).1
   have hq' : q' < M.length + 1 := by rw [← hMlen]; exact (List.getElem?_eq_some_iff.1 k1).1
   by_cases e : q = M.length <;> by_cases e' : q' = M.length
   ·rw [e, e']
   ·rw [e, πv, πr q' (by omega)] at he; simp at he
   ·rw [e', πv, πr q (by omega)] at he; simp at he
   ·rw [πr q (by omega), πr q' (by omega)] at he
    simp at he; rw [he]
 ·dsimp only
  rw [hlen']
  rcases cases3 i b hi with ⟨g1, g2, g3⟩ | ⟨rfl, rfl⟩ | ⟨q, row, rfl, g1, rfl⟩
  ·have hok := hR0.st.okB g3
   have hren : b.ren π = b := Blk.ren_ok (m := σv.length) (fun i hi => π0 i (by omega)) b hok
   refine ⟨Blk.ok_mono (Nat.le_succ _) b hok, ?_⟩
   rw [π0 i (by omega), hren, xo i g1 (fun e => g2 (by rw [e]))]
   exact g3
  ·refine ⟨T4 (by omega) _, ?_⟩
   rw [πn, xn]
   congr 2
   simp only [Blk.ren]
   congr 1
   apply List.ext_getElem?
   intro q
   rw [List.getElem?_map]
   simp only [hdr, List.getElem?_mapIdx, Option.map_map, List.getElem?_append, List.length_mapIdx]
   by_cases hq : q < M.length
   ·rw [if_pos hq, if_pos hq]
    cases hM : M[q]? with
    | none => rfl
    | some row => simp [C.renL, C.ren, πr q hq]
   ·rw [if_neg hq, if_neg hq]
    by_cases hq2 : q = M.length
    ·subst hq2; simp [C.renL, C.ren, πv]
    ·have : q - M.length ≠ 0 := by omega
     cases hz : q - M.length with
     | zero => omega
     | succ x => simp
  ·have hq : q < M.length + 1 := by rw [← hMlen]; exact (List.getElem?_eq_some_iff.1 g1).1
   refine ⟨J0, ?_⟩
   rw [Blk.im_ren]
   by_cases e : q = M.length
   ·subst e
    rw [πv, xv]
    rw [List.getElem?_append_right (Nat.le_refl _), Nat.sub_self] at g1
    cases g1; rfl
   ·rw [πr q (by omega), xo (r, [q]) hrl (by simp)]
    rw [List.getElem?_append_left (by omega)] at g1
    rw [m4 hσ, y6, g1]
 ·dsimp only at ht ⊢
  rw [hlen']
  have old : ∀ v, lookup t env = some v → v.ok (σv.length + 1) = true ∧ lookup t env = some (v.ren π) := fun v hv => by
   obtain ⟨u, _, hr⟩ := hR0.env t v hv
   have hok := hr.ok
   exact ⟨T.ok_mono (Nat.le_succ _) v hok, by rw [T.ren_ok (m := σv.length) (fun i hi => π0 i (by omega)) v hok]; exact hv⟩
  cases hdst : dst with
  | none => rw [hdst] at ht; exact old v ht
  | some d =>
   rw [hdst] at ht
   simp only [putE, lookup] at ht ⊢
   split at ht
   ·cases ht
    refine ⟨by simp [T.ok, C.ok], ?_⟩
    simp [T.ren, C.ren, πn]
   ·exact old v ht
end
end Ab
end
section
namespace Ab
open Go
section
variable {P : Program} {σ0 : b6} {sz : Nat} {Q : Post} {env env' : Env} {σv σ' : b6}
theorem Sub.virtBM {α : Type} (k : Nat) (f : α → List I) {b : Id} {n kb o : Nat} {cs cs' : List C} {σ1 σ3 σ4 : b6} (hb : σv[b]? = some (some (.cells kb [cs]))) (hc : cs[o]? = some (.imm (.val (.slice none 0 0)))) (hn : newF σv = some (n, [])) (h1 : n5 σv (mat (n, []) k f []) = some σ1)
  (hs : setF cs o (.own (n, []) 0 ([] : List (List α)).length) = some cs') (hσ' : putF σ1 b (some (.cells kb [cs'])) = some σ') (h3 : n5 σv (.one (vec 1 (fun _ : α => ([] : List I)) ([] : List α))) = some σ3) (h4 : putF σ3 b (some (.cells kb [cs'])) = some σ4) : Sub σ0 ⟨env, σv⟩ ⟨env, σ'⟩ := by
 have g1 := s8 hn; have g2 := l9 h1; have g4 := x8 hσ'
 cases g1
 subst g2 g4
 have e3 := l9 h3; have e4 := x8 h4
 subst e3 e4
 have hbl := b6.lt_of hb
 have hb3 : (σv ++ [.one (vec 1 (fun _ : α => ([] : List I)) ([] : List α))])[b]? = some (some (.cells kb [cs])) := by rw [b6.get_left hbl]; exact hb
 refine (Sub.virtB (α := α) 1 (fun _ => []) hb hc hn h3 hs h4).trans (Sub.same (by simp) fun i => ?_)
 have hbm : (σv ++ [mat (σv.length, []) k f ([] : List (List α))])[b]? = some (some (.cells kb [cs])) := by rw [b6.get_left hbl]; exact hb
 by_cases hi : i = b
 ·subst hi
  rw [b6.get_put_eq hb3, b6.get_put_eq hbm]
 ·rw [b6.get_put_ne hi, b6.get_put_ne hi]
  rcases Nat.lt_or_ge i.1 σv.length with hl | hl
  ·rw [b6.get_left hl, b6.get_left hl]
  ·rw [b6.get_right hl, b6.get_right hl]
   obtain ⟨i1, q⟩ := i
   rw [b6.at_eq, b6.at_eq]
   simp only [b6.at]
   cases i1 - σv.length with
   | zero => cases q <;> rfl
   | succ m => rfl
theorem AWP.virtBM {α : Type} {c : Code} (k : Nat) (f : α → List I) {b : Id} {n kb o : Nat} {cs cs' : List C} {σ1 σ3 σ4 : b6} (hb : σv[b]? = some (some (.cells kb [cs]))) (hc : cs[o]? = some (.imm (.val (.slice none 0 0)))) (hn : newF σv = some (n, [])) (h1 : n5 σv (mat (n, []) k f []) = some σ1)
  (hs : setF cs o (.own (n, []) 0 ([] : List (List α)).length) = some cs') (hσ' : putF σ1 b (some (.cells kb [cs'])) = some σ') (h3 : n5 σv (.one (vec 1 (fun _ : α => ([] : List I)) ([] : List α))) = some σ3) (h4 : putF σ3 b (some (.cells kb [cs'])) = some σ4) (h : AWP P σ0 sz c Q ⟨env, σ'⟩) : AWP P σ0 sz c Q ⟨env, σv⟩ := AWP.sub (Sub.virtBM k f hb hc hn h1 hs hσ' h3 h4) h
end
end Ab
end
section
namespace Ab
open Go
section
variable {P : Program} {σ0 : b6} {sz : Nat} {Q : Post} {env env' : Env} {σv σ' : b6} {ops : Array Oper} {rest : List Oper} {dst : Option Nat} {ty : TypeId} {pos : String} {after : Array Edge}
/-! ### Calls through an interface -/
class MethF (P : Program) (t : TypeId) (name : String) (f : outParam FuncId) (b : outParam Bool) : Prop where
 h : ((P.info? t).bind fun i => (i.methods.find? (·.name == name)).map fun m => (m.path.toList, m.func)) = some ([], some (f, b))
theorem MethF.get {t : TypeId} {name : String} {f : FuncId} {b : Bool} [h : MethF P t name f b] : ∃ i m, P.info? t = some i ∧ i.methods.find? (·.name == name) = some m ∧ m.path = #[] ∧ m.func = some (f, b) := by
 obtain ⟨i, h1, h2⟩ := Option.bind_eq_some_iff.1 h.h
 obtain ⟨m, h3, h4⟩ := Option.map_eq_some_iff.1 h2
 simp only [Prod.mk.injEq] at h4
 exact ⟨i, m, h1, h3, by simpa using h4.1, h4.2⟩
/-! ### Maps: how many keys -/
/-! ### Maps whose values are nothing (sets) -/
end
/-! ### A struct without fields -/
/-! ### Contracts with two kinds of ends -/
end Ab
end
section
namespace Ab
open Go
section
variable {α : Type}
/-! ### Rows and maps of pointers among other blocks -/
section
variable {K : Type} {fk : K → Value} {r : Nat} {m : List (K × Int)}
end
end
section
variable {P : Program} {σ0 : b6} {sz : Nat} {Q : Post} {env env' : Env} {σv σ' : b6} {ops : Array Oper} {rest : List Oper} {dst : Option Nat} {ty : TypeId} {pos : String} {after : Array Edge}
/-! ### Rows of pointers -/
/-! ### Entries -/
/-! ### Maps of pointers -/
section
variable {K : Type} [DecidableEq K] {V : Type} {fk : K → Value} {d : TypeDesc}
end
/-! ### A view becomes a row of its own -/
/-! ### Places told by their bounds alone -/
end
end Ab
end
section
namespace Ab
open Go
section
variable {K α : Type} [DecidableEq K]
variable {fk : K → Value} {f : α → List I} {m : List (K × List α)} {r k : Nat}
end
section
variable {P : Program} {σ0 : b6} {sz : Nat} {Q : Post} {env env' : Env} {σv σ' : b6} {ops : Array Oper} {rest : List Oper} {dst : Option Nat} {ty : TypeId} {pos : String} {after : Array Edge}
variable {K α : Type} [DecidableEq K] {fk : K → Value} {d : TypeDesc} {f : α → List I} {m : List (K × List α)} {r k : Nat}
end
end Ab
end
section
namespace Ab
open Go Go.Proofs Go.Sort Go.Lib
theorem rev_fn {P : Program} {f : FuncId} (hf : H9 P f)
  (hC : ∀ (blk off cap : Nat) (zs : List Int) (w : World), Holds (Value.int .i64) w blk off zs.toArray → zs.length ≤ 9223372036854775807 → Calls P f #[.slice (some ⟨blk, off, none⟩) zs.length cap] w fun e w' => e = .returned (.tuple #[]) ∧ ∃ n, w' = putRow (Value.int .i64) (Go.Sort.ahead w n) blk off zs.reverse.toArray)
  (hC0 : ∀ (p : Option Addr) (cap : Nat) (w : World), Calls P f #[.slice p 0 cap] w fun e w' => e = .returned (.tuple #[]) ∧ w' = w)
  {σ : b6} {id : Id} {l : List Int} (hσ : σ[id]? = some (some (vec 1 intI l))) :
  FnOk P f [.c (.own id 0 l.length)] σ fun r σ' => r = .tup [] ∧ σ'.length = σ.length ∧ ∀ i : Id, σ'[i]? = (σ.put id (some (vec 1 intI l.reverse)))[i]? := by
 refine ⟨hf, fun Γ vs hΓ hG hlen hrel => ?_⟩
 subst hΓ
 match vs, hlen with
 | [u], _ =>
 have hu := z8 (hrel 0 _ u rfl rfl) hσ
 have tupR : ∀ {w φ σ A}, RelT w φ σ A (.tup []) (.tuple #[]) := fun {w φ σ A} => RelT.tup (ts := []) (fun _ => undef) fun i t h => by simp at h
 rw [B7] at hu
 have empty : ∀ (p : Option Addr) (cap : Nat), l = [] → Calls P f #[.slice p 0 cap] Γ.w0 fun e w' => ∃ v r σ' φ', e = .returned v ∧ (r = .tup [] ∧ σ'.length = Γ.σ0.length ∧ ∀ i : Id, σ'[i]? = (Γ.σ0.put id (some (vec 1 intI l.reverse)))[i]?) ∧ RelT w' φ' σ' (Al Γ.N φ' σ') r v ∧ Rs Γ σ' φ' w' := fun p cap he => by
  refine (hC0 p cap Γ.w0).mono ?_
  rintro e w' ⟨rfl, rfl⟩
  refine ⟨_, .tup [], Γ.σ0, Γ.φ0, rfl, ⟨rfl, rfl, fun i => ?_⟩, tupR, Rs.refl hG⟩
  have : l.reverse = l := by rw [he]; rfl
  rw [this]
  by_cases hi : i = id
  ·rw [hi, b6.get_put_eq hσ, hσ]
  ·rw [b6.get_put_ne hi]
 rcases hu with ⟨_, hv, _, h0⟩ | ⟨b, base, cap, arr, ety, a, hp, hv, ha, hcap, hmax, hjn, hbk, hsz⟩
 ·have he : l = [] := List.eq_nil_of_length_eq_zero (by omega)
  rw [hv]
  exact empty none 0 he
 ·rw [hv]
  by_cases hc0 : 0 < cap
  ·have := ha hc0
   subst this
   simp only [Nat.zero_mul, Nat.add_zero]
   have hR := Rs.refl hG
   rcases hR.st.blk _ _ hσ with ⟨h1, _⟩ | ⟨b', base', arr2, ety2, h1, h2, h3, h4, h5⟩
   ·rw [hp] at h1; cases h1
   ·rw [hp] at h1; cases h1
    rw [hbk] at h2; cases h2
    rw [B7] at h3
    have hcell : ∀ (j : Nat) (x : Int), l[j]? = some x → arr[base + j]? = some (.int .i64 x) := fun j x hj => int_cells h5 hj
    have hls : l.reverse.length = l.length := by simp
    refine (hC b base cap l Γ.w0 (holds_of hbk hcell) (by simp only [maxLen] at hmax; omega)).mono ?_
    rintro e w' ⟨rfl, n, rfl⟩
    have hW := Rs.write (k := 1) (es' := (l.reverse.map intI).map (·.map C.imm)) (arr' := putCells (Value.int .i64) base l.reverse.toArray arr) hR hσ hp hbk (by rw [B7, B7, hls]) O9 (fun j e he => vec_hk he) (by rw [B7]; omega)
     (vec_hc fun j x hj => X5 (by omega) hj)
    rw [putRow_ahead, U6 hbk]
    refine ⟨_, .tup [], _, Γ.φ0, rfl, ⟨rfl, ?_, fun i => rfl⟩, tupR, hW.2.ahead n⟩
    rw [b6.length_put]
  ·have he : l = [] := List.eq_nil_of_length_eq_zero (by omega)
   have hl0 : l.length = 0 := by rw [he]; rfl
   rw [hl0]
   exact empty (some a) cap he
def RevOk (P : Program) (f : FuncId) : Prop := ∀ {σ : b6} {id : Id} {l : List Int}, σ[id]? = some (some (vec 1 intI l)) →
  FnOk P f [.c (.own id 0 l.length)] σ fun r σ' => r = .tup [] ∧ σ'.length = σ.length ∧ ∀ i : Id, σ'[i]? = (σ.put id (some (vec 1 intI l.reverse)))[i]?
section
variable {P : Program} {σ0 : b6} {sz : Nat} {Q : Post} {env : Env} {σv σ' : b6} {ops : Array Oper} {rest : List Oper} {dst : Option Nat} {ty : TypeId} {pos : String} {after : Array Edge}
theorem S.rev {x : Operand} {al : List Operand} {ats : Array TypeId} {f : FuncId} {id : Id} {n : Nat} {l : List Int} (hf : RevOk P f) (hx : ev env x = some (.c (.fn f []))) (ha : evs env al = some [.c (.own id 0 n)]) (hn : n = l.length) (hσ : σv[id]? = some (some (vec 1 intI l)))
  (hd : e9 sz dst = true) (hσ' : putF σv id (some (vec 1 intI l.reverse)) = some σ') (h : AOps P σ0 sz ops Q rest (St.mk (putE env dst (.tup [])) σ')) :
  AOps P σ0 sz ops Q (⟨dst, .call ⟨.value x, al.toArray, ats⟩, ty, pos, after, none⟩ :: rest) (St.mk env σv) := by
 have h2 := x8 hσ'
 subst h2 hn
 refine AOps.callS hx ha hd (hf hσ) ?_
 rintro r σ2 ⟨rfl, hl, he⟩
 refine AOps.sub (s' := ⟨putE env dst (.tup []), σv.put id (some (vec 1 intI l.reverse))⟩) ?_ h
 have := Sub.same (σ0 := σ0) (env := putE env dst (.tup [])) (σ1 := σ2) (σ2 := σv.put id (some (vec 1 intI l.reverse))) (by rw [b6.length_put, hl]) he
 cases dst <;> exact this
end
end Ab
end
section
namespace Ab
open Go Go.Proofs
set_option linter.all false
abbrev e7 (l : List Int) : List I := [.sl 1 (l.map intI)]
structure g7 where
  pre : List Int
  add : List Int
  del : List Int
  cost : Int
abbrev d8 (v : g7) : List I := [.sl 1 (List.map intI v.pre), .sl 1 (List.map intI v.add), .sl 1 (List.map intI v.del), .val (.int .i64 v.cost)]
structure d5 where
  facts : Int
  init : List Int
  goal : List Int
  operators : List g7
abbrev eTTask (v : d5) : List I := [.val (.int .i64 v.facts), .sl 1 (List.map intI v.init), .sl 1 (List.map intI v.goal), .sl 4 (List.map d8 v.operators)]
structure j6 where
  code : Int
  index : Int
structure V4 where
  fx : Int
  fy : Int
  signed : Bool
  code : Int
structure Truntime_boundsError where
  fx : Int
  fy : Int
  signed : Bool
  code : Int
structure V3 where
  facts : Int
  init : List Int
  goal : List Int
  operators : List g7
structure TCode_int_Index_int where
  code : Int
  index : Int
structure d3 where
  fs : List Int
  fat : Int
  ffrom : Int
  op : Int
  change : Int
abbrev d7 (v : d3) : List I := [.sl 1 (List.map intI v.fs), .val (.int .i64 v.fat), .val (.int .i64 v.ffrom), .val (.int .i64 v.op), .val (.int .i64 v.change)]
structure ac2 where
  fs : List Int
  fat : Int
  ffrom : Int
  op : Int
  change : Int
structure af6 where
  pre : List Int
  add : List Int
  del : List Int
  cost : Int
structure Tspace_arc where
  ffrom : Int
  cost : Int
structure Tspace_Step_uint32 where
  op : Int
  cost : Int
  to : Int
structure TOp_int_Cost_int_To_uint32 where
  op : Int
  cost : Int
  to : Int
structure Tfrom_uint32_cost_int where
  ffrom : Int
  cost : Int
structure ad9 where
  pre : Int
  add : Int
  del : Int
  cost : Int
structure ac0 where
  start : Int
  goal : Int
  ops : List ad9
structure Tspace_Words where
  start : Int
  goal : Int
  ops : List ad9
structure Tnode_int_from_int_step_int where
  node : List (List Int)
  ffrom : Int
  step : Int
structure f4 where
  node : List (List Int)
  ffrom : Int
  step : Int
abbrev f5 (v : f4) : List I := [.sl 1 (List.map e7 v.node), .val (.int .i64 v.ffrom), .val (.int .i64 v.step)]
structure ab3 where
  pre : Int
  add : Int
  del : Int
  cost : Int
structure ae6 where
  item : Int
  key : Int
  time : Int
  fat : Int
structure Topenlist_entry_uint32 where
  item : Int
  key : Int
  time : Int
  fat : Int
def K4 (l : List Int) (nv : Int) : Int → Unit → Option (Unit ⊕ Bool) := fun t3 _ => Option.bind (ix l t3) fun a12 => Option.bind (if a12 < 0 then some true else if nv ≤ a12 then some true else if 0 < t3 then Option.bind (ix l (t3 - 1)) fun a29 => some (decide (a12 ≤ a29)) else some false) fun t4 => if t4 = true then some (.inr false) else some (.inl ())
def x7 (l : List Int) (nv : Int) : Option Bool := (Option.bind (rngX 0 (l.length : Int) (K4 l nv) ()) fun | .inl _ => some true | .inr x => some x)
def y7 (xv : Int) : Option Bool := some (!(decide (xv = xv)))
def K7 (xv : Int) (yv : Int) : Option Bool := Option.bind (Option.bind (y7 xv) fun a6 => if a6 = true then Option.bind (y7 yv) fun a9 => if (!a9) = true then some true else some (decide (xv < yv)) else some (decide (xv < yv))) fun t3 => some t3
def D2 (xv : Int) : Option Bool := some (!(decide (xv = xv)))
def r8 (xv : List Int) (target : Int) : (Int × Int) → Option ((Int × Int) ⊕ Int) := fun (iv3, j4) => if iv3 < j4 then Option.bind (ix xv (w64 (shrW .u64 ((IntKind.u64).wrap (w64 (iv3 + j4))) 1))) fun a24 => Option.bind (K7 a24 target) fun a27 => if a27 = true then some (.inl (w64 ((w64 (shrW .u64 ((IntKind.u64).wrap (w64 (iv3 + j4))) 1)) + 1), j4)) else some (.inl (iv3, w64 (shrW .u64 ((IntKind.u64).wrap (w64 (iv3 + j4))) 1))) else some (.inr iv3)
noncomputable def l8 (xv : List Int) (target : Int) : Option (Int × Bool) := Option.bind (Loop (r8 xv target) (0, (xv.length : Int))) fun iv5 => Option.bind (if iv5 < (xv.length : Int) then Option.bind (ix xv iv5) fun a38 => if a38 = target then some true else Option.bind (ix xv iv5) fun a45 => Option.bind (D2 a45) fun a47 => if a47 = true then Option.bind (D2 target) fun a50 => some a50 else some false else some false) fun t8 => some (iv5, t8)
noncomputable def N8 (xv : Int) (c2 : List Int) : Option Bool := Option.bind (l8 c2 xv) fun a9 => some a9.2
def u7 (sv : List Int) (fv : Int → Option Bool) : Int → Unit → Option (Unit ⊕ Int) := fun t3 _ => Option.bind (ix sv t3) fun a14 => Option.bind (fv a14) fun a16 => if a16 = true then some (.inr t3) else some (.inl ())
def x6 (sv : List Int) (fv : Int → Option Bool) : Option Int := (Option.bind (rngX 0 (sv.length : Int) (u7 sv fv) ()) fun | .inl _ => some (-1) | .inr x => some x)
def o5 (sv : List Int) (fv : Int → Option Bool) : Option Bool := Option.bind (x6 sv fv) fun a7 => some (decide (0 ≤ a7))
noncomputable def M0 (av : List Int) (bv : List Int) : Option Bool := Option.bind (o5 av (fun y1 => N8 y1 bv)) fun a7 => some a7
noncomputable def F7 (ov : g7) (facts : Int) : Option Int := Option.bind (Option.bind (x7 ov.pre facts) fun a9 => if (!a9) = true then some true else Option.bind (x7 ov.add facts) fun a15 => if (!a15) = true then some true else Option.bind (x7 ov.del facts) fun a22 => if (!a22) = true then some true else Option.bind (M0 ov.add ov.del) fun a30 => some a30) fun t3 => if t3 = true then some 5 else if ((decide (ov.cost < 0)) || (decide (100 < ov.cost))) = true then some 3 else some 0
noncomputable def B4 (t : d5) : Int → Unit → Option (Unit ⊕ j6) := fun t6 _ => Option.bind (ix t.operators t6) fun a44 => Option.bind (F7 a44 t.facts) fun a49 => if a49 = 0 then some (.inl ()) else some (.inr (⟨a49, t6⟩ : j6))
noncomputable def E9 (t : d5) : Option j6 := if ((decide (t.facts < 0)) || (decide (24 < t.facts))) = true then some (⟨3, -1⟩ : j6) else Option.bind (x7 t.init t.facts) fun a21 => if (!a21) = true then some (⟨5, -2⟩ : j6) else Option.bind (x7 t.goal t.facts) fun a29 => if (!a29) = true then some (⟨5, -3⟩ : j6) else if 40 < (t.operators.length : Int) then some (⟨2, -1⟩ : j6) else (Option.bind (rngX 0 (t.operators.length : Int) (B4 t) ()) fun | .inl _ => some (⟨0, 0⟩ : j6) | .inr x => some x)
def S0 (operators : Int) (plan : List Int) : Int → Unit → Option (Unit ⊕ j6) := fun t4 _ => Option.bind (ix plan t4) fun a15 => if ((decide (a15 < 0)) || (decide (operators ≤ a15))) = true then some (.inr (⟨3, -6⟩ : j6)) else some (.inl ())
def L9 (operators : Int) (plan : List Int) : Option j6 := if 60 < (plan.length : Int) then some (⟨2, -5⟩ : j6) else (Option.bind (rngX 0 (plan.length : Int) (S0 operators plan) ()) fun | .inl _ => some (⟨0, 0⟩ : j6) | .inr x => some x)
noncomputable def D0 (t : d5) (plan : List Int) : Option j6 := Option.bind (E9 t) fun a7 => if (!((decide (a7.code = 0)) && (decide (a7.index = 0)))) = true then some a7 else Option.bind (L9 (t.operators.length : Int) plan) fun a16 => some a16
def B0 (sv : List Int) (a12 : Int) : Int → Option (Int ⊕ Int) := fun iv5 => Option.bind (if iv5 < (sv.length : Int) then Option.bind (ix sv iv5) fun a21 => some (decide (a21 < a12)) else some false) fun t7 => if t7 = true then some (.inl (w64 (iv5 + 1))) else some (.inr iv5)
noncomputable def F0 (sv : List Int) (part : List Int) : Int → Int → Option (Int ⊕ Bool) := fun t4 iv3 => Option.bind (ix part t4) fun a12 => Option.bind (Loop (B0 sv a12) iv3) fun iv6 => Option.bind (if iv6 = (sv.length : Int) then some true else Option.bind (ix sv iv6) fun a35 => some (!(decide (a35 = a12)))) fun t11 => if t11 = true then some (.inr false) else some (.inl iv6)
noncomputable def v7 (sv : List Int) (part : List Int) : Option Bool := (Option.bind (rngX 0 (part.length : Int) (F0 sv part) 0) fun | .inl iv3 => some true | .inr x => some x)
noncomputable def P2 (sv : List Int) (c2 : List Int) : Option Bool := Option.bind (v7 sv c2) fun a6 => some (!a6)
def w7 (sv : List (List Int)) (fv : (List Int) → Option Bool) : Int → Unit → Option (Unit ⊕ Int) := fun t3 _ => Option.bind (ix sv t3) fun a14 => Option.bind (fv a14) fun a16 => if a16 = true then some (.inr t3) else some (.inl ())
def A8 (sv : List (List Int)) (fv : (List Int) → Option Bool) : Option Int := (Option.bind (rngX 0 (sv.length : Int) (w7 sv fv) ()) fun | .inl _ => some (-1) | .inr x => some x)
def q9 (sv : List (List Int)) (fv : (List Int) → Option Bool) : Option Bool := Option.bind (A8 sv fv) fun a7 => some (decide (0 ≤ a7))
noncomputable def O3 (worlds : List (List Int)) (facts : List Int) : Option Bool := Option.bind (q9 worlds (fun y1 => P2 y1 facts)) fun a7 => some (!a7)
noncomputable def Q3 (sv : List Int) (del : List Int) : Int → (List Int) → Option (List Int) := fun t5 c4 => Option.bind (Option.bind (ix sv t5) fun a16 => Option.bind (l8 del a16) fun a21 => if (!a21.2) = true then Option.bind (app 8 c4 [a16]) fun a29 => some a29 else some c4) fun c6 => some c6
noncomputable def D7 (sv : List Int) (add : List Int) (del : List Int) : Option (List Int) := (Option.bind (forR 0 (sv.length : Int) (Q3 sv del) []) fun c4 => Option.bind (app 8 c4 add) fun a33 => Option.bind (sortL a33) fun a35 => some (P6 a35))
noncomputable def G5 (t : d5) (sv : List Int) (op : Int) : Option (List Int) := Option.bind (ix t.operators op) fun a11 => Option.bind (D7 sv a11.add a11.del) fun a18 => some a18
def E8 (xv : Int) (yv : Int) : Option Int := Option.bind (y7 xv) fun a8 => Option.bind (y7 yv) fun a10 => if a8 = true then if a10 = true then some 0 else some (-1) else if a10 = true then some 1 else if xv < yv then some (-1) else if yv < xv then some 1 else some 0
def w8 (s11 : List Int) (s22 : List Int) : Int → Unit → Option (Unit ⊕ Int) := fun t3 _ => Option.bind (ix s11 t3) fun a14 => if (s22.length : Int) ≤ t3 then some (.inr 1) else Option.bind (ix s22 t3) fun a22 => Option.bind (E8 a14 a22) fun a26 => if a26 = 0 then some (.inl ()) else some (.inr a26)
def q7 (s11 : List Int) (s22 : List Int) : Option Int := (Option.bind (rngX 0 (s11.length : Int) (w8 s11 s22) ()) fun | .inl _ => if (s11.length : Int) < (s22.length : Int) then some (-1) else some 0 | .inr x => some x)
def D5 (s11 : List Int) (s22 : List Int) : Int → Unit → Option (Unit ⊕ Bool) := fun t4 _ => Option.bind (ix s11 t4) fun a18 => Option.bind (ix s22 t4) fun a22 => if a18 = a22 then some (.inl ()) else some (.inr false)
def u3 (s11 : List Int) (s22 : List Int) : Option Bool := if (s11.length : Int) = (s22.length : Int) then (Option.bind (rngX 0 (s11.length : Int) (D5 s11 s22) ()) fun | .inl _ => some true | .inr x => some x) else some false
abbrev p9 (l : List (List Int)) : b6 := [.one (vec 1 e7 l)]
def m8 (l : List (List Int)) (kv54 : Int) : Int → ((List (List Int)) × Int) → Option ((List (List Int)) × Int) := fun k258 (c56, kv57) => Option.bind (Option.bind (ixV c56 (0 + kv54) ((l.length : Int) - kv54) k258) fun a41 => Option.bind (ixV c56 (0 + kv54) ((l.length : Int) - kv54) (k258 - 1)) fun a46 => Option.bind (u3 a41 a46) fun a48 => if (!a48) = true then Option.bind (ixV c56 (0 + kv54) ((l.length : Int) - kv54) k258) fun a54 => Option.bind (ix c56 kv57) fun a56 => some (c56.set kv57.toNat a54, w64 (kv57 + 1)) else some (c56, kv57)) fun ⟨c59, kv60⟩ => some (c59, kv60)
def l7 (l : List (List Int)) : Int → Unit → Option (Unit ⊕ (List (List Int))) := fun kv54 _ => Option.bind (ix l kv54) fun a21 => Option.bind (ix l (kv54 - 1)) fun a26 => Option.bind (u3 a21 a26) fun a28 => if a28 = true then Option.bind (cutV (l.length : Int) kv54 (l.length : Int)) fun u31 => (Option.bind (forR 1 ((l.length : Int) - kv54) (m8 l kv54) (l, kv54)) fun ⟨c56, kv57⟩ => Option.bind (cutV (c56.length : Int) kv57 (c56.length : Int)) fun u61 => Option.bind (cutV ((clrL c56 (0 + kv57) ((c56.length : Int) - kv57) []).length : Int) 0 kv57) fun u64 => some (.inr (r9 (clrL c56 (0 + kv57) ((c56.length : Int) - kv57) []) 0 kv57))) else some (.inl ())
def n8 (l : List (List Int)) : Option (List (List Int)) := if (l.length : Int) < 2 then some l else (Option.bind (rngX 1 (l.length : Int) (l7 l) ()) fun | .inl _ => some l | .inr x => some x)
abbrev ae3 (l : List (List Int)) : b6 := [.one (vec 1 e7 l)]
noncomputable def G4 (l : List (List Int)) : Option (List (List Int)) := Option.bind (sortFL q7 l) fun a4 => Option.bind (n8 a4) fun a6 => some a6
noncomputable def G0 (t : d5) (worlds : List (List Int)) (op : Int) : Int → (List (List Int)) → Option (List (List Int)) := fun t5 c4 => Option.bind (ix worlds t5) fun a14 => Option.bind (G5 t a14 op) fun a20 => Option.bind (app 24 c4 [a20]) fun a22 => some a22
noncomputable def H5 (t : d5) (worlds : List (List Int)) (op : Int) : Option (List (List Int)) := (Option.bind (forR 0 (worlds.length : Int) (G0 t worlds op) []) fun c4 => Option.bind (G4 c4) fun a25 => some a25)
abbrev aa3 (t : d5) (worlds : List (List Int)) : b6 := []
def D3 (t : d5) (worlds : List (List Int)) : Option Unit := some ()
def E2 (v : List (List Int)) : Option Bool := some false
def internal_strconv_small (iv : Int) : Option ByteArray := if iv < 10 then Option.bind (subS (⟨#[48, 49, 50, 51, 52, 53, 54, 55, 56, 57, 97, 98, 99, 100, 101, 102, 103, 104, 105, 106, 107, 108, 109, 110, 111, 112, 113, 114, 115, 116, 117, 118, 119, 120, 121, 122]⟩ : ByteArray) iv (w64 (iv + 1))) fun a8 => some a8 else Option.bind (subS (⟨#[48, 48, 48, 49, 48, 50, 48, 51, 48, 52, 48, 53, 48, 54, 48, 55, 48, 56, 48, 57, 49, 48, 49, 49, 49, 50, 49, 51, 49, 52, 49, 53, 49, 54, 49, 55, 49, 56, 49, 57, 50, 48, 50, 49, 50, 50, 50, 51, 50, 52, 50, 53, 50, 54, 50, 55, 50, 56, 50, 57, 51, 48, 51, 49, 51, 50, 51, 51, 51, 52, 51, 53, 51, 54, 51, 55, 51, 56, 51, 57, 52, 48, 52, 49, 52, 50, 52, 51, 52, 52, 52, 53, 52, 54, 52, 55, 52, 56, 52, 57, 53, 48, 53, 49, 53, 50, 53, 51, 53, 52, 53, 53, 53, 54, 53, 55, 53, 56, 53, 57, 54, 48, 54, 49, 54, 50, 54, 51, 54, 52, 54, 53, 54, 54, 54, 55, 54, 56, 54, 57, 55, 48, 55, 49, 55, 50, 55, 51, 55, 52, 55, 53, 55, 54, 55, 55, 55, 56, 55, 57, 56, 48, 56, 49, 56, 50, 56, 51, 56, 52, 56, 53, 56, 54, 56, 55, 56, 56, 56, 57, 57, 48, 57, 49, 57, 50, 57, 51, 57, 52, 57, 53, 57, 54, 57, 55, 57, 56, 57, 57]⟩ : ByteArray) (w64 (iv * 2)) (w64 ((w64 (iv * 2)) + 2))) fun a14 => some a14
abbrev O5 (iv : Int) (base : Int) (l : List Int) : b6 := [.one (vec 1 eU8 l)]
def q8 (iv : Int) (base : Int) (l : List Int) : Option (List Int) := if base = 10 then if iv < 100 then Option.bind (internal_strconv_small (w64 iv)) fun a16 => Option.bind (app 1 l (strL a16)) fun a17 => some a17 else none else none
abbrev P4 (iv : Int) (base : Int) (l : List Int) : b6 := [.one (vec 1 eU8 l)]
def s6 (iv : Int) (base : Int) (l : List Int) : Option (List Int) := Option.bind (if iv < 0 then none else some ()) fun _ => Option.bind (q8 ((IntKind.u64).wrap iv) base l) fun a20 => some a20
abbrev Y0 (iv : Int) (base : Int) (l : List Int) : b6 := [.one (vec 1 eU8 l)]
def s9 (iv : Int) (base : Int) (l : List Int) : Option (List Int) := Option.bind (s6 iv base l) fun a10 => some a10
def V2 (a12 : List Int) : Int → (List Int) → Option (List Int) := fun t5 c4 => Option.bind (ix a12 t5) fun a18 => Option.bind (s9 a18 10 c4) fun a22 => Option.bind (app 1 a22 [44]) fun a24 => some a24
def U9 (l : List (List Int)) : Int → (List Int) → Option (List Int) := fun t3 c2 => Option.bind (ix l t3) fun a12 => (Option.bind (forR 0 (a12.length : Int) (V2 a12) c2) fun c4 => Option.bind (app 1 c4 [59]) fun a28 => some a28)
def A6 (l : List (List Int)) : Option ByteArray := (Option.bind (forR 0 (l.length : Int) (U9 l) []) fun c2 => some (strB c2))
noncomputable def N1 (t : d5) (sv : List Int) (op : Int) : Option Bool := Option.bind (ix t.operators op) fun a11 => Option.bind (v7 sv a11.pre) fun a14 => some a14
abbrev af7 (t : d5) : b6 := []
def O8 (t : d5) : Option Unit := some ()
abbrev ae9 (worlds : List (List Int)) (Facts : Int) (Init : List Int) (Goal : List Int) (Operators : List g7) : b6 := [.one (.cells 4 [[int Facts, row 1 intI Init, row 1 intI Goal, row 4 d8 Operators]])]
def K1 (worlds : List (List Int)) (Facts : Int) (Init : List Int) (Goal : List Int) (Operators : List g7) : Option Unit := Option.bind (D3 (⟨Facts, Init, Goal, Operators⟩ : d5) worlds) fun a6 => some ()
abbrev y9 (start : List (List Int)) (Facts : Int) (Init : List Int) (Goal : List Int) (Operators : List g7) : b6 := [.one (.cells 4 [[int Facts, row 1 intI Init, row 1 intI Goal, row 4 d8 Operators]])]
def O0 (c59 : List f4) : ((List Int) × Int) → Option (((List Int) × Int) ⊕ (List Int)) := fun (c64, iv65) => Option.bind (ix c59 iv65) fun a43 => if 0 ≤ a43.ffrom then Option.bind (ix c59 iv65) fun a55 => Option.bind (app 8 c64 [a55.step]) fun a59 => Option.bind (ix c59 iv65) fun a49 => some (.inl (a59, a49.ffrom)) else some (.inr c64)
noncomputable def z1 (Facts : Int) (Init : List Int) (Goal : List Int) (Operators : List g7) (c61 : Int) (a66 : f4) : Int → ((List (ByteArray × Int)) × (List f4)) → Option (((List (ByteArray × Int)) × (List f4)) ⊕ (((List (ByteArray × Int)) × (List f4)) ⊕ ((List (ByteArray × Int)) × (List f4)))) := fun t75 (c73, c74) => Option.bind (ix Operators t75) fun ai12 => Option.bind (O3 a66.node ai12.pre) fun ai17 => if ai17 = true then Option.bind (H5 (⟨Facts, Init, Goal, Operators⟩ : d5) a66.node t75) fun ai24 => Option.bind (A6 ai24) fun ab74 => if 0 < Option.getD (mget c73 ab74) 0 then some (.inl (c73, c74)) else if (c74.length : Int) = 2000 then some (.inr (.inr (c73, c74))) else Option.bind (app 40 c74 [(⟨ai24, c61, t75⟩ : f4)]) fun ab90 => some (.inl (mset c73 ab74 1, ab90)) else some (.inl (c73, c74))
noncomputable def u4 (Facts : Int) (Init : List Int) (Goal : List Int) (Operators : List g7) (c59 : List f4) (c60 : List (ByteArray × Int)) (c61 : Int) (a66 : f4) : Option (((List (ByteArray × Int)) × (List f4)) ⊕ ((List (ByteArray × Int)) × (List f4))) := (Option.bind (rngX 0 (Operators.length : Int) (z1 Facts Init Goal Operators c61 a66) (c60, c59)) fun | .inl (c73, c74) => some (.inl (c73, c74)) | .inr x => some x)
noncomputable def z2 (Facts : Int) (Init : List Int) (Goal : List Int) (Operators : List g7) : ((List f4) × (List (ByteArray × Int)) × Int) → Option (((List f4) × (List (ByteArray × Int)) × Int) ⊕ (Unit ⊕ ((List Int) × Bool × Bool))) := fun (c59, c60, c61) => if c61 < (c59.length : Int) then Option.bind (ix c59 c61) fun a36 => Option.bind (E2 a36.node) fun a39 => if a39 = true then Option.bind (Loop (O0 c59) ([], c61)) fun c66 => some (.inr (.inr (c66.reverse, true, true))) else Option.bind (ix c59 c61) fun a66 => Option.bind (K1 a66.node Facts Init Goal Operators) fun a69 => Option.bind (u4 Facts Init Goal Operators c59 c60 c61 a66) fun | .inl (c69, c70) => some (.inl (c70, c69, w64 (c61 + 1))) | .inr (c71, c72) => some (.inr (.inr ([], false, false))) else some (.inr (.inl ()))
noncomputable def C3 (start : List (List Int)) (Facts : Int) (Init : List Int) (Goal : List Int) (Operators : List g7) : Option ((List Int) × Bool × Bool) := Option.bind (A6 start) fun a25 => Option.bind (Loop (z2 Facts Init Goal Operators) ([(⟨start, -1, 0⟩ : f4)], mset ([] : List (ByteArray × Int)) a25 1, 0)) fun | .inl _ => some ([], false, true) | .inr x => some x
abbrev ab9 (l : List (List Int)) (Facts : Int) (Init : List Int) (Goal : List Int) (Operators : List g7) : b6 := [.one (vec 1 e7 l), .one (.cells 4 [[int Facts, row 1 intI Init, row 1 intI Goal, row 4 d8 Operators]])]
noncomputable def B1 (l : List (List Int)) (Facts : Int) (Init : List Int) (Goal : List Int) (Operators : List g7) : Option Bool := Option.bind (C3 l Facts Init Goal Operators) fun a14 => some a14.2.2
abbrev K2 (nv : d3) (t : d5) (plan : List Int) (l : List d3) (l5 : List (List Int)) (l6 : List (ByteArray × Int)) : b6 := [.one (.cells 8 [[int t.facts, row 1 intI t.init, row 1 intI t.goal, row 4 d8 t.operators, row 1 intI plan, .own 1 0 l.length, .own 2 0 l5.length, .map 3]]), .one (vec 5 d7 l), mat (2, []) 1 intI l5, .one (mapB Value.string (Value.int .i64) l6)]
def s4 (nv : d3) : (List (List Int)) → Option ((List (List Int)) ⊕ (List (List Int))) := fun c61 => if (c61.length : Int) ≤ nv.change then Option.bind (app 24 c61 [[]]) fun a61 => some (.inl a61) else some (.inr c61)
noncomputable def k6 (nv : d3) (t : d5) (plan : List Int) (l : List d3) (l5 : List (List Int)) (l6 : List (ByteArray × Int)) : Option ((List (ByteArray × Int)) × (List d3) × (List (List Int))) := Option.bind (A6 ([nv.fs, [nv.fat]])) fun a13 => if ((Option.isSome (mget l6 a13)) && (decide (Option.getD (mget l6 a13) 0 ≤ nv.change))) = true then some (l6, l, l5) else Option.bind (app 56 l [nv]) fun a44 => Option.bind (Loop (s4 nv) l5) fun c62 => Option.bind (ix c62 nv.change) fun a76 => Option.bind (app 8 a76 [w64 ((a44.length : Int) - 1)]) fun a85 => Option.bind (ix c62 nv.change) fun a86 => some (mset l6 a13 nv.change, a44, c62.set nv.change.toNat a85)
abbrev I5 (iv : Int) (t : d5) (plan : List Int) (l : List d3) (l5 : List (List Int)) (l6 : List (ByteArray × Int)) : b6 := [.one (.cells 8 [[int t.facts, row 1 intI t.init, row 1 intI t.goal, row 4 d8 t.operators, row 1 intI plan, .own 1 0 l.length, .own 2 0 l5.length, .map 3]]), .one (vec 5 d7 l), mat (2, []) 1 intI l5, .one (mapB Value.string (Value.int .i64) l6)]
def m9 (l : List d3) : ((List Int) × Int) → Option (((List Int) × Int) ⊕ (List Int)) := fun (c58, iv59) => if 0 ≤ iv59 then Option.bind (Option.bind (ix l iv59) fun a22 => if 0 ≤ a22.op then Option.bind (app 8 c58 [a22.op]) fun a30 => some a30 else some c58) fun c62 => Option.bind (ix l iv59) fun a14 => some (.inl (c62, a14.ffrom)) else some (.inr c58)
noncomputable def u6 (iv : Int) (t : d5) (plan : List Int) (l : List d3) (l5 : List (List Int)) (l6 : List (ByteArray × Int)) : Option (List Int) := Option.bind (Loop (m9 l) ([], iv)) fun c60 => some c60.reverse
abbrev aa8 (t : d5) (sv : List Int) : b6 := []
def z6 (t : d5) (sv : List Int) : Option Unit := some ()
abbrev U4 (iv : Int) (t : d5) (plan : List Int) (l : List d3) (l5 : List (List Int)) (l6 : List (ByteArray × Int)) : b6 := [.one (.cells 8 [[int t.facts, row 1 intI t.init, row 1 intI t.goal, row 4 d8 t.operators, row 1 intI plan, .own 1 0 l.length, .own 2 0 l5.length, .map 3]]), .one (vec 5 d7 l), mat (2, []) 1 intI l5, .one (mapB Value.string (Value.int .i64) l6)]
noncomputable def u9 (iv : Int) (t : d5) (plan : List Int) (a13 : d3) : Int → ((List (ByteArray × Int)) × (List d3) × (List (List Int))) → Option ((List (ByteArray × Int)) × (List d3) × (List (List Int))) := fun t77 (c74, c75, c76) => Option.bind (N1 t a13.fs t77) fun ai14 => if ai14 = true then Option.bind (G5 t a13.fs t77) fun ai21 => Option.bind (k6 (⟨ai21, a13.fat, iv, t77, w64 (a13.change + 1)⟩ : d3) t plan c75 c76 c74) fun ab88 => some (ab88.1, ab88.2.1, ab88.2.2) else some (c74, c75, c76)
noncomputable def o7 (iv : Int) (t : d5) (plan : List Int) (a13 : d3) (c60 : List (ByteArray × Int)) (c61 : List d3) (c62 : List (List Int)) : Option ((List (ByteArray × Int)) × (List d3) × (List (List Int))) := (Option.bind (forR 0 (t.operators.length : Int) (u9 iv t plan a13) (c60, c61, c62)) fun ⟨c74, c75, c76⟩ => some (c74, c75, c76))
noncomputable def s7 (iv : Int) (t : d5) (plan : List Int) (l : List d3) (l5 : List (List Int)) (l6 : List (ByteArray × Int)) : Option ((List (ByteArray × Int)) × (List d3) × (List (List Int))) := Option.bind (ix l iv) fun a13 => Option.bind (if a13.fat < (plan.length : Int) then Option.bind (ix plan a13.fat) fun a29 => Option.bind (Option.bind (N1 t a13.fs a29) fun a38 => if a38 = true then Option.bind (G5 t a13.fs a29) fun a47 => Option.bind (k6 (⟨a47, w64 (a13.fat + 1), iv, a29, a13.change⟩ : d3) t plan l l5 l6) fun a56 => some (a56.1, a56.2.1, a56.2.2) else some (l6, l, l5)) fun ⟨c65, c66, c67⟩ => Option.bind (k6 (⟨a13.fs, w64 (a13.fat + 1), iv, -1, w64 (a13.change + 1)⟩ : d3) t plan c66 c67 c65) fun a68 => some (a68.1, a68.2.1, a68.2.2) else some (l6, l, l5)) fun ⟨c60, c61, c62⟩ => Option.bind (z6 t a13.fs) fun a75 => Option.bind (o7 iv t plan a13 c60 c61 c62) fun ⟨c71, c72, c73⟩ => some (c71, c72, c73)
noncomputable def H2 (t : d5) (plan : List Int) (change8 : Int) : ((List (ByteArray × Int)) × (List d3) × (List (List Int)) × Int) → Option (((List (ByteArray × Int)) × (List d3) × (List (List Int)) × Int) ⊕ (((List (ByteArray × Int)) × (List d3) × (List (List Int))) ⊕ ((List Int) × Int × Bool × j6))) := fun (c10, c11, c12, j13) => Option.bind (ix c12 change8) fun a54 => if j13 < (a54.length : Int) then Option.bind (ix c12 change8) fun a65 => Option.bind (ix a65 j13) fun a68 => Option.bind (Option.bind (ix c11 a68) fun a75 => if a75.fat = (plan.length : Int) then Option.bind (ix c11 a68) fun a87 => Option.bind (v7 a87.fs t.goal) fun a92 => some a92 else some false) fun t18 => if t18 = true then Option.bind (u6 a68 t plan c11 c12 c10) fun a96 => if 60 < (a96.length : Int) then some (.inr (.inr ([], 0, false, (⟨10, -5⟩ : j6)))) else some (.inr (.inr (a96, change8, true, (⟨0, 0⟩ : j6)))) else Option.bind (s7 a68 t plan c11 c12 c10) fun a106 => some (.inl (a106.1, a106.2.1, a106.2.2, w64 (j13 + 1))) else some (.inr (.inl (c10, c11, c12)))
noncomputable def H4 (t : d5) (plan : List Int) : ((List (ByteArray × Int)) × (List d3) × (List (List Int)) × Int) → Option (((List (ByteArray × Int)) × (List d3) × (List (List Int)) × Int) ⊕ (Unit ⊕ ((List Int) × Int × Bool × j6))) := fun (c5, c6, c7, change8) => if change8 < (c7.length : Int) then Option.bind (Loop (H2 t plan change8) (c5, c6, c7, 0)) fun | .inl (c14, c15, c16) => some (.inl (c14, c15, c16, w64 (change8 + 1))) | .inr x => some (.inr (.inr x)) else some (.inr (.inl ()))
noncomputable def G9 (t : d5) (plan : List Int) : Option ((List Int) × Int × Bool × j6) := Option.bind (D0 t plan) fun a16 => if (!((decide (a16.code = 0)) && (decide (a16.index = 0)))) = true then some ([], 0, false, a16) else Option.bind (O8 t) fun a25 => Option.bind (B1 [t.init] t.facts t.init t.goal t.operators) fun a26 => if (!a26) = true then some ([], 0, false, (⟨10, -7⟩ : j6)) else Option.bind (k6 (⟨t.init, 0, -1, -1, 0⟩ : d3) t plan ([] : List d3) ([] : List (List Int)) ([] : List (ByteArray × Int))) fun a38 => Option.bind (Loop (H4 t plan) (a38.1, a38.2.1, a38.2.2, 0)) fun | .inl _ => some ([], 0, false, (⟨0, 0⟩ : j6)) | .inr x => some x
def Q8 (nv : Int) (low : Int) (high : Int) : Option Bool := some ((decide (low ≤ nv)) && (decide (nv ≤ high)))
def H6 (code : Int) (index : Int) : Option j6 := some (⟨code, index⟩ : j6)
def P1 (l : List Int) (nv : Int) : Int → Unit → Option (Unit ⊕ Bool) := fun iv3 _ => Option.bind (Option.bind (ix l iv3) fun a14 => Option.bind (Q8 a14 0 (w64 (nv - 1))) fun a18 => if (!a18) = true then some true else if 0 < iv3 then Option.bind (ix l iv3) fun a26 => Option.bind (ix l (iv3 - 1)) fun a31 => some (decide (a26 ≤ a31)) else some false) fun t4 => if t4 = true then some (.inr false) else some (.inl ())
def B9 (l : List Int) (nv : Int) : Option Bool := (Option.bind (rngX 0 (l.length : Int) (P1 l nv) ()) fun | .inl _ => some true | .inr x => some x)
def aa2 (l : List Int) (nv : Int) : Int → Unit → Option (Unit ⊕ Bool) := fun iv3 _ => Option.bind (ix l iv3) fun a14 => if a14 = nv then some (.inr true) else some (.inl ())
def G7 (l : List Int) (nv : Int) : Option Bool := (Option.bind (rngX 0 (l.length : Int) (aa2 l nv) ()) fun | .inl _ => some false | .inr x => some x)
def Q0 (av : List Int) (bv : List Int) : Int → Unit → Option (Unit ⊕ Bool) := fun iv3 _ => Option.bind (ix av iv3) fun a15 => Option.bind (G7 bv a15) fun a17 => if a17 = true then some (.inr false) else some (.inl ())
def I4 (av : List Int) (bv : List Int) : Option Bool := (Option.bind (rngX 0 (av.length : Int) (Q0 av bv) ()) fun | .inl _ => some true | .inr x => some x)
def y5 (t : d5) : Int → Unit → Option (Unit ⊕ j6) := fun iv6 _ => Option.bind (ix t.operators iv6) fun a39 => Option.bind (Option.bind (B9 a39.pre t.facts) fun a45 => if (!a45) = true then some true else Option.bind (B9 a39.add t.facts) fun a52 => if (!a52) = true then some true else Option.bind (B9 a39.del t.facts) fun a60 => if (!a60) = true then some true else Option.bind (I4 a39.add a39.del) fun a68 => some (!a68)) fun t7 => if t7 = true then Option.bind (H6 5 iv6) fun a72 => some (.inr a72) else Option.bind (Q8 a39.cost 0 100) fun a75 => if (!a75) = true then Option.bind (H6 3 iv6) fun a78 => some (.inr a78) else some (.inl ())
def I0 (t : d5) : Option j6 := Option.bind (Q8 t.facts 0 24) fun a7 => if (!a7) = true then Option.bind (H6 3 (-1)) fun a9 => some a9 else Option.bind (B9 t.init t.facts) fun a14 => if (!a14) = true then Option.bind (H6 5 (-2)) fun a16 => some a16 else Option.bind (B9 t.goal t.facts) fun a21 => if (!a21) = true then Option.bind (H6 5 (-3)) fun a23 => some a23 else if 40 < (t.operators.length : Int) then Option.bind (H6 2 (-1)) fun a28 => some a28 else (Option.bind (rngX 0 (t.operators.length : Int) (y5 t) ()) fun | .inl _ => some (⟨0, 0⟩ : j6) | .inr x => some x)
def E5 (operators : Int) (plan : List Int) : Int → Unit → Option (Unit ⊕ j6) := fun iv4 _ => Option.bind (ix plan iv4) fun a18 => Option.bind (Q8 a18 0 (w64 (operators - 1))) fun a22 => if (!a22) = true then Option.bind (H6 3 (-6)) fun a24 => some (.inr a24) else some (.inl ())
def v6 (operators : Int) (plan : List Int) : Option j6 := if 60 < (plan.length : Int) then Option.bind (H6 2 (-5)) fun a9 => some a9 else (Option.bind (rngX 0 (plan.length : Int) (E5 operators plan) ()) fun | .inl _ => some (⟨0, 0⟩ : j6) | .inr x => some x)
def C6 (t : d5) (plan : List Int) : Option j6 := Option.bind (I0 t) fun a7 => Option.bind (if a7.code = 0 then Option.bind (v6 (t.operators.length : Int) plan) fun a15 => some (a15.code, a15.index) else some (a7.code, a7.index)) fun ⟨c3, c4⟩ => some (⟨c3, c4⟩ : j6)
def E0 : Int → (List Int) → Option (List Int) := fun t5 c4 => Option.bind (ix c4 t5) fun a35 => some (c4.set t5.toNat t5)
def F6 (bv : List Int) (a41 : Int) : Int → ((List Int) × Int) → Option ((List Int) × Int) := fun t10 (c8, diagonal9) => Option.bind (ix bv t10) fun a56 => Option.bind (ix c8 t10) fun a60 => Option.bind (ix c8 (t10 + 1)) fun a65 => Option.bind (if a41 = a56 then some (min (w64 ((min a60 a65) + 1)) diagonal9) else some (w64 ((min a60 a65) + 1))) fun nv11 => Option.bind (ix c8 (t10 + 1)) fun a81 => Option.bind (ix c8 (t10 + 1)) fun a84 => some (c8.set ((t10 + 1).toNat) nv11, a81)
def B6 (av : List Int) (bv : List Int) : Int → (List Int) → Option (List Int) := fun t7 c6 => Option.bind (ix av t7) fun a41 => Option.bind (ix c6 0) fun a44 => Option.bind (ix c6 0) fun a47 => Option.bind (ix c6 0) fun a50 => (Option.bind (forR 0 (bv.length : Int) (F6 bv a41) (c6.set ((0 : Int).toNat) (w64 (a47 + 1)), a44)) fun ⟨c8, diagonal9⟩ => some c8)
def E6 (av : List Int) (bv : List Int) : Option (Int × j6) := if ((decide (60 < (av.length : Int))) || (decide (60 < (bv.length : Int)))) = true then some (0, (⟨2, -5⟩ : j6)) else Option.bind (mkL 8 (w64 ((bv.length : Int) + 1)) 0) fun a26 => (Option.bind (forR 0 (a26.length : Int) E0 a26) fun c4 => (Option.bind (forR 0 (av.length : Int) (B6 av bv) c4) fun c6 => Option.bind (ix c6 (bv.length : Int)) fun a90 => some (a90, (⟨0, 0⟩ : j6))))
def Y5 : Option d5 := some (⟨2, [0], [1], [(⟨[0], [1], [0], 1⟩ : g7), (⟨[], [1], [], 3⟩ : g7)]⟩ : d5)
def I3 (av : List Int) (bv : List Int) : Int → Unit → Option (Unit ⊕ Bool) := fun iv4 _ => Option.bind (ix av iv4) fun a19 => Option.bind (ix bv iv4) fun a23 => if a19 = a23 then some (.inl ()) else some (.inr false)
def I9 (av : List Int) (bv : List Int) : Option Bool := if (av.length : Int) = (bv.length : Int) then (Option.bind (rngX 0 (av.length : Int) (I3 av bv) ()) fun | .inl _ => some true | .inr x => some x) else some false
noncomputable def B5 : Option Bool := Option.bind (E6 [1, 2] [2, 3]) fun a10 => Option.bind (Y5) fun a14 => Option.bind (G9 a14 [1]) fun a16 => Option.bind (if a10.2.code = 0 then if a16.2.2.2.code = 0 then if a10.1 = 2 then if a16.2.2.1 = true then if a16.2.1 = 0 then Option.bind (I9 a16.1 [1]) fun a43 => some a43 else some false else some false else some false else some false else some false) fun t1 => some t1
def R8 (sv : List Int) : Int → Int → Option Int := fun iv3 w2 => Option.bind (ix sv iv3) fun a14 => Option.bind (chk0 ((IntKind.u64).wrap a14)) fun u17 => some (w64 (w2 + (shlW .i64 1 ((IntKind.u64).wrap a14))))
def K8 (sv : List Int) : Option Int := (Option.bind (forR 0 (sv.length : Int) (R8 sv) 0) fun w2 => some w2)
def S8 (part : List Int) (l : List Int) : Int → Unit → Option (Unit ⊕ Bool) := fun iv3 _ => Option.bind (ix part iv3) fun a15 => Option.bind (G7 l a15) fun a17 => if (!a17) = true then some (.inr false) else some (.inl ())
def G6 (part : List Int) (l : List Int) : Option Bool := (Option.bind (rngX 0 (part.length : Int) (S8 part l) ()) fun | .inl _ => some true | .inr x => some x)
def B3 (t : d5) (sv : List Int) (op : Int) : Option Bool := Option.bind (ix t.operators op) fun a10 => Option.bind (G6 a10.pre sv) fun a14 => some a14
def V0 (t : d5) (sv : List Int) (op : Int) : Int → (List Int) → Option (List Int) := fun p5 c4 => Option.bind (Option.bind (Option.bind (ix t.operators op) fun a18 => Option.bind (G7 a18.add p5) fun a22 => if a22 = true then some true else Option.bind (G7 sv p5) fun a26 => if a26 = true then Option.bind (ix t.operators op) fun a31 => Option.bind (G7 a31.del p5) fun a35 => some (!a35) else some false) fun t8 => if t8 = true then Option.bind (app 8 c4 [p5]) fun a42 => some a42 else some c4) fun c6 => some c6
def G2 (t : d5) (sv : List Int) (op : Int) : Option (List Int) := if t.facts ≤ 9223372036854775807 then (Option.bind (forR 0 t.facts (V0 t sv op) []) fun c4 => some c4) else none
def z7 : ((List (List Int)) × (List Int)) → Option (((List (List Int)) × (List Int)) ⊕ ((List (List Int)) × Bool)) := fun (c11, c12) => some (.inl (c11, c12))
def v8 (t : d5) (iv5 : Int) : Int → ((List (List Int)) × (List Int)) → Option (((List (List Int)) × (List Int)) ⊕ ((List (List Int)) × Bool)) := fun op10 (c8, c9) => Option.bind (ix c8 iv5) fun a32 => Option.bind (B3 t a32 op10) fun a35 => if (!a35) = true then z7 (c8, c9) else Option.bind (ix c8 iv5) fun a40 => Option.bind (G2 t a40 op10) fun a43 => Option.bind (K8 a43) fun a46 => Option.bind (G7 c9 a46) fun a47 => if a47 = true then z7 (c8, c9) else if (c8.length : Int) = 2000 then some (.inr ([], false)) else Option.bind (app 24 c8 [a43]) fun a54 => Option.bind (K8 a43) fun a57 => Option.bind (app 8 c9 [a57]) fun a59 => z7 (a54, a59)
def D4 (t : d5) : ((List (List Int)) × (List Int) × Int) → Option (((List (List Int)) × (List Int) × Int) ⊕ ((List (List Int)) ⊕ ((List (List Int)) × Bool))) := fun (c3, c4, iv5) => if iv5 < (c3.length : Int) then (Option.bind (rngX 0 (t.operators.length : Int) (v8 t iv5) (c3, c4)) fun | .inl (c8, c9) => some (.inl (c8, c9, w64 (iv5 + 1))) | .inr x => some (.inr (.inr x))) else some (.inr (.inl c3))
noncomputable def I2 (t : d5) (sv : List Int) : Option ((List (List Int)) × Bool) := Option.bind (K8 sv) fun a14 => Option.bind (Loop (D4 t) ([sv], [a14], 0)) fun | .inl c6 => some (c6, true) | .inr x => some x
noncomputable def M4 (t : d5) : Option ((List (List Int)) × Bool) := Option.bind (I2 t t.init) fun a7 => some (a7.1, a7.2)
def X2 (av : List Int) (bv : List Int) : Int → Unit → Option (Unit ⊕ Bool) := fun iv4 _ => Option.bind (ix av iv4) fun a19 => Option.bind (ix bv iv4) fun a23 => if a19 = a23 then some (.inl ()) else some (.inr false)
def T6 (av : List Int) (bv : List Int) : Option Bool := if (av.length : Int) = (bv.length : Int) then (Option.bind (rngX 0 (av.length : Int) (X2 av bv) ()) fun | .inl _ => some true | .inr x => some x) else some false
def P3 (l : List (List Int)) (sv : List Int) : Int → Unit → Option (Unit ⊕ Int) := fun iv3 _ => Option.bind (ix l iv3) fun a14 => Option.bind (T6 a14 sv) fun a17 => if a17 = true then some (.inr iv3) else some (.inl ())
def G1 (l : List (List Int)) (sv : List Int) : Option Int := (Option.bind (rngX 0 (l.length : Int) (P3 l sv) ()) fun | .inl _ => some (-1) | .inr x => some x)
def n3 (t : d5) (states : List (List Int)) (plan : List Int) (kv5 : Int) : Int → (List (List Int)) → Option (List (List Int)) := fun iv9 c8 => Option.bind (Option.bind (ix c8 kv5) fun a41 => Option.bind (ix a41 iv9) fun a44 => Option.bind (Option.bind (if kv5 = (plan.length : Int) then Option.bind (ix states iv9) fun a53 => Option.bind (G6 t.goal a53) fun a55 => some a55 else some false) fun t14 => if t14 = true then Option.bind (ix (c8.set kv5.toNat (a41.set iv9.toNat 1000000000)) kv5) fun a59 => Option.bind (ix a59 iv9) fun a62 => some ((c8.set kv5.toNat (a41.set iv9.toNat 1000000000)).set kv5.toNat (a59.set iv9.toNat 0)) else some (c8.set kv5.toNat (a41.set iv9.toNat 1000000000))) fun c12 => if kv5 < (plan.length : Int) then Option.bind (ix c12 kv5) fun a68 => Option.bind (ix c12 (w64 (kv5 + 1))) fun a74 => Option.bind (ix a74 iv9) fun a77 => Option.bind (ix a68 iv9) fun a80 => Option.bind (ix states iv9) fun a84 => Option.bind (ix plan kv5) fun a88 => Option.bind (B3 t a84 a88) fun a90 => if a90 = true then Option.bind (ix (c12.set kv5.toNat (a68.set iv9.toNat (w64 (a77 + 1)))) (w64 (kv5 + 1))) fun a94 => Option.bind (ix states iv9) fun a100 => Option.bind (ix plan kv5) fun a104 => Option.bind (G2 t a100 a104) fun a106 => Option.bind (G1 states a106) fun a107 => Option.bind (ix a94 a107) fun a108 => Option.bind (ix (c12.set kv5.toNat (a68.set iv9.toNat (w64 (a77 + 1)))) kv5) fun a113 => Option.bind (ix a113 iv9) fun a116 => if a108 < a116 then Option.bind (ix (c12.set kv5.toNat (a68.set iv9.toNat (w64 (a77 + 1)))) kv5) fun a121 => Option.bind (ix a121 iv9) fun a125 => some ((c12.set kv5.toNat (a68.set iv9.toNat (w64 (a77 + 1)))).set kv5.toNat (a121.set iv9.toNat a108)) else some (c12.set kv5.toNat (a68.set iv9.toNat (w64 (a77 + 1)))) else some (c12.set kv5.toNat (a68.set iv9.toNat (w64 (a77 + 1)))) else some c12) fun c10 => some c10
def F5 (t : d5) (states : List (List Int)) (kv5 : Int) (iv27 : Int) : Int → ((List (List Int)) × Bool) → Option ((List (List Int)) × Bool) := fun op30 (c28, again29) => Option.bind (Option.bind (ix states iv27) fun a143 => Option.bind (B3 t a143 op30) fun a146 => if (!a146) = true then some (c28, again29) else Option.bind (ix c28 kv5) fun a150 => Option.bind (ix states iv27) fun a156 => Option.bind (G2 t a156 op30) fun a159 => Option.bind (G1 states a159) fun a160 => Option.bind (ix a150 a160) fun a161 => Option.bind (ix c28 kv5) fun a167 => Option.bind (ix a167 iv27) fun a170 => if w64 (a161 + 1) < a170 then Option.bind (ix c28 kv5) fun a175 => Option.bind (ix a175 iv27) fun a180 => some (c28.set kv5.toNat (a175.set iv27.toNat (w64 (a161 + 1))), true) else some (c28, again29)) fun ⟨c31, again32⟩ => some (c31, again32)
def F1 (t : d5) (states : List (List Int)) (kv5 : Int) : Int → ((List (List Int)) × Bool) → Option ((List (List Int)) × Bool) := fun iv27 (c25, again26) => (Option.bind (forR 0 (t.operators.length : Int) (F5 t states kv5 iv27) (c25, again26)) fun ⟨c28, again29⟩ => some (c28, again29))
def F9 (t : d5) (states : List (List Int)) (kv5 : Int) : ((List (List Int)) × Bool) → Option (((List (List Int)) × Bool) ⊕ (List (List Int))) := fun (c21, again22) => if again22 = true then (Option.bind (forR 0 (states.length : Int) (F1 t states kv5) (c21, false)) fun ⟨c25, again26⟩ => some (.inl (c25, again26))) else some (.inr c21)
noncomputable def K0 (t : d5) (states : List (List Int)) (plan : List Int) : ((List (List Int)) × Int) → Option (((List (List Int)) × Int) ⊕ (List (List Int))) := fun (c4, kv5) => if 0 ≤ kv5 then Option.bind (mkL 8 (states.length : Int) 0) fun a31 => Option.bind (ix c4 kv5) fun a32 => (Option.bind (forR 0 (states.length : Int) (n3 t states plan kv5) (c4.set kv5.toNat a31)) fun c8 => Option.bind (Loop (F9 t states kv5) (c8, true)) fun c23 => some (.inl (c23, w64 (kv5 - 1)))) else some (.inr c4)
noncomputable def L4 (t : d5) (states : List (List Int)) (plan : List Int) : Option Int := Option.bind (mkL 24 (w64 ((plan.length : Int) + 1)) ([] : List Int)) fun a21 => Option.bind (Loop (K0 t states plan) (a21, (plan.length : Int))) fun c6 => Option.bind (ix c6 0) fun a182 => Option.bind (G1 states t.init) fun a187 => Option.bind (ix a182 a187) fun a188 => if a188 < 1000000000 then some a188 else some 1000000000
def R5 (t : d5) (plan : List Int) : Int → (List Int) → Option ((List Int) ⊕ ((List Int) × Bool)) := fun iv5 sv4 => Option.bind (ix plan iv5) fun a19 => Option.bind (B3 t sv4 a19) fun a21 => if (!a21) = true then some (.inr ([], false)) else Option.bind (ix plan iv5) fun a27 => Option.bind (G2 t sv4 a27) fun a29 => some (.inl a29)
def U3 (t : d5) (sv : List Int) (plan : List Int) : Option ((List Int) × Bool) := (Option.bind (rngX 0 (plan.length : Int) (R5 t plan) sv) fun | .inl sv4 => some (sv4, true) | .inr x => some x)
def R9 (t : d5) (sv : List Int) (plan : List Int) : Option Bool := Option.bind (U3 t sv plan) fun a13 => Option.bind (if a13.2 = true then Option.bind (G6 t.goal a13.1) fun a21 => some a21 else some false) fun t4 => some t4
def O1 (t : d5) (plan : List Int) : Option Bool := Option.bind (R9 t t.init plan) fun a9 => some a9
def y8 (av : List Int) (bv : List Int) (iv4 : Int) : ((List (List Int)) × Int) → Option (((List (List Int)) × Int) ⊕ (List (List Int))) := fun (c7, j8) => if ((decide (0 ≤ j8)) && (decide (iv4 < (av.length : Int)))) = true then Option.bind (Option.bind (ix c7 iv4) fun a40 => Option.bind (ix c7 (w64 (iv4 + 1))) fun a46 => Option.bind (ix a46 j8) fun a49 => Option.bind (ix a40 j8) fun a51 => Option.bind (Option.bind (ix (c7.set iv4.toNat (a40.set j8.toNat a49)) iv4) fun a54 => Option.bind (ix a54 (w64 (j8 + 1))) fun a58 => Option.bind (ix (c7.set iv4.toNat (a40.set j8.toNat a49)) iv4) fun a62 => Option.bind (ix a62 j8) fun a65 => if a65 < a58 then Option.bind (ix (c7.set iv4.toNat (a40.set j8.toNat a49)) iv4) fun a70 => Option.bind (ix (c7.set iv4.toNat (a40.set j8.toNat a49)) iv4) fun a75 => Option.bind (ix a75 (w64 (j8 + 1))) fun a79 => Option.bind (ix a70 j8) fun a81 => some ((c7.set iv4.toNat (a40.set j8.toNat a49)).set iv4.toNat (a70.set j8.toNat a79)) else some (c7.set iv4.toNat (a40.set j8.toNat a49))) fun c13 => Option.bind (Option.bind (ix av iv4) fun a84 => Option.bind (ix bv j8) fun a88 => if a84 = a88 then Option.bind (ix c13 (w64 (iv4 + 1))) fun a95 => Option.bind (ix a95 (w64 (j8 + 1))) fun a99 => Option.bind (ix c13 iv4) fun a104 => Option.bind (ix a104 j8) fun a107 => some (decide (a107 < w64 (a99 + 1))) else some false) fun t16 => if t16 = true then Option.bind (ix c13 iv4) fun a113 => Option.bind (ix c13 (w64 (iv4 + 1))) fun a119 => Option.bind (ix a119 (w64 (j8 + 1))) fun a123 => Option.bind (ix a113 j8) fun a126 => some (c13.set iv4.toNat (a113.set j8.toNat (w64 (a123 + 1)))) else some c13) fun c11 => some (.inl (c11, w64 (j8 - 1))) else some (.inr c7)
noncomputable def D8 (av : List Int) (bv : List Int) : ((List (List Int)) × Int) → Option (((List (List Int)) × Int) ⊕ (List (List Int))) := fun (c3, iv4) => if 0 ≤ iv4 then Option.bind (mkL 8 (w64 ((bv.length : Int) + 1)) 0) fun a23 => Option.bind (ix c3 iv4) fun a24 => Option.bind (Loop (y8 av bv iv4) (c3.set iv4.toNat a23, (bv.length : Int) - 1)) fun c9 => some (.inl (c9, w64 (iv4 - 1))) else some (.inr c3)
noncomputable def N0 (av : List Int) (bv : List Int) : Option Int := Option.bind (mkL 24 (w64 ((av.length : Int) + 1)) ([] : List Int)) fun a11 => Option.bind (Loop (D8 av bv) (a11, (av.length : Int))) fun c5 => Option.bind (ix c5 0) fun a133 => Option.bind (ix a133 0) fun a135 => some (w64 ((w64 ((av.length : Int) + (bv.length : Int))) - (w64 (2 * a135))))
noncomputable def A4 (t : d5) (plan : List Int) : Option Bool := Option.bind (G9 t plan) fun a16 => Option.bind (C6 t plan) fun a23 => if a23.code = 0 then Option.bind (M4 t) fun a48 => if (((!a48.2) || (decide (35 < (a48.1.length : Int)))) || (decide (12 < (plan.length : Int)))) = true then Option.bind (B5) fun a63 => some a63 else Option.bind (L4 t a48.1 plan) fun a67 => if 1000000000 ≤ a67 then Option.bind (if a16.2.2.2.code = 0 then if (!a16.2.2.1) = true then if a16.2.1 = 0 then if (a16.1.length : Int) = 0 then Option.bind (B5) fun a87 => some a87 else some false else some false else some false else some false) fun t12 => some t12 else Option.bind (if a16.2.2.2.code = 0 then if a16.2.2.1 = true then if a16.2.1 = a67 then Option.bind (v6 (t.operators.length : Int) a16.1) fun a105 => if a105.code = 0 then Option.bind (O1 t a16.1) fun a112 => if a112 = true then Option.bind (N0 plan a16.1) fun a117 => if a117 = a16.2.1 then Option.bind (B5) fun a122 => some a122 else some false else some false else some false else some false else some false else some false) fun t18 => some t18 else Option.bind (if ((decide (a16.2.2.2.code = a23.code)) && (decide (a16.2.2.2.index = a23.index))) = true then if (!a16.2.2.1) = true then if a16.2.1 = 0 then if (a16.1.length : Int) = 0 then Option.bind (B5) fun a44 => some a44 else some false else some false else some false else some false) fun t4 => some t4
end Ab
end
section
namespace Ab
open Go
section
open Go.Proofs
variable {P : Program} {σ0 : b6} {sz : Nat} {Q : Post} {env : Env} {σv : b6} {ops : Array Oper} {rest : List Oper}
end
end Ab
end
section
namespace Go.Proofs
open Go.Shelf
open Tryz
def Tryz.lays283_ren : Go.Shelf.Ren := ⟨fun | 283 => 105 | n => n, fun | 3 => 3 | 9 => 9 | 4 => 4 | n => n, fun | n => n⟩
theorem Tryz.lays283 : Go.Proofs.Lays.n283 prog Tryz.lays283_ren := {
 mixed := by kernel_rfl
 f283 := func105.trans (congrArg some (by kernel_rfl))
 t3 := underlying3
 a3 := isAgg3
 z3 := sizeOf3
 v3 := zeroValue3
 t4 := underlying4
 a4 := isAgg4
 z4 := sizeOf4
 v4 := zeroValue4
 t9 := underlying9
 a9 := isAgg9
 z9 := sizeOf9
 v9 := zeroValue9 }
open Go.Lib in
theorem Tryz.internal_strconv_small (i : Nat) (h : i < 100) (w : World) :
  Calls prog 105 #[.int .i64 i] w fun e w' => e = .returned (.string ⟨(Lib.decDigits i).toArray⟩) ∧ w' = w := Any.internal_strconv_small Tryz.lays283 i h w
def Tryz.lays189_ren : Go.Shelf.Ren := ⟨fun | 189 => 88 | 125 => 76 | 257 => 115 | 128 => 98 | 129 => 99 | 294 => 127 | 295 => 128 | 296 => 129 | 297 => 130 | 298 => 131 | 299 => 132 | 216 => 113 | 300 => 133 | 301 => 134 | 328 => 146 | 329 => 117 | 330 => 118 | 331 => 147 | 332 => 148 | 215 => 100 | 343 => 152 | n => n, fun | 28 => 22 | 3 => 3 | 46 => 126 | 0 => 0 | 51 => 72 | 53 => 152 | 4 => 4 | 183 => 161 | 182 => 160 | 131 => 82 | 5 => 5 | 9 => 9 | 218 => 186 | 222 => 190 | 228 => 203 | 229 => 204 | n => n, fun | n => n⟩
theorem Tryz.lays189 : Go.Proofs.Lays.n189 prog Tryz.lays189_ren := {
 mixed := by kernel_rfl
 f125 := func76.trans (congrArg some (by kernel_rfl))
 f128 := func98.trans (congrArg some (by kernel_rfl))
 f129 := func99.trans (congrArg some (by kernel_rfl))
 f189 := func88.trans (congrArg some (by kernel_rfl))
 f215 := func100.trans (congrArg some (by kernel_rfl))
 f216 := func113.trans (congrArg some (by kernel_rfl))
 f257 := func115.trans (congrArg some (by kernel_rfl))
 f294 := func127.trans (congrArg some (by kernel_rfl))
 f295 := func128.trans (congrArg some (by kernel_rfl))
 f296 := func129.trans (congrArg some (by kernel_rfl))
 f297 := func130.trans (congrArg some (by kernel_rfl))
 f298 := func131.trans (congrArg some (by kernel_rfl))
 f299 := func132.trans (congrArg some (by kernel_rfl))
 f300 := func133.trans (congrArg some (by kernel_rfl))
 f301 := func134.trans (congrArg some (by kernel_rfl))
 f328 := func146.trans (congrArg some (by kernel_rfl))
 f329 := func117.trans (congrArg some (by kernel_rfl))
 f330 := func118.trans (congrArg some (by kernel_rfl))
 f331 := func147.trans (congrArg some (by kernel_rfl))
 f332 := func148.trans (congrArg some (by kernel_rfl))
 f343 := func152.trans (congrArg some (by kernel_rfl))
 t0 := underlying0
 a0 := isAgg0
 z0 := sizeOf0
 v0 := zeroValue0
 t3 := underlying3
 a3 := isAgg3
 z3 := sizeOf3
 v3 := zeroValue3
 t4 := underlying4
 a4 := isAgg4
 z4 := sizeOf4
 v4 := zeroValue4
 t5 := underlying5
 a5 := isAgg5
 z5 := sizeOf5
 v5 := zeroValue5
 t9 := underlying9
 a9 := isAgg9
 z9 := sizeOf9
 v9 := zeroValue9
 t28 := underlying22
 a28 := isAgg22
 z28 := sizeOf22
 v28 := zeroValue22
 t46 := underlying126
 a46 := isAgg126
 z46 := sizeOf126
 v46 := zeroValue126
 t51 := underlying72
 a51 := isAgg72
 z51 := sizeOf72
 v51 := zeroValue72
 t53 := underlying152
 a53 := isAgg152
 z53 := sizeOf152
 v53 := zeroValue152
 t131 := underlying82
 a131 := isAgg82
 z131 := sizeOf82
 v131 := zeroValue82
 t182 := underlying160
 a182 := isAgg160
 z182 := sizeOf160
 v182 := zeroValue160
 t183 := underlying161
 a183 := isAgg161
 z183 := sizeOf161
 v183 := zeroValue161
 t218 := underlying186
 a218 := isAgg186
 z218 := sizeOf186
 v218 := zeroValue186
 t222 := underlying190
 a222 := isAgg190
 z222 := sizeOf190
 v222 := zeroValue190
 t228 := underlying203
 a228 := isAgg203
 z228 := sizeOf203
 v228 := zeroValue203
 t229 := underlying204
 a229 := isAgg204
 z229 := sizeOf204
 v229 := zeroValue204 }
open Go.Sort Go.RowKit in
theorem Tryz.slices_Sort_int (blk off cap : Nat) (zs : List Int) (w : World) (hH : Holds (Value.int .i64) w blk off zs.toArray) (hblk : blk < w.heap.size) (hsz : zs.length < 4611686018427387904) :
  Calls prog 88 #[.slice (some ⟨blk, off, none⟩) zs.length cap] w fun e w' =>
   e = .returned (.tuple #[]) ∧ ∃ n os, w' = grow (putRow (Value.int .i64) (Sort.ahead w n) blk off (zs.mergeSort fun x y => decide (x ≤ y)).toArray) os := Any.slices_Sort_int Tryz.lays189 blk off cap zs w hH hblk hsz
def Tryz.lays112_ren : Go.Shelf.Ren := ⟨fun | 112 => 44 | n => n, fun | 28 => 22 | 3 => 3 | 4 => 4 | 0 => 0 | n => n, fun | n => n⟩
theorem Tryz.lays112 : Go.Proofs.Lays.n112 prog Tryz.lays112_ren := {
 mixed := by kernel_rfl
 f112 := func44.trans (congrArg some (by kernel_rfl))
 t0 := underlying0
 a0 := isAgg0
 z0 := sizeOf0
 v0 := zeroValue0
 t3 := underlying3
 a3 := isAgg3
 z3 := sizeOf3
 v3 := zeroValue3
 t4 := underlying4
 a4 := isAgg4
 z4 := sizeOf4
 v4 := zeroValue4
 t28 := underlying22
 a28 := isAgg22
 z28 := sizeOf22
 v28 := zeroValue22 }
open Go.RowKit Go.Lib Go.Sort in
theorem Tryz.slices_Reverse_int (blk off cap : Nat) (zs : List Int) (w : World) (hH : Holds (Value.int .i64) w blk off zs.toArray) (hsz : zs.length ≤ 9223372036854775807) :
  Calls prog 44 #[.slice (some ⟨blk, off, none⟩) zs.length cap] w fun e w' => e = .returned (.tuple #[]) ∧ ∃ n, w' = putRow (Value.int .i64) (Sort.ahead w n) blk off zs.reverse.toArray := Any.slices_Reverse_int Tryz.lays112 blk off cap zs w hH hsz
open Go.RowKit Go.Lib Go.Sort in
theorem Tryz.slices_Reverse_int_empty (a : Option Addr) (cap : Nat) (w : World) :
  Calls prog 44 #[.slice a 0 cap] w fun e w' => e = .returned (.tuple #[]) ∧ w' = w := Any.slices_Reverse_int_empty Tryz.lays112 a cap w
def Tryz.laysNm220_ren : Go.Shelf.Ren := ⟨fun | 20 => 89 | n => n, fun | 22 => 22 | 3 => 3 | 4 => 4 | 0 => 0 | n => n, fun | n => n⟩
theorem Tryz.laysNm220 : Go.Proofs.Lays2.n20 prog Tryz.laysNm220_ren := {
 mixed := by kernel_rfl
 f20 := func89.trans (congrArg some (by kernel_rfl))
 t0 := underlying0
 a0 := isAgg0
 z0 := sizeOf0
 v0 := zeroValue0
 t3 := underlying3
 a3 := isAgg3
 z3 := sizeOf3
 v3 := zeroValue3
 t4 := underlying4
 a4 := isAgg4
 z4 := sizeOf4
 v4 := zeroValue4
 t22 := underlying22
 a22 := isAgg22
 z22 := sizeOf22
 v22 := zeroValue22
 i3 := by kernel_rfl }
open Go.RowKit Go.Lib Go.Sort in
theorem Tryz.slices_Compact_int (blk off cap : Nat) (zs : List Int) (w : World) (hH : Holds (Value.int .i64) w blk off zs.toArray) (hsz : zs.length ≤ 9223372036854775807) (hcap : zs.length ≤ cap) :
  Calls prog 89 #[.slice (some ⟨blk, off, none⟩) zs.length cap] w fun e w' => e = .returned (.slice (some ⟨blk, off, none⟩) (Lib.compact zs).length cap) ∧ ∃ q, w' = putRow (Value.int .i64) (Sort.ahead w q) blk off (Lib.compact zs ++ List.replicate (zs.length - (Lib.compact zs).length) 0).toArray := Any.slices_Compact_int Tryz.laysNm220 blk off cap zs w hH hsz hcap
open Go.RowKit Go.Lib Go.Sort in
theorem Tryz.slices_Compact_int_empty (a : Option Addr) (cap : Nat) (w : World) :
  Calls prog 89 #[.slice a 0 cap] w fun e w' => e = .returned (.slice a 0 cap) ∧ w' = w := Any.slices_Compact_int_empty Tryz.laysNm220 a cap w
open Go.RowKit Go.Sort in
theorem Tryz.slices_Sort_int_none (p : Option Addr) (cap : Nat) (w : World) :
  Calls prog 88 #[.slice p 0 cap] w fun e w' => e = .returned (.tuple #[]) ∧ w' = w := Any.slices_Sort_int_none Tryz.lays189 p cap w
def Tryz.laysSlF6_f110_ren : Go.Shelf.Ren := ⟨fun | 6 => 110 | 15 => 76 | 14 => 126 | 28 => 98 | 29 => 99 | 20 => 138 | 21 => 139 | 22 => 140 | 23 => 141 | 24 => 142 | 25 => 143 | 26 => 144 | 27 => 145 | 46 => 149 | 47 => 117 | 48 => 118 | 49 => 150 | 50 => 151 | 57 => 153 | n => n, fun | 22 => 32 | 24 => 22 | 25 => 38 | 3 => 3 | 39 => 126 | 0 => 0 | 53 => 72 | 55 => 152 | 4 => 4 | 46 => 161 | 45 => 160 | 50 => 82 | 5 => 5 | 9 => 9 | 66 => 186 | 70 => 190 | 76 => 203 | 77 => 204 | n => n, fun | n => n⟩
theorem Tryz.laysSlF6_f110 : Go.Proofs.SlLaysF.n6 prog Tryz.laysSlF6_f110_ren := {
 mixed := by kernel_rfl
 f6 := ⟨Tryz.f110.name, by decide, func110.trans (congrArg some (by kernel_rfl))⟩
 f14 := ⟨Tryz.f126.name, by decide, func126.trans (congrArg some (by kernel_rfl))⟩
 f15 := func76.trans (congrArg some (by kernel_rfl))
 f20 := ⟨Tryz.f138.name, by decide, func138.trans (congrArg some (by kernel_rfl))⟩
 f21 := ⟨Tryz.f139.name, by decide, func139.trans (congrArg some (by kernel_rfl))⟩
 f22 := ⟨Tryz.f140.name, by decide, func140.trans (congrArg some (by kernel_rfl))⟩
 f23 := ⟨Tryz.f141.name, by decide, func141.trans (congrArg some (by kernel_rfl))⟩
 f24 := ⟨Tryz.f142.name, by decide, func142.trans (congrArg some (by kernel_rfl))⟩
 f25 := ⟨Tryz.f143.name, by decide, func143.trans (congrArg some (by kernel_rfl))⟩
 f26 := ⟨Tryz.f144.name, by decide, func144.trans (congrArg some (by kernel_rfl))⟩
 f27 := ⟨Tryz.f145.name, by decide, func145.trans (congrArg some (by kernel_rfl))⟩
 f28 := func98.trans (congrArg some (by kernel_rfl))
 f29 := func99.trans (congrArg some (by kernel_rfl))
 f46 := ⟨Tryz.f149.name, by decide, func149.trans (congrArg some (by kernel_rfl))⟩
 f47 := func117.trans (congrArg some (by kernel_rfl))
 f48 := func118.trans (congrArg some (by kernel_rfl))
 f49 := ⟨Tryz.f150.name, by decide, func150.trans (congrArg some (by kernel_rfl))⟩
 f50 := ⟨Tryz.f151.name, by decide, func151.trans (congrArg some (by kernel_rfl))⟩
 f57 := ⟨Tryz.f153.name, by decide, func153.trans (congrArg some (by kernel_rfl))⟩
 t0 := underlying0
 a0 := isAgg0
 z0 := sizeOf0
 v0 := zeroValue0
 t3 := underlying3
 a3 := isAgg3
 z3 := sizeOf3
 v3 := zeroValue3
 t4 := underlying4
 a4 := isAgg4
 z4 := sizeOf4
 v4 := zeroValue4
 t5 := underlying5
 a5 := isAgg5
 z5 := sizeOf5
 v5 := zeroValue5
 t9 := underlying9
 a9 := isAgg9
 z9 := sizeOf9
 v9 := zeroValue9
 t22 := underlying32
 a22 := isAgg32
 z22 := sizeOf32
 v22 := zeroValue32
 a24 := isAgg22
 z24 := sizeOf22
 t25 := underlying38
 a25 := isAgg38
 z25 := sizeOf38
 v25 := zeroValue38
 t39 := underlying126
 a39 := isAgg126
 z39 := sizeOf126
 v39 := zeroValue126
 t45 := underlying160
 a45 := isAgg160
 z45 := sizeOf160
 v45 := zeroValue160
 t46 := underlying161
 a46 := isAgg161
 z46 := sizeOf161
 v46 := zeroValue161
 t50 := underlying82
 a50 := isAgg82
 z50 := sizeOf82
 v50 := zeroValue82
 t53 := underlying72
 a53 := isAgg72
 z53 := sizeOf72
 v53 := zeroValue72
 t55 := underlying152
 a55 := isAgg152
 z55 := sizeOf152
 v55 := zeroValue152
 t66 := underlying186
 a66 := isAgg186
 z66 := sizeOf186
 v66 := zeroValue186
 t70 := underlying190
 a70 := isAgg190
 z70 := sizeOf190
 v70 := zeroValue190
 t76 := underlying203
 a76 := isAgg203
 z76 := sizeOf203
 v76 := zeroValue203
 t77 := underlying204
 a77 := isAgg204
 z77 := sizeOf204
 v77 := zeroValue204 }
open Go.RowKit Go.Lib Go.Sort in
theorem Tryz.slices_SortFunc_f110 {α : Type} [Inhabited α] (enc : α → Value) (h1 : OneCell enc) (cf : α → α → Int) (hO : SWO (ltOf cf)) (g : Nat) (cb : Array Value) (blk off cap : Nat) (d : Array α) (w : World) (eg : ∀ args w, (callFunc g args).run prog w = .ok (.enter g args) w) (hcmp : CmpLays1 prog g cb enc cf blk off d.size w) (hH : Holds enc w blk off d) (hblk : blk < w.heap.size) (hsz : d.size < 4611686018427387904) :
  Calls prog 110 #[.slice (some ⟨blk, off, none⟩) d.size cap, .func (.func g) #[] cb] w fun e w' =>
   e = .returned (.tuple #[]) ∧ ∃ d' n os, PermIn 0 d.size d d' ∧ SortedIn (ltOf cf) 0 d.size d' ∧ w' = sortWorld enc w blk off n d' os := Any.slices_SortFunc Tryz.laysSlF6_f110 enc h1 cf hO g cb blk off cap d w eg hcmp hH hblk hsz
def Tryz.laysSlF06_f110_ren : Go.Shelf.Ren := ⟨fun | 6 => 110 | 15 => 76 | 14 => 126 | 28 => 98 | 29 => 99 | 20 => 138 | 21 => 139 | 22 => 140 | 23 => 141 | 24 => 142 | 25 => 143 | 26 => 144 | 27 => 145 | 46 => 149 | 47 => 117 | 48 => 118 | 49 => 150 | 50 => 151 | 57 => 153 | n => n, fun | 22 => 32 | 24 => 22 | 25 => 38 | 3 => 3 | 39 => 126 | 0 => 0 | 53 => 72 | 55 => 152 | 4 => 4 | 46 => 161 | 45 => 160 | 50 => 82 | 5 => 5 | 9 => 9 | 66 => 186 | 70 => 190 | 76 => 203 | 77 => 204 | n => n, fun | n => n⟩
theorem Tryz.laysSlF06_f110 : Go.Proofs.SlLaysF0.n6 prog Tryz.laysSlF06_f110_ren := {
 mixed := by kernel_rfl
 f6 := ⟨Tryz.f110.name, by decide, func110.trans (congrArg some (by kernel_rfl))⟩
 f14 := ⟨Tryz.f126.name, by decide, func126.trans (congrArg some (by kernel_rfl))⟩
 f15 := func76.trans (congrArg some (by kernel_rfl))
 f20 := ⟨Tryz.f138.name, by decide, func138.trans (congrArg some (by kernel_rfl))⟩
 f21 := ⟨Tryz.f139.name, by decide, func139.trans (congrArg some (by kernel_rfl))⟩
 f22 := ⟨Tryz.f140.name, by decide, func140.trans (congrArg some (by kernel_rfl))⟩
 f23 := ⟨Tryz.f141.name, by decide, func141.trans (congrArg some (by kernel_rfl))⟩
 f24 := ⟨Tryz.f142.name, by decide, func142.trans (congrArg some (by kernel_rfl))⟩
 f25 := ⟨Tryz.f143.name, by decide, func143.trans (congrArg some (by kernel_rfl))⟩
 f26 := ⟨Tryz.f144.name, by decide, func144.trans (congrArg some (by kernel_rfl))⟩
 f27 := ⟨Tryz.f145.name, by decide, func145.trans (congrArg some (by kernel_rfl))⟩
 f28 := func98.trans (congrArg some (by kernel_rfl))
 f29 := func99.trans (congrArg some (by kernel_rfl))
 f46 := ⟨Tryz.f149.name, by decide, func149.trans (congrArg some (by kernel_rfl))⟩
 f47 := func117.trans (congrArg some (by kernel_rfl))
 f48 := func118.trans (congrArg some (by kernel_rfl))
 f49 := ⟨Tryz.f150.name, by decide, func150.trans (congrArg some (by kernel_rfl))⟩
 f50 := ⟨Tryz.f151.name, by decide, func151.trans (congrArg some (by kernel_rfl))⟩
 f57 := ⟨Tryz.f153.name, by decide, func153.trans (congrArg some (by kernel_rfl))⟩
 t0 := underlying0
 a0 := isAgg0
 z0 := sizeOf0
 v0 := zeroValue0
 t3 := underlying3
 a3 := isAgg3
 z3 := sizeOf3
 v3 := zeroValue3
 t4 := underlying4
 a4 := isAgg4
 z4 := sizeOf4
 v4 := zeroValue4
 t5 := underlying5
 a5 := isAgg5
 z5 := sizeOf5
 v5 := zeroValue5
 t9 := underlying9
 a9 := isAgg9
 z9 := sizeOf9
 v9 := zeroValue9
 t22 := underlying32
 a22 := isAgg32
 z22 := sizeOf32
 v22 := zeroValue32
 t25 := underlying38
 a25 := isAgg38
 z25 := sizeOf38
 v25 := zeroValue38
 t39 := underlying126
 a39 := isAgg126
 z39 := sizeOf126
 v39 := zeroValue126
 t45 := underlying160
 a45 := isAgg160
 z45 := sizeOf160
 v45 := zeroValue160
 t46 := underlying161
 a46 := isAgg161
 z46 := sizeOf161
 v46 := zeroValue161
 t50 := underlying82
 a50 := isAgg82
 z50 := sizeOf82
 v50 := zeroValue82
 t53 := underlying72
 a53 := isAgg72
 z53 := sizeOf72
 v53 := zeroValue72
 t55 := underlying152
 a55 := isAgg152
 z55 := sizeOf152
 v55 := zeroValue152
 t66 := underlying186
 a66 := isAgg186
 z66 := sizeOf186
 v66 := zeroValue186
 t70 := underlying190
 a70 := isAgg190
 z70 := sizeOf190
 v70 := zeroValue190
 t76 := underlying203
 a76 := isAgg203
 z76 := sizeOf203
 v76 := zeroValue203
 t77 := underlying204
 a77 := isAgg204
 z77 := sizeOf204
 v77 := zeroValue204 }
open Go.RowKit Go.Lib Go.Sort in
theorem Tryz.slices_SortFunc_none_f110 {α : Type} [Inhabited α] (p : Option Addr) (cap : Nat) (fv : Value) (w : World) :
  Calls prog 110 #[.slice p 0 cap, fv] w fun e w' => e = .returned (.tuple #[]) ∧ w' = w := AnyF.slices_SortFunc_none Tryz.laysSlF06_f110 p cap fv w
end Go.Proofs
end
section
namespace Ab
open Go Go.Proofs
open Tryz
theorem sort_facts : H9 prog 88 := ⟨_, func88, rfl, rfl⟩
theorem compact_facts : H9 prog 89 := ⟨_, func89, rfl, rfl⟩
theorem sortL_ok : SortOk prog 88 := fun hσ hl => sort_fn sort_facts (fun blk off cap zs w hH hb hs => Tryz.slices_Sort_int blk off cap zs w hH hb hs) (fun p cap w => Tryz.slices_Sort_int_none p cap w) hσ hl
theorem compactL_ok : CompactOk prog 89 := fun hσ => compact_fn compact_facts (fun blk off cap zs w hH hs hc => Tryz.slices_Compact_int blk off cap zs w hH hs hc) (fun a cap w => Tryz.slices_Compact_int_empty a cap w) hσ
end Ab
end
section
namespace Ab
open Go Go.Proofs
open Tryz
theorem sortF_facts : H9 prog 110 := ⟨_, func110, rfl, rfl⟩
theorem sortF_LLi64_ok : SortFOk prog 110 := fun hgn hO hT hg _ _ _ hσ hl => sortF_fn sortF_facts hgn hO hT hg (fun β _ enc h1 cf hO g cb blk off cap d w eg hcmp hH hblk hsz => Tryz.slices_SortFunc_f110 enc h1 cf hO g cb blk off cap d w eg hcmp hH hblk hsz) (fun p cap fv w => Tryz.slices_SortFunc_none_f110 (α := Unit) p cap fv w) hσ hl
end Ab
end
section
namespace Ab
open Go Go.Proofs
open Tryz
theorem reverse_facts : H9 prog 44 := ⟨_, func44, rfl, rfl⟩
theorem revL_ok : RevOk prog 44 := fun hσ => rev_fn reverse_facts (fun blk off cap zs w hH hs => Tryz.slices_Reverse_int blk off cap zs w hH hs) (fun p cap w => Tryz.slices_Reverse_int_empty p cap w) hσ
end Ab
end
