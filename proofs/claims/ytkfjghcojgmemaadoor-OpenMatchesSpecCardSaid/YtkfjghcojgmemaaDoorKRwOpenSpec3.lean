/-
  Texts that the proof stands on.
-/
import Derived.Test.YtkfjghcojgmemaaDoorKRwOpenSpec2
import Derived.Shelf.SlSortCmp.Whole1
import Derived.Laws.CopyRow
import Derived.Laws.Cover3
import Derived.Shelf.Small.Bits
import Derived.Shelf.Small.Wraps
import Derived.Shelf.Strconv.Itoa0
import Derived.Shelf.Strconv.Itoa1
import Derived.Shelf.LaysM
import Derived.Shelf.Strconv.Itoa2
import Derived.Shelf.Sort.Plain
import Derived.Shelf.Strconv.AppendUint10
import Derived.Shelf.Strconv.AppendInt10
import Derived.Shelf.Slices.Equal
import Derived.Ground.Names2Prog
import Derived.Shelf.Slices.Clone
import Derived.Shelf.Slices.SearchI
import Derived.Shelf.Slices.Cells
import Derived.Shelf.Slices.In.SortNone
import Derived.Shelf.Slices.Empties
import Derived.Shelf.Slices.Empties2
import Derived.Ground.SlgnProg
import Derived.Shelf.SlicesE.Clone
import Derived.Ground.SlsfProg
import Derived.Shelf.SlSortCmp.Insertion
import Derived.Shelf.SlSortCmp.SiftDown1
import Derived.Shelf.SlSortCmp.HeapSort1
import Derived.Shelf.SlSortCmp.Insertion1
import Derived.Shelf.SlSortCmp.Median1
import Derived.Shelf.SlSortCmp.Pivot1
import Derived.Shelf.SlSortCmp.ReverseRange1
import Derived.Shelf.SlSortCmp.PartialInsertion1
import Derived.Shelf.SlSortCmp.PartitionEqual1
import Derived.Shelf.SlSortCmp.Partition1
import Derived.Shelf.SlSortCmp.Pdq1
import Derived.Shelf.SlSortCmp.NoneTotal
import Derived.Test.YtkfjghcojgmemaaDoorProg
set_option linter.all false
section
namespace Ab
open Go Go.Sort
theorem putCellsG_size {α : Type} [Inhabited α] {enc : α → Value} {off : Nat} {d : Array α} {arr : Array Value} : (putCells enc off d arr).size = arr.size := by simp [putCells]
theorem putCellsG_get {α : Type} [Inhabited α] {enc : α → Value} {off : Nat} {d : List α} {arr : Array Value} (h : off + d.length ≤ arr.size) {j : Nat} {x : α} (hj : d[j]? = some x) : (putCells enc off d.toArray arr)[off + j]? = some (enc x) := by
  have hjl := (List.getElem?_eq_some_iff.1 hj).1
  have hx := (List.getElem?_eq_some_iff.1 hj).2
  simp only [putCells, Array.getElem?_mapIdx]
  rw [Array.getElem?_eq_getElem (by omega)]
  simp only [Option.map_some, List.size_toArray]
  rw [if_pos (by omega)]
  simp [hjl, hx]
theorem putRowG_setRow {α : Type} [Inhabited α] {enc : α → Value} {w : World} {b off : Nat} {arr : Array Value} {ety : TypeId} {fr : Nat × Nat} {d : Array α} (hb : w.heap[b]? = some (.cells arr ety fr)) :
    putRow enc w b off d = w.setRow b (putCells enc off d arr) := by
  unfold putRow mapBlock World.setRow
  congr 1
  apply Array.ext_getElem?
  intro k
  simp only [Array.getElem?_modify]
  by_cases hk : b = k
  · subst hk; simp only [if_true, hb, Option.map_some, onCells]
  · simp [hk]
theorem putRowG_ahead {α : Type} [Inhabited α] (enc : α → Value) (w : World) (n b off : Nat) (d : Array α) : putRow enc (Go.Sort.ahead w n) b off d = Go.Sort.ahead (putRow enc w b off d) n := rfl
theorem putRow_other {α : Type} [Inhabited α] (enc : α → Value) (w : World) (b off : Nat) (d : Array α) {k : Nat} (hk : k ≠ b) : (putRow enc w b off d).heap[k]? = w.heap[k]? := by
  unfold putRow mapBlock
  simp only [Array.getElem?_modify]
  rw [if_neg (fun e => hk e.symm)]
theorem putRow_size {α : Type} [Inhabited α] (enc : α → Value) (w : World) (b off : Nat) (d : Array α) : (putRow enc w b off d).heap.size = w.heap.size := by simp [putRow, mapBlock]
/-- A world whose old blocks are as' they were. -/
theorem grow_of {W W' : World} (h1 : W'.os = W.os) (h2 : W'.tape = W.tape) (h3 : W.drawn ≤ W'.drawn) (h4 : W'.output = W.output) (h5 : W.heap.size ≤ W'.heap.size) (h6 : ∀ k, k < W.heap.size → W'.heap[k]? = W.heap[k]?) : ∃ q os, W' = Go.Sort.grow (W.drewN q) os := by
  refine ⟨W'.drawn - W.drawn, W'.heap.extract W.heap.size W'.heap.size, ?_⟩
  have hh : W'.heap = W.heap ++ W'.heap.extract W.heap.size W'.heap.size := by
    apply Array.ext_getElem?
    intro k
    rw [Array.getElem?_append]
    split
    · exact h6 k ‹_›
    · rw [Array.getElem?_extract]
      split
      · congr 1; omega
      · rw [Array.getElem?_eq_none (by omega)]
  obtain ⟨heap, tape, drawn, os, output⟩ := W
  obtain ⟨heap', tape', drawn', os', output'⟩ := W'
  dsimp only at h1 h2 h3 h4 hh
  subst h1 h2 h4
  unfold Go.Sort.grow World.drewN
  dsimp only
  rw [← hh]
  congr 1
  omega
section
variable {α : Type}
/-- An element of the row: its cell, and what the cell shows. -/
abbrev Shw (w : World) (A : Nat → Prop) (g0 : α → I) := {x : Value × α // RelI w A (g0 x.2) x.1}
theorem perm_unique {le : α → α → Bool} (hanti : ∀ a b, le a b = true → le b a = true → a = b) : ∀ {l m : List α}, l.Pairwise (fun a b => le a b = true) → m.Pairwise (fun a b => le a b = true) → l.Perm m → l = m
  | [], m, _, _, hp => (List.nil_perm.1 hp).symm
  | a :: l, [], _, _, hp => absurd hp.length_eq (by simp)
  | a :: l, b :: m, hl, hm, hp => by
    obtain ⟨l1, l2⟩ := List.pairwise_cons.1 hl
    obtain ⟨m1, m2⟩ := List.pairwise_cons.1 hm
    have hab : a = b := by
      rcases List.mem_cons.1 (hp.subset (List.mem_cons_self ..)) with e | e
      · exact e
      · rcases List.mem_cons.1 (hp.symm.subset (List.mem_cons_self ..)) with e' | e'
        · exact e'.symm
        · exact hanti a b (l1 b e') (m1 a e)
    subst hab
    rw [perm_unique hanti l2 m2 ((List.perm_cons a).1 hp)]
theorem sortF_fn {P : Program} {f g : FuncId} (hf : fnFacts P f) (hgn : fnFacts P g) {g0 : α → I} {cf : α → α → Int} (hO : SWO (Go.Proofs.ltOf cf)) (hT : ∀ a b, ¬ cf a b < 0 → ¬ cf b a < 0 → a = b)
    (hg : ∀ a b, PureOk P g [.c (.imm (g0 a)), .c (.imm (g0 b))] (.c (int (cf a b))))
    (hC : ∀ (β : Type) [Inhabited β] (enc : β → Value), Go.Proofs.OneCell enc → ∀ (cf : β → β → Int), SWO (Go.Proofs.ltOf cf) → ∀ (g : Nat) (cb : Array Value) (blk off cap : Nat) (d : Array β) (w : World), (∀ args w, (callFunc g args).run P w = .ok (.enter g args) w) → Go.Proofs.CmpLays1 P g cb enc cf blk off d.size w → Holds enc w blk off d → blk < w.heap.size → d.size < 4611686018427387904 →
      Calls P f #[.slice (some ⟨blk, off, none⟩) d.size cap, .func (.func g) #[] cb] w fun e w' => e = .returned (.tuple #[]) ∧ ∃ d' n os, PermIn 0 d.size d d' ∧ SortedIn (Go.Proofs.ltOf cf) 0 d.size d' ∧ w' = Go.Proofs.sortWorld enc w blk off n d' os)
    (hC0 : ∀ (p : Option Addr) (cap : Nat) (fv : Value) (w : World), Calls P f #[.slice p 0 cap, fv] w fun e w' => e = .returned (.tuple #[]) ∧ w' = w)
    {σ : Store} {id : Id} {l : List α} (hσ : σ[id]? = some (some (vec 1 (fun a => [g0 a]) l))) (hl : l.length < 4611686018427387904) :
    FnOk P f [.c (.own id 0 l.length), .c (.fn g [])] σ fun r σ' => r = .tup [] ∧ σ'.length = σ.length ∧ ∀ i : Id, σ'[i]? = (σ.put id (some (vec 1 (fun a => [g0 a]) (l.mergeSort fun x y => decide (¬ cf y x < 0)))))[i]? := by
  refine ⟨hf, fun Γ vs hΓ hG hlen hrel => ?_⟩
  subst hΓ
  match vs, hlen with
  | [u, fv], _ =>
  have hu := own_inv (hrel 0 _ u rfl rfl) hσ
  have hfv : fv = .func (.func g) #[] #[] := by
    have h := hrel 1 _ fv rfl rfl
    cases h with | c h => cases h with | fn us hr => rfl
  subst hfv
  have tupR : ∀ {w φ σ A}, RelT w φ σ A (.tup []) (.tuple #[]) := fun {w φ σ A} => RelT.tup (ts := []) (fun _ => undef) fun i t h => by simp at h
  have vlen : ∀ {m : List α}, ((m.map fun a => [g0 a]).map (·.map C.imm)).length = m.length := by simp
  rw [vlen] at hu
  have empty : ∀ (p : Option Addr) (cap : Nat), l = [] → Calls P f #[.slice p 0 cap, .func (.func g) #[] #[]] Γ.w0 fun e w' => ∃ v r σ' φ', e = .returned v ∧ (r = .tup [] ∧ σ'.length = Γ.σ0.length ∧ ∀ i : Id, σ'[i]? = (Γ.σ0.put id (some (vec 1 (fun a => [g0 a]) (l.mergeSort fun x y => decide (¬ cf y x < 0)))))[i]?) ∧ RelT w' φ' σ' (Al Γ.N φ' σ') r v ∧ Rs Γ σ' φ' w' := fun p cap he => by
    refine (hC0 p cap _ Γ.w0).mono ?_
    rintro e w' ⟨rfl, rfl⟩
    refine ⟨_, .tup [], Γ.σ0, Γ.φ0, rfl, ⟨rfl, rfl, fun i => ?_⟩, tupR, Rs.refl hG⟩
    have : (l.mergeSort fun x y => decide (¬ cf y x < 0)) = l := by rw [he]; simp
    rw [this]
    by_cases hi : i = id
    · rw [hi, Store.get_put_eq hσ, hσ]
    · rw [Store.get_put_ne hi]
  rcases hu with ⟨_, hv, _, h0⟩ | ⟨b, base, cap, arr, ety, a, hp, hv, ha, hcap, hmax, hjn, hbk, hsz⟩
  · have he : l = [] := List.eq_nil_of_length_eq_zero (by omega)
    rw [hv]
    exact empty none 0 he
  · rw [hv]
    by_cases hc0 : 0 < cap
    · have := ha hc0
      subst this
      simp only [Nat.zero_mul, Nat.add_zero]
      have hR := Rs.refl hG
      rcases hR.st.blk _ _ hσ with ⟨h1, _⟩ | ⟨b', base', arr2, ety2, h1, h2, h3, h4, h5⟩
      · rw [hp] at h1; cases h1
      · rw [hp] at h1; cases h1
        rw [hbk] at h2; cases h2
        rw [vlen] at h3
        have hblk := (Array.getElem?_eq_some_iff.1 hbk).1
        have hAne : ∀ k, Al Γ.N Γ.φ0 Γ.σ0 k → k ≠ b := fun k hk e => by subst e; exact hk.2 id _ base hσ hp
        -- the elements
        obtain ⟨ds, d1, d2⟩ := ex_list (p := fun j (x : Shw Γ.w0 (Al Γ.N Γ.φ0 Γ.σ0) g0) => arr[base + j]? = some x.1.1 ∧ l[j]? = some x.1.2) l.length fun j hj => by
          obtain ⟨u, hu1, hu2⟩ := h5 j _ 0 (.imm (g0 l[j])) (by simp [hj]; rfl) rfl
          cases hu2 with | imm hu2 => exact ⟨⟨(u, l[j]), hu2⟩, by simpa using hu1, by simp [hj]⟩
        have dl : ds.map (fun x => x.1.2) = l := by
          refine List.ext_getElem? fun j => ?_
          rw [List.getElem?_map]
          by_cases hj : j < l.length
          · obtain ⟨x, hx⟩ : ∃ x, ds[j]? = some x := ⟨ds[j], by simp [d1, hj]⟩
            rw [hx, (d2 j x hx).2]; rfl
          · rw [List.getElem?_eq_none (by omega), List.getElem?_eq_none (by omega)]; rfl
        by_cases hl0 : l = []
        · have hl1 : l.length = 0 := by rw [hl0]; rfl
          rw [hl1]
          exact empty _ cap hl0
        · obtain ⟨x0, hx0⟩ : ∃ x, ds[0]? = some x := by
            have : 0 < ds.length := by rw [d1]; exact List.length_pos_iff.2 hl0
            exact ⟨ds[0], by simp [this]⟩
          letI : Inhabited (Shw Γ.w0 (Al Γ.N Γ.φ0 Γ.σ0) g0) := ⟨x0⟩
          have hH : Holds (fun x : Shw Γ.w0 (Al Γ.N Γ.φ0 Γ.σ0) g0 => x.1.1) Γ.w0 b base ds.toArray := by
            intro j hj
            have hjl : j < ds.length := by simpa using hj
            refine ⟨?_, by simp [World.frozen?, hbk]⟩
            rw [World.cell?]
            simp only [hbk]
            rw [(d2 j ds[j] (by simp [hjl])).1]
            simp [hjl]
          have hcmp : Go.Proofs.CmpLays1 P g #[] (fun x : Shw Γ.w0 (Al Γ.N Γ.φ0 Γ.σ0) g0 => x.1.1) (fun x y => cf x.1.2 y.1.2) b base ds.toArray.size Γ.w0 := by
            intro m os dk hdk x y
            have hW : ∀ k, Al Γ.N Γ.φ0 Γ.σ0 k → k < Γ.w0.heap.size → (Go.Proofs.sortWorld (fun x : Shw Γ.w0 (Al Γ.N Γ.φ0 Γ.σ0) g0 => x.1.1) Γ.w0 b base m dk os).heap[k]? = Γ.w0.heap[k]? := fun k hk hlt => by
              unfold Go.Proofs.sortWorld
              rw [heap_grow_old _ os (by rw [putRow_size]; exact hlt), putRow_other _ _ _ _ _ (hAne k hk)]; rfl
            have gd : ∀ W : World, Good ⟨W, fun _ => False, fun _ => none, []⟩ := fun W => ⟨⟨fun i b h => by simp at h, fun i j bi bj p q h => by simp at h⟩, fun b h => h.elim, fun i blk b base h => by simp at h⟩
            have rel : ∀ z : Shw Γ.w0 (Al Γ.N Γ.φ0 Γ.σ0) g0, RelT (Go.Proofs.sortWorld (fun x : Shw Γ.w0 (Al Γ.N Γ.φ0 Γ.σ0) g0 => x.1.1) Γ.w0 b base m dk os) (fun _ => none) [] (Al (fun _ => False) (fun _ => none) []) (.c (.imm (g0 z.1.2))) z.1.1 := fun z =>
              .c (.imm (z.2.mono hW fun k _ _ => ⟨_root_.id, fun i blk base h => by simp at h⟩))
            refine ((hg x.1.2 y.1.2).run ⟨Go.Proofs.sortWorld (fun x : Shw Γ.w0 (Al Γ.N Γ.φ0 Γ.σ0) g0 => x.1.1) Γ.w0 b base m dk os, fun _ => False, fun _ => none, []⟩ [x.1.1, y.1.1] rfl (gd _) rfl (fun i t v hi hv => ?_)).mono ?_
            · match i with
              | 0 => cases hi; cases hv; exact rel x
              | 1 => cases hi; cases hv; exact rel y
              | i + 2 => simp at hi
            · rintro e w' ⟨v, r, σ', φ', rfl, rfl, hr, hs⟩
              refine ⟨?_, grow_of hs.os hs.tape hs.drawn hs.output hs.size fun k hk => hs.block k ⟨hk, fun i blk base h => by simp at h⟩⟩
              cases hr with | c hr => cases hr with | imm hr => cases hr with | val => rfl
          obtain ⟨gf, gf1, gf2, gf3⟩ := hgn
          have hszd : ds.toArray.size = l.length := by simp [d1]
          have key := hC _ (fun x : Shw Γ.w0 (Al Γ.N Γ.φ0 Γ.σ0) g0 => x.1.1) (fun x => x.2.one) (fun x y => cf x.1.2 y.1.2) ⟨fun x => hO.irrefl x.1.2, fun x y z => hO.trans x.1.2 y.1.2 z.1.2, fun x y z => hO.ntrans x.1.2 y.1.2 z.1.2⟩ g #[] b base cap ds.toArray Γ.w0 (fun args w => by
            have h2' : ¬ gf.name = "runtime.NumGoroutine" := by simpa using gf2
            have h3' : ¬ gf.body = none := fun e => by rw [e] at gf3; cases gf3
            simp [callFunc, gf1, h2', h3']) hcmp hH hblk (by rw [hszd]; exact hl)
          rw [hszd] at key
          refine key.mono ?_
          rintro e w' ⟨rfl, d', n, os, hperm, hsort, rfl⟩
          obtain ⟨p1, _, p3⟩ := hperm
          have dsz : d'.size = l.length := by rw [p1]; simp [d1]
          have e1 : d'.toList.Perm ds := by
            have a1 : d'.extract 0 l.length = d' := by rw [← dsz]; simp
            have a2 : ds.toArray.extract 0 l.length = ds.toArray := by rw [← hszd]; simp
            rw [a1, a2] at p3
            simpa using p3
          have e2 : (d'.toList.map fun x => x.1.2) = l.mergeSort fun x y => decide (¬ cf y x < 0) := by
            refine perm_unique (le := fun x y => decide (¬ cf y x < 0)) (fun a b h1 h2 => ?_) ?_ ?_ ?_
            · simp only [decide_eq_true_eq] at h1 h2
              exact hT a b h2 h1
            · rw [List.pairwise_map, List.pairwise_iff_getElem]
              intro i j hi hj hij
              have hj' : j < d'.size := by simpa using hj
              have := hsort i j (by omega) hij (by rw [← dsz]; exact hj')
              rw [getElem!_pos d' j hj', getElem!_pos d' i (by omega)] at this
              simpa [Go.Proofs.ltOf] using this
            · refine List.pairwise_mergeSort (fun a b c h1 h2 => ?_) (fun a b => ?_) l
              · simp only [decide_eq_true_eq] at h1 h2 ⊢
                have := hO.ntrans c b a (by simpa [Go.Proofs.ltOf] using h2) (by simpa [Go.Proofs.ltOf] using h1)
                simpa [Go.Proofs.ltOf] using this
              · simp only [Bool.or_eq_true, decide_eq_true_eq]
                rcases Int.lt_or_le (cf b a) 0 with h | h
                · right
                  intro h'
                  have := hO.trans a b a (by simpa [Go.Proofs.ltOf] using h') (by simpa [Go.Proofs.ltOf] using h)
                  rw [hO.irrefl] at this; cases this
                · left; omega
            · exact ((e1.map _).trans (by rw [dl])).trans (List.mergeSort_perm ..).symm
          rw [← e2]
          have hW := Rs.write (k := 1) (es' := ((d'.toList.map fun x => x.1.2).map fun a => [g0 a]).map (·.map C.imm)) (arr' := putCells (fun x : Shw Γ.w0 (Al Γ.N Γ.φ0 Γ.σ0) g0 => x.1.1) base d' arr) hR hσ hp hbk (by rw [vlen, vlen]; simp [dsz]) putCellsG_size (fun j e he => by
              simp only [List.map_map, List.getElem?_map, Option.map_eq_some_iff] at he
              obtain ⟨a, _, rfl⟩ := he; rfl) (by rw [vlen]; omega) (fun j e o x he hx => by
              simp only [List.map_map, List.getElem?_map, Option.map_eq_some_iff] at he
              obtain ⟨z, hz, rfl⟩ := he
              match o with
              | 0 =>
                cases hx
                have := putCellsG_get (enc := fun x : Shw Γ.w0 (Al Γ.N Γ.φ0 Γ.σ0) g0 => x.1.1) (off := base) (d := d'.toList) (arr := arr) (by simp [dsz]; omega) hz
                exact ⟨_, by simpa using this, .imm z.2⟩
              | o + 1 => simp at hx)
          unfold Go.Proofs.sortWorld
          rw [putRowG_ahead, putRowG_setRow hbk]
          refine ⟨_, .tup [], _, Γ.φ0, rfl, ⟨rfl, ?_, fun i => rfl⟩, tupR, (hW.2.ahead n).grow os⟩
          rw [Store.length_put]
    · have he : l = [] := List.eq_nil_of_length_eq_zero (by omega)
      have hl0 : l.length = 0 := by rw [he]; rfl
      rw [hl0]
      exact empty (some a) cap he
end
end Ab
end
section
namespace Ab
open Go
/-- A view lies within its row. -/
def vw {α : Type} (l : List α) (off len : Int) : Option Unit := if 0 ≤ off ∧ 0 ≤ len ∧ off + len ≤ l.length then some () else none
/-- A part lies within a view. -/
def cutV (len lo hi : Int) : Option Unit := if 0 ≤ lo ∧ lo ≤ hi ∧ hi ≤ len then some () else none
/-- The element at a place of a view. -/
def ixV {α : Type} (l : List α) (off len i : Int) : Option α := if 0 ≤ off ∧ 0 ≤ i ∧ i < len ∧ off + len ≤ l.length then ix l (off + i) else none
/-- What a view shows. -/
def viewL {α : Type} (l : List α) (off len : Int) : List α := (l.drop off.toNat).take len.toNat
/-- A view cleared. -/
def clrL {α : Type} (l : List α) (off len : Int) (z : α) : List α := l.take off.toNat ++ List.replicate len.toNat z ++ l.drop (off.toNat + len.toNat)
theorem vw_get {α : Type} {l : List α} {off len : Int} {u : Unit} (h : vw l off len = some u) : 0 ≤ off ∧ 0 ≤ len ∧ off + len ≤ l.length := by
  unfold vw at h
  split at h
  · assumption
  · cases h
theorem cutV_get {len lo hi : Int} {u : Unit} (h : cutV len lo hi = some u) : 0 ≤ lo ∧ lo ≤ hi ∧ hi ≤ len := by
  unfold cutV at h
  split at h
  · assumption
  · cases h
theorem ixV_get {α : Type} {l : List α} {off len i : Int} {a : α} (h : ixV l off len i = some a) : (0 ≤ off ∧ 0 ≤ i ∧ i < len ∧ off + len ≤ l.length) ∧ ix l (off + i) = some a := by
  unfold ixV at h
  split at h
  · exact ⟨‹_›, h⟩
  · cases h
theorem ixV_ix {α : Type} {l : List α} {off len i : Int} {a : α} (h : ixV l off len i = some a) : ix l (off + i) = some a := (ixV_get h).2
theorem viewL_len {α : Type} {l : List α} {off len : Int} {u : Unit} (h : vw l off len = some u) : (viewL l off len).length = len.toNat := by
  have := vw_get h
  simp [viewL]; omega
section
variable {α : Type} {f : α → List I} {l : List α} {P : Program} {σ0 : Store} {sz : Nat} {Q : Post} {env env' : Env} {σv σ' : Store} {ops : Array Oper} {rest : List Oper} {dst : Option Nat} {ty : TypeId} {pos : String} {after : Array Edge} {id : Id} {k : Nat}
theorem S.lenV {x : Operand} {t e : TypeId} {n : Int} {j : Nat} [ht : TyD P t (.slice e)] (hn : 0 ≤ n) (hx : ev env x = some (.c (.own id j n.toNat))) (hσ : σv[id]? = some (some (vec k f l))) (hd : dstOk sz dst = true)
    (h : n ≤ 9223372036854775807 → AOps P σ0 sz ops Q rest (St.mk (putE env dst (.c (int n))) σv)) : AOps P σ0 sz ops Q (⟨dst, .call ⟨.builtin .len, #[x], #[t]⟩, ty, pos, after, none⟩ :: rest) (St.mk env σv) :=
  AOps.lenOwnB hx hσ hd fun hb => by
    have e1 : ((n.toNat : Nat) : Int) = n := by omega
    rw [e1]
    exact h (by omega)
theorem S.idxV {x y : Operand} {t e : TypeId} {bytes : Nat} {z : Value} {kk : IntKind} {off len i : Int} {a : α} [ht : TyD P t (.slice e)] [hs : TyS P e k bytes z]
    (he : ixV l off len i = some a) (hx : ev env x = some (.c (.own id off.toNat len.toNat))) (hσ : σv[id]? = some (some (vec k f l))) (hy : ev env y = some (.c (.imm (.val (.int kk i))))) (hd : dstOk sz dst = true)
    (h : AOps P σ0 sz ops Q rest (St.mk (putE env dst (.c (.ptr id (off + i).toNat 0))) σv)) : AOps P σ0 sz ops Q (⟨dst, .indexAddr t x y, ty, pos, after, none⟩ :: rest) (St.mk env σv) := by
  obtain ⟨⟨h1, h2, h3, h4⟩, _⟩ := ixV_get he
  refine .indexAddrOwn hx hσ hy (by omega) hd ?_
  rw [show off.toNat + i.toNat = (off + i).toNat by omega]
  exact h
/-- x[lo:] of a view; a whole row is the view from 0. -/
theorem S.vFrom {x y : Operand} {t e : TypeId} {bytes : Nat} {z : Value} {kk : IntKind} {off len lo : Int} {j n : Nat} {u u' : Unit} [ht : TyD P t (.slice e)] [hs : TyS P e k bytes z]
    (hv : vw l off len = some u) (hc : cutV len lo len = some u') (hx : ev env x = some (.c (.own id j n))) (hj : j = off.toNat) (hn : n = len.toNat) (hσ : σv[id]? = some (some (vec k f l))) (hy : ev env y = some (.c (.imm (.val (.int kk lo))))) (hd : dstOk sz dst = true)
    (h : AOps P σ0 sz ops Q rest (St.mk (putE env dst (.c (.own id (off + lo).toNat (len - lo).toNat))) σv)) : AOps P σ0 sz ops Q (⟨dst, .slice t x (some y) none none, ty, pos, after, none⟩ :: rest) (St.mk env σv) := by
  have h1 := vw_get hv; have h2 := cutV_get hc
  subst hj hn
  have e1 : lo = ((lo.toNat : Nat) : Int) := by omega
  rw [e1] at hy
  refine AOps.sliceOwnFrom hx hσ hy (by omega) hd ?_
  rw [show off.toNat + lo.toNat = (off + lo).toNat by omega, show len.toNat - lo.toNat = (len - lo).toNat by omega]
  exact h
theorem S.vTo {x y : Operand} {t e : TypeId} {bytes : Nat} {z : Value} {kk : IntKind} {off len hi : Int} {j n : Nat} {u u' : Unit} [ht : TyD P t (.slice e)] [hs : TyS P e k bytes z]
    (hv : vw l off len = some u) (hc : cutV len 0 hi = some u') (hx : ev env x = some (.c (.own id j n))) (hj : j = off.toNat) (hn : n = len.toNat) (hσ : σv[id]? = some (some (vec k f l))) (hy : ev env y = some (.c (.imm (.val (.int kk hi))))) (hd : dstOk sz dst = true)
    (h : AOps P σ0 sz ops Q rest (St.mk (putE env dst (.c (.own id off.toNat hi.toNat))) σv)) : AOps P σ0 sz ops Q (⟨dst, .slice t x none (some y) none, ty, pos, after, none⟩ :: rest) (St.mk env σv) := by
  have h1 := vw_get hv; have h2 := cutV_get hc
  subst hj hn
  have e1 : hi = ((hi.toNat : Nat) : Int) := by omega
  rw [e1] at hy
  exact AOps.sliceOwnTo hx hσ hy (by omega) hd h
theorem S.v3 {x y y' : Operand} {t e : TypeId} {bytes : Nat} {z : Value} {kk kk' : IntKind} {off len lo hi : Int} {j n : Nat} {u u' : Unit} [ht : TyD P t (.slice e)] [hs : TyS P e k bytes z]
    (hv : vw l off len = some u) (hc : cutV len lo hi = some u') (hx : ev env x = some (.c (.own id j n))) (hj : j = off.toNat) (hn : n = len.toNat) (hσ : σv[id]? = some (some (vec k f l))) (hy : ev env y = some (.c (.imm (.val (.int kk lo))))) (hy' : ev env y' = some (.c (.imm (.val (.int kk' hi))))) (hd : dstOk sz dst = true)
    (h : AOps P σ0 sz ops Q rest (St.mk (putE env dst (.c (.own id (off + lo).toNat (hi - lo).toNat))) σv)) : AOps P σ0 sz ops Q (⟨dst, .slice t x (some y) (some y') none, ty, pos, after, none⟩ :: rest) (St.mk env σv) := by
  have h1 := vw_get hv; have h2 := cutV_get hc
  subst hj hn
  refine AOps.sliceOwn hx hσ hy hy' (by omega) hd ?_
  rw [show off.toNat + lo.toNat = (off + lo).toNat by omega, show hi.toNat - lo.toNat = (hi - lo).toNat by omega]
  exact h
/-- The entries of an environment in which slot t shows a row of its own. -/
def ReE (env : Env) (t : Nat) (c' : C) : Env → Prop
  | [] => True
  | (t', v) :: r => (t' = t ∧ v = .c c' ∨ lookup t' env = some v) ∧ ReE env t c' r
theorem ReE.get {t : Nat} {c' : C} : ∀ {env' : Env}, ReE env t c' env' → ∀ t' v, lookup t' env' = some v → t' = t ∧ v = .c c' ∨ lookup t' env = some v
  | [], _, t, v, h => by simp [lookup] at h
  | (k, x) :: r, ⟨h1, h2⟩, t', v, h => by
    simp only [lookup] at h
    split at h
    · cases h
      rename_i e
      have : k = t' := by simpa using e
      subst this
      exact h1
    · exact ReE.get h2 t' v h
theorem Sub.reown {off len : Int} {j n : Nat} {n' : Id} {σ1 : Store} {u : Unit} (t : Nat) (hv : vw l off len = some u) (hx : lookup t env = some (.c (.own id j n))) (hj : j = off.toNat) (hn : n = len.toNat) (hσ : σv[id]? = some (some (vec k f l))) (h0 : Nat.ble σ0.length id.1 = true) (hid : newF σv = some n')
    (h1 : putF σv id none = some σ1) (hσ' : snocF σ1 (.one (vec k f (viewL l off len))) = some σ') (henv : ReE env t (.own n' 0 (viewL l off len).length) env') : Sub σ0 ⟨env, σv⟩ ⟨env', σ'⟩ := fun Γ sz φ a w hΓ hR => by
  have h2 := putF_get h1
  have h3 := newF_eq hid; have h4 := snocF_eq hσ'
  have hvl := viewL_len hv
  have hvg := vw_get hv
  subst hj hn h2 h3 h4
  have hidl := Store.lt_of hσ
  have at_new : (σv.put id none ++ [.one (vec k f (viewL l off len))])[((σv.length, []) : Id)]? = some (some (vec k f (viewL l off len))) := by
    rw [Store.get_right (by simp)]; simp; rfl
  obtain ⟨u0, hu0, hrel⟩ := hR.env t _ hx
  have ho := own_inv hrel hσ
  have fin : ∀ (φ' : Phi) (hk : Kept w w φ φ' σv (σv.put id none ++ [.one (vec k f (viewL l off len))]) (Al Γ.N φ σv) (Al Γ.N φ' (σv.put id none ++ [.one (vec k f (viewL l off len))]))) (hs : Rs Γ (σv.put id none ++ [.one (vec k f (viewL l off len))]) φ' w) (hview : OwnView w (φ' (σv.length, [])) k (viewL l off len).length 0 (viewL l off len).length u0),
      R Γ sz ⟨env', σv.put id none ++ [.one (vec k f (viewL l off len))]⟩ φ' a w := fun φ' hk hs hview => by
    have hR1 := hR.of hk hs
    refine { toRs := hs, defers := hR.defers, asize := hR.asize, env := fun t' v' ht' => ?_ }
    rcases henv.get t' v' ht' with ⟨rfl, rfl⟩ | h
    · refine ⟨u0, hu0, .c (.own (by simp) (by cases hrel with | c g2 => exact g2.one) fun k' es' he => ?_)⟩
      rw [at_new] at he
      cases he
      simpa using hview
    · obtain ⟨u1, g1, g2⟩ := hR1.env t' v' h
      exact ⟨u1, g1, g2⟩
  rcases ho with ⟨p1, p2, p3, p4⟩ | ⟨b, base, cap, arr, ety, ad, hp, hvv, had, hcap, hmax, hjn, hbk, hsz⟩
  · have hnil : viewL l off len = [] := List.eq_nil_of_length_eq_zero (by rw [hvl, p4])
    have hK := hR.toRs.kill id
    have hV := hK.2.virt k
    have e1 : σv.put id none ++ [.one (vec k f (viewL l off len))] = σv.put id none ++ [.one (.cells k [])] := by rw [hnil]; rfl
    rw [Store.length_put] at hV
    refine ⟨fun i => if i = (σv.length, []) then none else φ i, ?_⟩
    have := fin (fun i => if i = (σv.length, []) then none else φ i) (by rw [e1]; exact Kept.trans (Nat.le_refl _) hK.1 hV.1) (by rw [e1]; exact hV.2) (.inl ⟨by simp, p2, rfl, by rw [hnil]; rfl⟩)
    exact this
  · obtain ⟨arr2, ety2, q1, q2, q3, q4⟩ := own_cells hR hσ hp
    rw [hbk] at q1; cases q1
    have hO := Rs.reown (k := k) (base' := base + off.toNat * k) (es' := ((viewL l off len).map f).map (·.map C.imm)) (arr' := arr) hR.toRs hσ hp hbk (fun j e he => by
        have : ((viewL l off len).map f).map (·.map C.imm) = ((((l.map f).map (·.map C.imm)).drop off.toNat).take len.toNat) := by simp [viewL, List.map_drop, List.map_take]
        rw [this, List.getElem?_take] at he
        split at he
        · rw [List.getElem?_drop] at he
          exact q3 _ e he
        · cases he) (by
        simp only [List.length_map, hvl]
        have : (off.toNat + cap) * k = off.toNat * k + cap * k := Nat.add_mul ..
        have : len.toNat * k ≤ cap * k := Nat.mul_le_mul_right k hcap
        omega) (fun j e o x he hx => by
        have : ((viewL l off len).map f).map (·.map C.imm) = ((((l.map f).map (·.map C.imm)).drop off.toNat).take len.toNat) := by simp [viewL, List.map_drop, List.map_take]
        rw [this, List.getElem?_take] at he
        split at he
        · rw [List.getElem?_drop] at he
          obtain ⟨u2, g1, g2⟩ := q4 _ e o x he hx
          refine ⟨u2, ?_, g2⟩
          rw [← g1, Nat.add_mul]
          congr 1; omega
        · cases he)
    rw [Go.setRow_self w b arr ety (0, 0) hbk] at hO
    refine ⟨fun i => if i = (σv.length, []) then some (b, base + off.toNat * k) else φ i, ?_⟩
    refine fin _ hO.1 hO.2 (.inr ⟨b, base + off.toNat * k, cap, arr, ety, ad, by simp, ?_, fun hc => ?_, ?_, hmax, by omega, hbk, ?_⟩)
    · rw [hvv, hvl]
    · rw [had hc, Nat.zero_mul, Nat.add_zero]
    · rw [hvl]; exact hcap
    · have : (off.toNat + cap) * k = off.toNat * k + cap * k := Nat.add_mul ..
      rw [Nat.zero_add]; omega
theorem AWP.reown {c : Code} {off len : Int} {j n : Nat} {n' : Id} {σ1 : Store} {u : Unit} (t : Nat) (hv : vw l off len = some u) (hx : lookup t env = some (.c (.own id j n))) (hj : j = off.toNat) (hn : n = len.toNat) (hσ : σv[id]? = some (some (vec k f l))) (h0 : Nat.ble σ0.length id.1 = true) (hid : newF σv = some n')
    (h1 : putF σv id none = some σ1) (hσ' : snocF σ1 (.one (vec k f (viewL l off len))) = some σ') (henv : ReE env t (.own n' 0 (viewL l off len).length) env') (h : AWP P σ0 sz c Q ⟨env', σ'⟩) : AWP P σ0 sz c Q ⟨env, σv⟩ :=
  AWP.sub (Sub.reown t hv hx hj hn hσ h0 hid h1 hσ' henv) h
theorem zeroCells_one {v : Value} (n : Nat) : (Builtin.zeroCells #[v] n).toList = List.replicate n v := by
  refine List.ext_getElem? fun i => ?_
  simp only [Builtin.zeroCells, Array.toList_map, List.getElem?_map, List.getElem?_replicate]
  by_cases h : i < n
  · have : (Array.range (n * (#[v] : Array Value).size)).toList[i]? = some i := by simp [h]
    rw [this, if_pos h]
    simp [Nat.mod_one]
  · have : (Array.range (n * (#[v] : Array Value).size)).toList[i]? = none := by simp; omega
    rw [this, if_neg h]; rfl
/-- clear(x), x a view of cells of one place. -/
theorem S.clear {x : Operand} {t e : TypeId} {bytes : Nat} {z : Value} {off len : Int} {j n : Nat} {u : Unit} {a0 : α} {c0 : C} [ht : TyD P t (.slice e)] [hs : TyS P e 1 bytes z] (hz1 : z.cells = #[z]) (hzc : z.oneCell' = true)
    (hf : (f a0).map C.imm = [c0]) (hrel : ∀ w φ σ A, RelC w φ σ A c0 z)
    (hv : vw l off len = some u) (hx : ev env x = some (.c (.own id j n))) (hj : j = off.toNat) (hn : n = len.toNat) (hσ : σv[id]? = some (some (vec 1 f l))) (hσ' : putF σv id (some (vec 1 f (clrL l off len a0))) = some σ')
    (h : AOps P σ0 sz ops Q rest (St.mk env σ')) : AOps P σ0 sz ops Q (⟨none, .call ⟨.builtin .clear, #[x], #[t]⟩, ty, pos, after, none⟩ :: rest) (St.mk env σv) := by
  have hvg := vw_get hv
  have h2 := putF_get hσ'
  subst hj hn h2
  refine .valueW rfl rfl (.tup []) (σv.put id (some (vec 1 f (clrL l off len a0)))) (fun Γ φ a w hR => ?_) h
  have tupR : ∀ {w φ σ A}, RelT w φ σ A (.tup []) (.tuple #[]) := fun {w φ σ A} => RelT.tup (ts := []) (fun _ => undef) fun i t h => by simp at h
  have ho := own_inv (ev_rel hR hx) hσ
  have clen : (clrL l off len a0).length = l.length := by simp [clrL]; omega
  have nothing : len.toNat = 0 → clrL l off len a0 = l := fun e => by simp [clrL, e]
  have same : len.toNat = 0 → (execOp a.eval ⟨none, .call ⟨.builtin .clear, #[x], #[t]⟩, ty, pos, after, none⟩).run P w = .ok (.value (.tuple #[])) w → ∃ u w' φ', (execOp a.eval ⟨none, .call ⟨.builtin .clear, #[x], #[t]⟩, ty, pos, after, none⟩).run P w = .ok (.value u) w' ∧ RelT w' φ' (σv.put id (some (vec 1 f (clrL l off len a0)))) (Al Γ.N φ' (σv.put id (some (vec 1 f (clrL l off len a0))))) (.tup []) u ∧ R Γ sz ⟨env, σv.put id (some (vec 1 f (clrL l off len a0)))⟩ φ' a w' := fun e0 hrun => by
    rw [nothing e0]
    have hsub := Sub.blk (σ0 := Γ.σ0) (env := env) (id := id) (k := 1) (es := (l.map f).map (·.map C.imm)) (es' := (l.map f).map (·.map C.imm)) hσ rfl (fun i e' he => by
      rcases hR.st.blk _ _ hσ with ⟨_, g2⟩ | ⟨_, _, _, _, _, _, _, g4, _⟩
      · rw [g2] at he; simp at he
      · exact g4 i e' he) (fun i e' o x' he hx' => ⟨e', x', he, hx', fun _ _ _ _ _ hr => hr⟩)
    obtain ⟨φ', hR'⟩ := hsub Γ sz φ a w rfl hR
    exact ⟨_, w, φ', hrun, tupR, hR'⟩
  rcases ho with ⟨p1, p2, p3, p4⟩ | ⟨b, base, cap, arr, ety, ad, hp, hvv, had, hcap, hmax, hjn, hbk, hsz⟩
  · exact same p4 (by simp [execOp, resolve, invoke, builtin, p2, Builtin.clear_, run_underlying ht.h])
  · by_cases e0 : len.toNat = 0
    · refine same e0 ?_
      rw [e0] at hvv
      simp [execOp, resolve, invoke, builtin, hvv, Builtin.clear_, run_underlying ht.h]
    · have hc0 : 0 < cap := by omega
      have := had hc0
      subst this
      obtain ⟨arr2, ety2, q1, q2, q3, q4⟩ := own_cells hR hσ hp
      rw [hbk] at q1; cases q1
      simp only [List.length_map] at q2 hjn
      have hst := run_storeCells_at P b (base + off.toNat * 1) ety (List.replicate len.toNat z) 0 arr w hbk (by simp; omega) (fun v hv => by rw [List.eq_of_mem_replicate hv]; exact hzc)
      simp only [Nat.add_zero, Nat.mul_one, List.length_replicate] at hst
      have hl1 : ∀ b : α, ((f b).map C.imm).length = (f b).length := fun b => by simp
      have hW := Rs.write (k := 1) (es' := ((clrL l off len a0).map f).map (·.map C.imm)) (arr' := (arr.toList.take (base + off.toNat) ++ List.replicate len.toNat z ++ arr.toList.drop (base + off.toNat + len.toNat)).toArray) hR.toRs hσ hp hbk (by simp [clen]) (by simp; omega) (fun i e' he => by
          simp only [List.map_map, List.getElem?_map, Option.map_eq_some_iff] at he
          obtain ⟨y, hy, rfl⟩ := he
          by_cases hyl : y ∈ l
          · obtain ⟨i', hi'⟩ := List.getElem?_of_mem hyl
            exact q3 i' _ (by simp [hi'])
          · have hy := List.mem_of_getElem? hy
            simp only [clrL, List.mem_append] at hy
            rcases hy with (hy | hy) | hy
            · exact absurd (List.mem_of_mem_take hy) hyl
            · rw [List.eq_of_mem_replicate hy]
              simp only [Function.comp_apply, hf]; rfl
            · exact absurd (List.mem_of_mem_drop hy) hyl) (by simp; omega) (fun i e' o x' he hx' => by
          simp only [List.map_map, List.getElem?_map, Option.map_eq_some_iff, Function.comp_apply] at he
          obtain ⟨y, hy, rfl⟩ := he
          simp only [List.getElem?_toArray]
          have hsp := getElem?_splice arr.toList (List.replicate len.toNat z) (base + off.toNat) (base + (i * 1 + o)) (by simp; omega)
          simp only [List.length_replicate] at hsp
          rw [hsp]
          have hy' : (clrL l off len a0)[i]? = if off.toNat ≤ i ∧ i < off.toNat + len.toNat then some a0 else l[i]? := by
            have := getElem?_splice l (List.replicate len.toNat a0) off.toNat i (by simp; omega)
            simp only [List.length_replicate] at this
            rw [clrL, this]
            split
            · rw [List.getElem?_replicate, if_pos (by omega)]
            · rfl
          rw [hy'] at hy
          split at hy
          · rename_i hi
            cases hy
            rw [hf] at hx'
            match o with
            | 0 =>
              cases hx'
              rw [if_pos (by omega), List.getElem?_replicate, if_pos (by omega)]
              exact ⟨z, rfl, hrel _ _ _ _⟩
            | o + 1 => simp at hx'
          · rename_i hi
            have ho : o = 0 := by
              have h1 := q3 i ((f y).map C.imm) (by simp [hy])
              have := (List.getElem?_eq_some_iff.1 hx').1
              omega
            subst ho
            rw [if_neg (by omega)]
            obtain ⟨u2, g1, g2⟩ := q4 i ((f y).map C.imm) 0 x' (by simp [hy]) hx'
            exact ⟨u2, by simpa using g1, g2⟩)
      have hz := run_zero (P := P) (t := e) w
      refine ⟨.tuple #[], _, φ, ?_, tupR, hR.of hW.1 hW.2⟩
      have hne : ¬ (len.toNat = 0) := e0
      simp [execOp, resolve, invoke, builtin, hvv, Builtin.clear_, run_underlying ht.h, hz, hz1, zeroCells_one, hst]
end
end Ab
end
section
namespace Ab
open Go Go.Sort
/-- cmp is a total order, as' a function that never fails. -/
def CmpOk {α : Type} (cmp : α → α → Option Int) (cf : α → α → Int) : Prop := (∀ a b, cmp a b = some (cf a b)) ∧ SWO (Go.Proofs.ltOf cf) ∧ ∀ a b, ¬ cf a b < 0 → ¬ cf b a < 0 → a = b
/-- Sorted by cmp. -/
noncomputable def sortFL {α : Type} (cmp : α → α → Option Int) (l : List α) : Option (List α) := open Classical in
  if h : l.length < 4611686018427387904 ∧ ∃ cf, CmpOk cmp cf then some (l.mergeSort fun x y => decide (¬ h.2.choose y x < 0)) else none
theorem sortFL_eq {α : Type} {cmp : α → α → Option Int} {cf : α → α → Int} {l : List α} (h : l.length < 4611686018427387904) (hc : CmpOk cmp cf) : sortFL cmp l = some (l.mergeSort fun x y => decide (¬ cf y x < 0)) := by
  unfold sortFL
  have hx : l.length < 4611686018427387904 ∧ ∃ cf, CmpOk cmp cf := ⟨h, cf, hc⟩
  rw [dif_pos hx]
  have e : hx.2.choose = cf := by
    funext a b
    have := hx.2.choose_spec.1 a b
    rw [hc.1 a b] at this
    exact (Option.some.inj this).symm
  rw [e]
theorem sortFL_len {α : Type} {cmp : α → α → Option Int} {l l' : List α} (h : sortFL cmp l = some l') : l.length = l'.length := by
  unfold sortFL at h
  split at h
  · cases h; simp
  · cases h
def SortFOk (P : Program) (f : FuncId) : Prop := ∀ {α : Type} {g : FuncId} {g0 : α → I} {cf : α → α → Int}, fnFacts P g → SWO (Go.Proofs.ltOf cf) → (∀ a b, ¬ cf a b < 0 → ¬ cf b a < 0 → a = b) → (∀ a b, PureOk P g [.c (.imm (g0 a)), .c (.imm (g0 b))] (.c (int (cf a b)))) →
  ∀ {σ : Store} {id : Id} {l : List α}, σ[id]? = some (some (vec 1 (fun a => [g0 a]) l)) → l.length < 4611686018427387904 →
    FnOk P f [.c (.own id 0 l.length), .c (.fn g [])] σ fun r σ' => r = .tup [] ∧ σ'.length = σ.length ∧ ∀ i : Id, σ'[i]? = (σ.put id (some (vec 1 (fun a => [g0 a]) (l.mergeSort fun x y => decide (¬ cf y x < 0)))))[i]?
section
variable {P : Program} {σ0 : Store} {sz : Nat} {Q : Post} {env : Env} {σv σ' : Store} {ops : Array Oper} {rest : List Oper} {dst : Option Nat} {ty : TypeId} {pos : String} {after : Array Edge}
theorem S.sortF {α : Type} {f : α → List I} (g0 : α → I) {cmp : α → α → Option Int} {x : Operand} {al : List Operand} {ats : Array TypeId} {fs g : FuncId} {id : Id} {n : Nat} {l l' : List α} (hs : sortFL cmp l = some l') (hfg : f = fun a => [g0 a])
    (hcmp : ∀ {a b r}, cmp a b = some r → PureOk P g [.c (.imm (g0 a)), .c (.imm (g0 b))] (.c (int r))) (hf : SortFOk P fs) (hgn : fnFacts P g) (hx : ev env x = some (.c (.fn fs []))) (ha : evs env al = some [.c (.own id 0 n), .c (.fn g [])]) (hn : n = l.length) (hσ : σv[id]? = some (some (vec 1 f l)))
    (hd : dstOk sz dst = true) (hσ' : putF σv id (some (vec 1 f l')) = some σ') (h : AOps P σ0 sz ops Q rest (St.mk (putE env dst (.tup [])) σ')) :
    AOps P σ0 sz ops Q (⟨dst, .call ⟨.value x, al.toArray, ats⟩, ty, pos, after, none⟩ :: rest) (St.mk env σv) := by
  have h2 := putF_get hσ'
  subst h2 hn hfg
  unfold sortFL at hs
  split at hs
  · rename_i hx0
    cases hs
    obtain ⟨c1, c2, c3⟩ := hx0.2.choose_spec
    refine AOps.callS hx ha hd (hf hgn c2 c3 (fun a b => hcmp (c1 a b)) hσ hx0.1) ?_
    rintro r σ2 ⟨rfl, hl, he⟩
    refine AOps.sub (s' := ⟨putE env dst (.tup []), σv.put id (some (vec 1 (fun a => [g0 a]) (l.mergeSort fun x y => decide (¬ hx0.2.choose y x < 0))))⟩) ?_ h
    have := Sub.same (σ0 := σ0) (env := putE env dst (.tup [])) (σ1 := σ2) (σ2 := σv.put id (some (vec 1 (fun a => [g0 a]) (l.mergeSort fun x y => decide (¬ hx0.2.choose y x < 0))))) (by rw [Store.length_put, hl]) he
    cases dst <;> exact this
  · cases hs
end
/-! ### Views in chains -/
theorem vw_full {α : Type} (l : List α) : vw l 0 (l.length : Int) = some () := by unfold vw; rw [if_pos]; omega
theorem vw_cut {α : Type} {l : List α} {off len lo hi : Int} {u u' : Unit} (h : vw l off len = some u) (hc : cutV len lo hi = some u') : vw l (off + lo) (hi - lo) = some () := by
  have := vw_get h; have := cutV_get hc
  unfold vw; rw [if_pos]; omega
theorem vw_to {α : Type} {l : List α} {off len hi : Int} {u u' : Unit} (h : vw l off len = some u) (hc : cutV len 0 hi = some u') : vw l off hi = some () := by
  have := vw_get h; have := cutV_get hc
  unfold vw; rw [if_pos]; omega
theorem clrL_len {α : Type} {l : List α} {off len : Int} {u : Unit} {z : α} (h : vw l off len = some u) : (clrL l off len z).length = l.length := by
  have := vw_get h
  simp [clrL]; omega
end Ab
end
section
namespace Ab
open Go
def shlW (k : IntKind) (a b : Int) : Int := k.wrap (a * 2 ^ (min b.toNat k.bits))
/-- A shift by less than nothing ends the call. -/
def chk0 (b : Int) : Option Unit := if b < 0 then none else some ()
theorem chk0_get {b : Int} {u : Unit} (h : chk0 b = some u) : ¬ b < 0 := by
  unfold chk0 at h
  split at h
  · cases h
  · assumption
section
variable {P : Program} {σ0 : Store} {sz : Nat} {Q : Post} {env : Env} {σv : Store} {ops : Array Oper} {rest : List Oper} {dst : Option Nat} {ty : TypeId} {pos : String} {after : Array Edge}
theorem S.shl {t t' : TypeId} {x y : Operand} {k k' : IntKind} {a b : Int} {u : Unit} (hb : chk0 b = some u) (hx : ev env x = some (.c (.imm (.val (.int k a))))) (hy : ev env y = some (.c (.imm (.val (.int k' b))))) (hd : dstOk sz dst = true)
    (h : AOps P σ0 sz ops Q rest (St.mk (putE env dst (.c (.imm (.val (.int k (shlW k a b)))))) σv)) : AOps P σ0 sz ops Q (⟨dst, .binOp .shl t x y t', ty, pos, after, none⟩ :: rest) (St.mk env σv) :=
  .bin hx hy hd rfl (fun w => by simp [go_sem]) (fun w => by simp [binOp, Op.shift, chk0_get hb, shlW]) h
end
section
variable {P : Program} {σ0 : Store} {sz : Nat} {Q : Post} {env env' : Env} {σv σ' : Store}
theorem Sub.virtB {α : Type} (k : Nat) (f : α → List I) {b n : Id} {kb o : Nat} {cs cs' : List C} {σ1 : Store} (hb : σv[b]? = some (some (.cells kb [cs]))) (hc : cs[o]? = some (.imm (.val (.slice none 0 0)))) (hn : newF σv = some n) (h1 : snocF σv (.one (vec k f [])) = some σ1)
    (hs : setF cs o (.own n 0 ([] : List α).length) = some cs') (hσ' : putF σ1 b (some (.cells kb [cs'])) = some σ') : Sub σ0 ⟨env, σv⟩ ⟨env, σ'⟩ := fun Γ sz φ a w hΓ hR => by
  have g1 := newF_eq hn; have g2 := snocF_eq h1; have g3 := setF_eq hs; have g4 := putF_get hσ'
  obtain ⟨g3, g3'⟩ := g3
  subst g1 g2 g3 g4
  have hbl := Store.lt_of hb
  have hV := hR.toRs.virt k
  have hb' : (σv ++ [.one (vec k f [])])[b]? = some (some (.cells kb [cs])) := by rw [Store.get_left hbl]; exact hb
  have e0 : (σv ++ [.one (.cells k [])] : Store) = σv ++ [.one (vec k f [])] := rfl
  rw [e0] at hV
  generalize hφ : (fun i => if i = ((σv.length, []) : Id) then none else φ i) = φ' at hV
  have φn : φ' (σv.length, []) = none := by rw [← hφ]; simp
  rcases hV.2.st.blk _ _ hb' with ⟨_, g⟩ | ⟨b0, base, arr, ety, q1, q2, q3, q4, q5⟩
  · cases g
  · have hW := Rs.write (k := kb) (es' := [cs.set o (.own (σv.length, []) 0 ([] : List α).length)]) (arr' := arr) hV.2 hb' q1 q2 rfl rfl (fun j e he => by
      match j with
      | 0 =>
        cases he
        rw [List.length_set]
        exact q4 0 cs rfl
      | j + 1 => simp at he) (by simpa using q3) (fun j e i x he hx => by
      match j with
      | 0 =>
        cases he
        rw [List.getElem?_set] at hx
        split at hx
        · rename_i e
          subst e
          cases hx
          obtain ⟨u, hu, hr⟩ := q5 0 cs o _ rfl hc
          refine ⟨u, hu, ?_⟩
          cases hr with | imm hr => cases hr with | val h =>
            exact .own (by simp) rfl fun k' es' _ => .inl ⟨φn, rfl, rfl, rfl⟩
        · exact q5 0 cs i x rfl hx
      | j + 1 => simp at he)
    rw [Go.setRow_self w b0 arr ety (0, 0) q2] at hW
    exact ⟨φ', (hR.of hV.1 hV.2).of hW.1 hW.2⟩
theorem AWP.virtB {α : Type} {c : Code} (k : Nat) (f : α → List I) {b n : Id} {kb o : Nat} {cs cs' : List C} {σ1 : Store} (hb : σv[b]? = some (some (.cells kb [cs]))) (hc : cs[o]? = some (.imm (.val (.slice none 0 0)))) (hn : newF σv = some n) (h1 : snocF σv (.one (vec k f [])) = some σ1)
    (hs : setF cs o (.own n 0 ([] : List α).length) = some cs') (hσ' : putF σ1 b (some (.cells kb [cs'])) = some σ') (h : AWP P σ0 sz c Q ⟨env, σ'⟩) : AWP P σ0 sz c Q ⟨env, σv⟩ := AWP.sub (Sub.virtB k f hb hc hn h1 hs hσ') h
/-- Cells of which some are nil, read as' rows with nothing in them. -/
def NilB : List C → List C → Prop
  | [], [] => True
  | c :: r, c' :: r' => (c' = c ∨ c = .imm (.val (.slice none 0 0)) ∧ ∃ k, c' = .imm (.sl k [])) ∧ NilB r r'
  | _, _ => False
theorem NilB.len : ∀ {l l' : List C}, NilB l l' → l'.length = l.length
  | [], [], _ => rfl
  | _ :: r, _ :: r', ⟨_, h⟩ => by simp [NilB.len h]
  | [], _ :: _, h => h.elim
  | _ :: _, [], h => h.elim
theorem NilB.get : ∀ {l l' : List C}, NilB l l' → ∀ (o : Nat) (x : C), l'[o]? = some x → ∃ x0, l[o]? = some x0 ∧ (x = x0 ∨ x0 = .imm (.val (.slice none 0 0)) ∧ ∃ k, x = .imm (.sl k []))
  | [], [], _, o, x, h => by simp at h
  | c :: r, c' :: r', ⟨h1, h2⟩, o, x, h => by
    match o with
    | 0 => cases h; exact ⟨c, rfl, h1⟩
    | o + 1 => simpa using NilB.get h2 o x (by simpa using h)
  | [], _ :: _, h, _, _, _ => h.elim
  | _ :: _, [], h, _, _, _ => h.elim
theorem Sub.nilB {b : Id} {kb : Nat} {cs : List C} (cs' : List C) (hb : σv[b]? = some (some (.cells kb [cs]))) (h : NilB cs cs') (hlen : cs.length = kb) (hσ' : putF σv b (some (.cells kb [cs'])) = some σ') : Sub σ0 ⟨env, σv⟩ ⟨env, σ'⟩ := by
  have g := putF_get hσ'
  subst g
  refine Sub.blk hb rfl (fun j e he => ?_) (fun j e o x he hx => ?_)
  · match j with
    | 0 => cases he; rw [h.len, hlen]
    | j + 1 => simp at he
  · match j with
    | 0 =>
      cases he
      obtain ⟨x0, h1, h2⟩ := h.get o x hx
      refine ⟨cs, x0, rfl, h1, fun w φ σ A u hr => ?_⟩
      rcases h2 with rfl | ⟨rfl, k, rfl⟩
      · exact hr
      · cases hr with | imm hr => cases hr with | val => exact .imm .slNil
    | j + 1 => simp at he
theorem AWP.nilB {c : Code} {b : Id} {kb : Nat} {cs : List C} (cs' : List C) (hb : σv[b]? = some (some (.cells kb [cs]))) (h : NilB cs cs') (hlen : cs.length = kb) (hσ' : putF σv b (some (.cells kb [cs'])) = some σ') (hn : AWP P σ0 sz c Q ⟨env, σ'⟩) : AWP P σ0 sz c Q ⟨env, σv⟩ := AWP.sub (Sub.nilB cs' hb h hlen hσ') hn
end
end Ab
end
section
namespace Ab
open Go
section
variable {P : Program} {σ0 : Store} {sz : Nat} {Q : Post} {env : Env} {σv σ' : Store} {ops : Array Oper} {rest : List Oper} {dst : Option Nat} {ty : TypeId} {pos : String} {after : Array Edge}
theorem AOps.eqlNil {x y : Operand} {t t' e : TypeId} {k : Nat} {es : List (List I)} [ht : TyD P t (.slice e)] (hx : ev env x = some (.c (.imm (.sl k es)))) (hy : ev env y = some (.c (.imm (.val (.slice none 0 0))))) (hd : dstOk sz dst = true)
    (h1 : es = [] → AOps P σ0 sz ops Q rest (St.mk (putE env dst (.c (bool true))) σv)) (h2 : AOps P σ0 sz ops Q rest (St.mk (putE env dst (.c (bool false))) σv)) :
    AOps P σ0 sz ops Q (⟨dst, .binOp .eql t x y t', ty, pos, after, none⟩ :: rest) (St.mk env σv) := fun Γ φ a w hΓ hR =>
  wpList_plain rfl fun K hK => by
    have hrel := ev_rel hR hx
    have hyv := ev_val hR hy
    generalize hu : a.eval x = u at hrel
    cases hrel with | c hrel => cases hrel with | imm hrel =>
    unfold Oper.wp
    cases hrel with
    | slNil =>
      have hg : (eqGuard .eql t x y (.slice none 0 0) (.slice none 0 0)).run P w = .ok () w := rfl
      have hr : (binOp .eql t (.slice none 0 0) (.slice none 0 0)).run P w = .ok (.bool true) w := by
        show (do pure (Value.bool (← Op.equal t (.slice none 0 0) (.slice none 0 0)))).run P w = _
        simp [run_equal_slice_nil w t e none 0 0 ht.h]
      have hrun : (execOp a.eval ⟨dst, .binOp .eql t x y t', ty, pos, after, none⟩).run P w = .ok (.value (.bool true)) w := by
        simp [execOp, hu, hyv, hg, hr]
      rw [hrun, Oper.upon_value]
      exact hK _ _ (h1 rfl Γ φ _ w hΓ (hR.put hd (.c (.imm (.val rfl)))))
    | @sl _ _ ad cap us _ _ _ _ _ =>
      have hg : (eqGuard .eql t x y (.slice (some ad) es.length cap) (.slice none 0 0)).run P w = .ok () w := rfl
      have hr : (binOp .eql t (.slice (some ad) es.length cap) (.slice none 0 0)).run P w = .ok (.bool false) w := by
        show (do pure (Value.bool (← Op.equal t (.slice (some ad) es.length cap) (.slice none 0 0)))).run P w = _
        simp [run_equal_slice_nil w t e (some ad) es.length cap ht.h]
      have hrun : (execOp a.eval ⟨dst, .binOp .eql t x y t', ty, pos, after, none⟩).run P w = .ok (.value (.bool false)) w := by
        simp [execOp, hu, hyv, hg, hr]
      rw [hrun, Oper.upon_value]
      exact hK _ _ (h2 Γ φ _ w hΓ (hR.put hd (.c (.imm (.val rfl)))))
end
end Ab
end
section
namespace Ab
open Go Go.Proofs
def slices_Clone_int_int (s : List Int) : Option (List Int) := app 8 [] s
theorem slices_Clone_int_int_ok {s r : List Int} (h : slices_Clone_int_int s = some r) : FreshOk Tryd.prog 28 [.c (row 1 intI s)] 1 (List.map intI r) := by
  unfold slices_Clone_int_int at h
  unfold FreshOk
  refine FnOk.enter (rs := [.t 2]) Tryd.func28 rfl Tryd.ntmps28 Tryd.results28 rfl ⟨trivial, trivial⟩ (by kernel_rfl) rfl ?_
  refine AWP.seq ?_
  refine AWP.region ?_
  refine AOps.assign rfl rfl ?_
  refine AOps.nil ?_
  refine thn_normal ?_
  refine AWP.seq ?_
  refine AWP.seq ?_
  refine AWP.region ?_
  refine AOps.move rfl rfl ?_
  refine AOps.eqlNil rfl rfl rfl (fun he => ?_) ?_
  · have hs : s = [] := by simpa using he
    subst hs
    have hr : r = [] := by
      have := app_get h
      simpa using this.2
    subst hr
    refine AOps.nil ?_
    refine thn_normal ?_
    refine AWP.condT rfl ?_
    refine AWP.seq ?_
    refine AWP.region ?_
    refine AOps.assign rfl rfl ?_
    refine AOps.nil ?_
    refine thn_normal ?_
    refine AWP.virtV 1 intI 2 rfl rfl rfl ?_
    refine AWP.ret ?_
    refine thn_ret ?_
    exact Done.ret rfl (Fresh.mk rfl rfl)
  · refine AOps.nil ?_
    refine thn_normal ?_
    refine AWP.condF rfl ?_
    refine AWP.skip ?_
    refine thn_normal ?_
    refine AWP.seq ?_
    refine AWP.region ?_
    refine S.lit (f := intI) (l := []) (ess := []) rfl rfl rfl rfl rfl rfl rfl trivial rfl rfl rfl ?_
    refine AOps.move rfl rfl ?_
    refine S.append (f := intI) h rfl rfl rfl rfl rfl rfl .row rfl rfl rfl rfl ?_
    refine AOps.assign rfl rfl ?_
    refine AOps.nil ?_
    refine thn_normal ?_
    refine AWP.ret ?_
    exact Done.ret rfl (Fresh.mk rfl rfl)
end Ab
end
section
namespace Ab
open Go Go.Proofs
abbrev rowI (l : List Int) : List I := [.sl 1 (l.map intI)]
def slices_Clone_Lint_int (s : List (List Int)) : Option (List (List Int)) := app 24 [] s
theorem slices_Clone_Lint_int_ok {s r : List (List Int)} (h : slices_Clone_Lint_int s = some r) : FreshOk Tryd.prog 40 [.c (row 1 rowI s)] 1 (List.map rowI r) := by
  unfold slices_Clone_Lint_int at h
  unfold FreshOk
  refine FnOk.enter (rs := [.t 2]) Tryd.func40 rfl Tryd.ntmps40 Tryd.results40 rfl ⟨trivial, trivial⟩ (by kernel_rfl) rfl ?_
  refine AWP.seq ?_
  refine AWP.region ?_
  refine AOps.assign rfl rfl ?_
  refine AOps.nil ?_
  refine thn_normal ?_
  refine AWP.seq ?_
  refine AWP.seq ?_
  refine AWP.region ?_
  refine AOps.move rfl rfl ?_
  refine AOps.eqlNil rfl rfl rfl (fun he => ?_) ?_
  · have hs : s = [] := by simpa using he
    subst hs
    have hr : r = [] := by
      have := app_get h
      simpa using this.2
    subst hr
    refine AOps.nil ?_
    refine thn_normal ?_
    refine AWP.condT rfl ?_
    refine AWP.seq ?_
    refine AWP.region ?_
    refine AOps.assign rfl rfl ?_
    refine AOps.nil ?_
    refine thn_normal ?_
    refine AWP.virtV 1 rowI 2 rfl rfl rfl ?_
    refine AWP.ret ?_
    refine thn_ret ?_
    exact Done.ret rfl (Fresh.mk rfl rfl)
  · refine AOps.nil ?_
    refine thn_normal ?_
    refine AWP.condF rfl ?_
    refine AWP.skip ?_
    refine thn_normal ?_
    refine AWP.seq ?_
    refine AWP.region ?_
    refine S.lit (f := rowI) (l := []) (ess := []) rfl rfl rfl rfl rfl rfl rfl trivial rfl rfl rfl ?_
    refine AOps.move rfl rfl ?_
    refine S.append (f := rowI) h rfl rfl rfl rfl rfl rfl .row rfl rfl rfl rfl ?_
    refine AOps.assign rfl rfl ?_
    refine AOps.nil ?_
    refine thn_normal ?_
    refine AWP.ret ?_
    exact Done.ret rfl (Fresh.mk rfl rfl)
end Ab
end
section
namespace Ab
open Go Go.Proofs
set_option linter.all false
abbrev eLi64 (l : List Int) : List I := [.sl 1 (l.map intI)]
structure TOutcome where
  add : List Int
  del : List Int
  weight : Int
abbrev eTOutcome (v : TOutcome) : List I := [.sl 1 (List.map intI v.add), .sl 1 (List.map intI v.del), .val (.int .i64 v.weight)]
structure TOpenOperator where
  pre : List Int
  outcomes : List TOutcome
  cost : Int
abbrev eTOpenOperator (v : TOpenOperator) : List I := [.sl 1 (List.map intI v.pre), .sl 3 (List.map eTOutcome v.outcomes), .val (.int .i64 v.cost)]
structure TOpenTask where
  facts : Int
  init : List Int
  goal : List Int
  operators : List TOpenOperator
abbrev eTOpenTask (v : TOpenTask) : List I := [.val (.int .i64 v.facts), .sl 1 (List.map intI v.init), .sl 1 (List.map intI v.goal), .sl 3 (List.map eTOpenOperator v.operators)]
structure TFault where
  code : Int
  index : Int
structure Tx_int64_y_int_signed_bool_code_abi_BoundsErrorCode where
  fx : Int
  fy : Int
  signed : Bool
  code : Int
structure Truntime_boundsError where
  fx : Int
  fy : Int
  signed : Bool
  code : Int
structure TFacts_int_Init_int_Goal_int_Operators_api_OpenOperator where
  facts : Int
  init : List Int
  goal : List Int
  operators : List TOpenOperator
structure TCode_int_Index_int where
  code : Int
  index : Int
structure TOperator where
  pre : List Int
  add : List Int
  del : List Int
  cost : Int
abbrev eTOperator (v : TOperator) : List I := [.sl 1 (List.map intI v.pre), .sl 1 (List.map intI v.add), .sl 1 (List.map intI v.del), .val (.int .i64 v.cost)]
structure TFacts_int_Init_int_Goal_int_Operators_api_Operator where
  facts : Int
  init : List Int
  goal : List Int
  operators : List TOperator
structure TTask where
  facts : Int
  init : List Int
  goal : List Int
  operators : List TOperator
abbrev eA2i64 (v : Int × Int) : List I := [.val (.int .i64 v.1), .val (.int .i64 v.2)]
structure TPre_int_Outcomes_api_Outcome_Cost_int where
  pre : List Int
  outcomes : List TOutcome
  cost : Int
structure TAdd_int_Del_int_Weight_int where
  add : List Int
  del : List Int
  weight : Int
structure TPre_int_Add_int_Del_int_Cost_int where
  pre : List Int
  add : List Int
  del : List Int
  cost : Int
def strips_IsSet_l1 (l : List Int) (nv : Int) : Int → Unit → Option (Unit ⊕ Bool) := fun t3 _ => Option.bind (ix l t3) fun a12 => Option.bind (if a12 < 0 then some true else if nv ≤ a12 then some true else if 0 < t3 then Option.bind (ix l (t3 - 1)) fun a29 => some (decide (a12 ≤ a29)) else some false) fun t4 => if t4 = true then some (.inr false) else some (.inl ())
def strips_IsSet (l : List Int) (nv : Int) : Option Bool := (Option.bind (rngX 0 (l.length : Int) (strips_IsSet_l1 l nv) ()) fun | .inl _ => some true | .inr x => some x)
def cmp_isNaN_int (xv : Int) : Option Bool := some (!(decide (xv = xv)))
def cmp_Less_int (xv : Int) (yv : Int) : Option Bool := Option.bind (Option.bind (cmp_isNaN_int xv) fun a6 => if a6 = true then Option.bind (cmp_isNaN_int yv) fun a9 => if (!a9) = true then some true else some (decide (xv < yv)) else some (decide (xv < yv))) fun t3 => some t3
def slices_isNaN_int (xv : Int) : Option Bool := some (!(decide (xv = xv)))
def slices_BinarySearch_int_int_l1 (xv : List Int) (target : Int) : (Int × Int) → Option ((Int × Int) ⊕ Int) := fun (iv3, j4) => if iv3 < j4 then Option.bind (ix xv (w64 (shrW .u64 ((IntKind.u64).wrap (w64 (iv3 + j4))) 1))) fun a24 => Option.bind (cmp_Less_int a24 target) fun a27 => if a27 = true then some (.inl (w64 ((w64 (shrW .u64 ((IntKind.u64).wrap (w64 (iv3 + j4))) 1)) + 1), j4)) else some (.inl (iv3, w64 (shrW .u64 ((IntKind.u64).wrap (w64 (iv3 + j4))) 1))) else some (.inr iv3)
noncomputable def slices_BinarySearch_int_int (xv : List Int) (target : Int) : Option (Int × Bool) := Option.bind (Loop (slices_BinarySearch_int_int_l1 xv target) (0, (xv.length : Int))) fun iv5 => Option.bind (if iv5 < (xv.length : Int) then Option.bind (ix xv iv5) fun a38 => if a38 = target then some true else Option.bind (ix xv iv5) fun a45 => Option.bind (slices_isNaN_int a45) fun a47 => if a47 = true then Option.bind (slices_isNaN_int target) fun a50 => some a50 else some false else some false) fun t8 => some (iv5, t8)
noncomputable def strips_Meets_1 (xv : Int) (c2 : List Int) : Option Bool := Option.bind (slices_BinarySearch_int_int c2 xv) fun a9 => some a9.2
def slices_IndexFunc_int_int_l1 (sv : List Int) (fv : Int → Option Bool) : Int → Unit → Option (Unit ⊕ Int) := fun t3 _ => Option.bind (ix sv t3) fun a14 => Option.bind (fv a14) fun a16 => if a16 = true then some (.inr t3) else some (.inl ())
def slices_IndexFunc_int_int (sv : List Int) (fv : Int → Option Bool) : Option Int := (Option.bind (rngX 0 (sv.length : Int) (slices_IndexFunc_int_int_l1 sv fv) ()) fun | .inl _ => some (-1) | .inr x => some x)
def slices_ContainsFunc_int_int (sv : List Int) (fv : Int → Option Bool) : Option Bool := Option.bind (slices_IndexFunc_int_int sv fv) fun a7 => some (decide (0 ≤ a7))
noncomputable def strips_Meets (av : List Int) (bv : List Int) : Option Bool := Option.bind (slices_ContainsFunc_int_int av (fun y1 => strips_Meets_1 y1 bv)) fun a7 => some a7
noncomputable def open_operatorCode_l1 (ov : TOpenOperator) (facts : Int) : Int → Unit → Option (Unit ⊕ Int) := fun t6 _ => Option.bind (ix ov.outcomes t6) fun a38 => Option.bind (Option.bind (strips_IsSet a38.add facts) fun a44 => if (!a44) = true then some true else Option.bind (strips_IsSet a38.del facts) fun a50 => if (!a50) = true then some true else Option.bind (strips_Meets a38.add a38.del) fun a58 => some a58) fun t7 => if t7 = true then some (.inr 5) else if ((decide (a38.weight < 1)) || (decide (6 < a38.weight))) = true then some (.inr 3) else some (.inl ())
noncomputable def open_operatorCode (ov : TOpenOperator) (facts : Int) : Option Int := Option.bind (strips_IsSet ov.pre facts) fun a11 => if (!a11) = true then some 5 else if ((decide (ov.cost < 0)) || (decide (100 < ov.cost))) = true then some 3 else if ((decide ((ov.outcomes.length : Int) = 0)) || (decide (4 < (ov.outcomes.length : Int)))) = true then some 9 else (Option.bind (rngX 0 (ov.outcomes.length : Int) (open_operatorCode_l1 ov facts) ()) fun | .inl _ => some 0 | .inr x => some x)
noncomputable def open_Validate_l1 (ov : TOpenTask) : Int → Unit → Option (Unit ⊕ TFault) := fun t6 _ => Option.bind (ix ov.operators t6) fun a44 => Option.bind (open_operatorCode a44 ov.facts) fun a49 => if a49 = 0 then some (.inl ()) else some (.inr (⟨a49, t6⟩ : TFault))
noncomputable def open_Validate (ov : TOpenTask) : Option TFault := if ((decide (ov.facts < 0)) || (decide (24 < ov.facts))) = true then some (⟨3, -1⟩ : TFault) else Option.bind (strips_IsSet ov.init ov.facts) fun a21 => if (!a21) = true then some (⟨5, -2⟩ : TFault) else Option.bind (strips_IsSet ov.goal ov.facts) fun a29 => if (!a29) = true then some (⟨5, -3⟩ : TFault) else if 40 < (ov.operators.length : Int) then some (⟨2, -1⟩ : TFault) else (Option.bind (rngX 0 (ov.operators.length : Int) (open_Validate_l1 ov) ()) fun | .inl _ => some (⟨0, 0⟩ : TFault) | .inr x => some x)
def internal_strconv_small (iv : Int) : Option ByteArray := if iv < 10 then Option.bind (subS (⟨#[48, 49, 50, 51, 52, 53, 54, 55, 56, 57, 97, 98, 99, 100, 101, 102, 103, 104, 105, 106, 107, 108, 109, 110, 111, 112, 113, 114, 115, 116, 117, 118, 119, 120, 121, 122]⟩ : ByteArray) iv (w64 (iv + 1))) fun a8 => some a8 else Option.bind (subS (⟨#[48, 48, 48, 49, 48, 50, 48, 51, 48, 52, 48, 53, 48, 54, 48, 55, 48, 56, 48, 57, 49, 48, 49, 49, 49, 50, 49, 51, 49, 52, 49, 53, 49, 54, 49, 55, 49, 56, 49, 57, 50, 48, 50, 49, 50, 50, 50, 51, 50, 52, 50, 53, 50, 54, 50, 55, 50, 56, 50, 57, 51, 48, 51, 49, 51, 50, 51, 51, 51, 52, 51, 53, 51, 54, 51, 55, 51, 56, 51, 57, 52, 48, 52, 49, 52, 50, 52, 51, 52, 52, 52, 53, 52, 54, 52, 55, 52, 56, 52, 57, 53, 48, 53, 49, 53, 50, 53, 51, 53, 52, 53, 53, 53, 54, 53, 55, 53, 56, 53, 57, 54, 48, 54, 49, 54, 50, 54, 51, 54, 52, 54, 53, 54, 54, 54, 55, 54, 56, 54, 57, 55, 48, 55, 49, 55, 50, 55, 51, 55, 52, 55, 53, 55, 54, 55, 55, 55, 56, 55, 57, 56, 48, 56, 49, 56, 50, 56, 51, 56, 52, 56, 53, 56, 54, 56, 55, 56, 56, 56, 57, 57, 48, 57, 49, 57, 50, 57, 51, 57, 52, 57, 53, 57, 54, 57, 55, 57, 56, 57, 57]⟩ : ByteArray) (w64 (iv * 2)) (w64 ((w64 (iv * 2)) + 2))) fun a14 => some a14
abbrev internal_strconv_AppendUint_w3_s0 (iv : Int) (base : Int) (l : List Int) : Store := [.one (vec 1 eU8 l)]
def internal_strconv_AppendUint_w3 (iv : Int) (base : Int) (l : List Int) : Option (List Int) := if base = 10 then if iv < 100 then Option.bind (internal_strconv_small (w64 iv)) fun a16 => Option.bind (app 1 l (strL a16)) fun a17 => some a17 else none else none
abbrev internal_strconv_AppendInt_w2_s0 (iv : Int) (base : Int) (l : List Int) : Store := [.one (vec 1 eU8 l)]
def internal_strconv_AppendInt_w2 (iv : Int) (base : Int) (l : List Int) : Option (List Int) := Option.bind (if iv < 0 then none else some ()) fun _ => Option.bind (internal_strconv_AppendUint_w3 ((IntKind.u64).wrap iv) base l) fun a20 => some a20
abbrev strconv_AppendInt_w1_s0 (iv : Int) (base : Int) (l : List Int) : Store := [.one (vec 1 eU8 l)]
def strconv_AppendInt_w1 (iv : Int) (base : Int) (l : List Int) : Option (List Int) := Option.bind (internal_strconv_AppendInt_w2 iv base l) fun a10 => some a10
def belief_Key_l2 (a12 : List Int) : Int → (List Int) → Option (List Int) := fun t5 c4 => Option.bind (ix a12 t5) fun a18 => Option.bind (strconv_AppendInt_w1 a18 10 c4) fun a22 => Option.bind (app 1 a22 [44]) fun a24 => some a24
def belief_Key_l1 (l : List (List Int)) : Int → (List Int) → Option (List Int) := fun t3 c2 => Option.bind (ix l t3) fun a12 => (Option.bind (forR 0 (a12.length : Int) (belief_Key_l2 a12) c2) fun c4 => Option.bind (app 1 c4 [59]) fun a28 => some a28)
def belief_Key (l : List (List Int)) : Option ByteArray := (Option.bind (forR 0 (l.length : Int) (belief_Key_l1 l) []) fun c2 => some (strB c2))
def strips_Contains_l2 (sv : List Int) (a12 : Int) : Int → Option (Int ⊕ Int) := fun iv5 => Option.bind (if iv5 < (sv.length : Int) then Option.bind (ix sv iv5) fun a21 => some (decide (a21 < a12)) else some false) fun t7 => if t7 = true then some (.inl (w64 (iv5 + 1))) else some (.inr iv5)
noncomputable def strips_Contains_l1 (sv : List Int) (part : List Int) : Int → Int → Option (Int ⊕ Bool) := fun t4 iv3 => Option.bind (ix part t4) fun a12 => Option.bind (Loop (strips_Contains_l2 sv a12) iv3) fun iv6 => Option.bind (if iv6 = (sv.length : Int) then some true else Option.bind (ix sv iv6) fun a35 => some (!(decide (a35 = a12)))) fun t11 => if t11 = true then some (.inr false) else some (.inl iv6)
noncomputable def strips_Contains (sv : List Int) (part : List Int) : Option Bool := (Option.bind (rngX 0 (part.length : Int) (strips_Contains_l1 sv part) 0) fun | .inl iv3 => some true | .inr x => some x)
noncomputable def open_Can (ov : TOpenTask) (sv : List Int) (op : Int) : Option Bool := Option.bind (ix ov.operators op) fun a11 => Option.bind (strips_Contains sv a11.pre) fun a14 => some a14
noncomputable def strips_Update_l1 (sv : List Int) (del : List Int) : Int → (List Int) → Option (List Int) := fun t5 c4 => Option.bind (Option.bind (ix sv t5) fun a16 => Option.bind (slices_BinarySearch_int_int del a16) fun a21 => if (!a21.2) = true then Option.bind (app 8 c4 [a16]) fun a29 => some a29 else some c4) fun c6 => some c6
noncomputable def strips_Update (sv : List Int) (add : List Int) (del : List Int) : Option (List Int) := (Option.bind (forR 0 (sv.length : Int) (strips_Update_l1 sv del) []) fun c4 => Option.bind (app 8 c4 add) fun a33 => Option.bind (sortL a33) fun a35 => some (compactL a35))
def cmp_Compare_int (xv : Int) (yv : Int) : Option Int := Option.bind (cmp_isNaN_int xv) fun a8 => Option.bind (cmp_isNaN_int yv) fun a10 => if a8 = true then if a10 = true then some 0 else some (-1) else if a10 = true then some 1 else if xv < yv then some (-1) else if yv < xv then some 1 else some 0
def slices_Compare_int_int_l1 (s11 : List Int) (s22 : List Int) : Int → Unit → Option (Unit ⊕ Int) := fun t3 _ => Option.bind (ix s11 t3) fun a14 => if (s22.length : Int) ≤ t3 then some (.inr 1) else Option.bind (ix s22 t3) fun a22 => Option.bind (cmp_Compare_int a14 a22) fun a26 => if a26 = 0 then some (.inl ()) else some (.inr a26)
def slices_Compare_int_int (s11 : List Int) (s22 : List Int) : Option Int := (Option.bind (rngX 0 (s11.length : Int) (slices_Compare_int_int_l1 s11 s22) ()) fun | .inl _ => if (s11.length : Int) < (s22.length : Int) then some (-1) else some 0 | .inr x => some x)
def slices_Equal_int_int_l1 (s11 : List Int) (s22 : List Int) : Int → Unit → Option (Unit ⊕ Bool) := fun t4 _ => Option.bind (ix s11 t4) fun a18 => Option.bind (ix s22 t4) fun a22 => if a18 = a22 then some (.inl ()) else some (.inr false)
def slices_Equal_int_int (s11 : List Int) (s22 : List Int) : Option Bool := if (s11.length : Int) = (s22.length : Int) then (Option.bind (rngX 0 (s11.length : Int) (slices_Equal_int_int_l1 s11 s22) ()) fun | .inl _ => some true | .inr x => some x) else some false
def slices_BinarySearchFunc_int_int_int_l1 (xv : List (List Int)) (target : List Int) (cmp : (List Int) → (List Int) → Option Int) : (Int × Int) → Option ((Int × Int) ⊕ Int) := fun (iv4, j5) => if iv4 < j5 then Option.bind (ix xv (w64 (shrW .u64 ((IntKind.u64).wrap (w64 (iv4 + j5))) 1))) fun a27 => Option.bind (cmp a27 target) fun a30 => if a30 < 0 then some (.inl (w64 ((w64 (shrW .u64 ((IntKind.u64).wrap (w64 (iv4 + j5))) 1)) + 1), j5)) else some (.inl (iv4, w64 (shrW .u64 ((IntKind.u64).wrap (w64 (iv4 + j5))) 1))) else some (.inr iv4)
noncomputable def slices_BinarySearchFunc_int_int_int (xv : List (List Int)) (target : List Int) (cmp : (List Int) → (List Int) → Option Int) : Option (Int × Bool) := Option.bind (Loop (slices_BinarySearchFunc_int_int_int_l1 xv target cmp) (0, (xv.length : Int))) fun iv6 => Option.bind (if iv6 < (xv.length : Int) then Option.bind (ix xv iv6) fun a43 => Option.bind (cmp a43 target) fun a46 => some (decide (a46 = 0)) else some false) fun t9 => some (iv6, t9)
abbrev slices_CompactFunc_int_int_w_s0 (l : List (List Int)) : Store := [.one (vec 1 eLi64 l)]
def slices_CompactFunc_int_int_w_l2 (l : List (List Int)) (kv54 : Int) : Int → ((List (List Int)) × Int) → Option ((List (List Int)) × Int) := fun k258 (c56, kv57) => Option.bind (Option.bind (ixV c56 (0 + kv54) ((l.length : Int) - kv54) k258) fun a41 => Option.bind (ixV c56 (0 + kv54) ((l.length : Int) - kv54) (k258 - 1)) fun a46 => Option.bind (slices_Equal_int_int a41 a46) fun a48 => if (!a48) = true then Option.bind (ixV c56 (0 + kv54) ((l.length : Int) - kv54) k258) fun a54 => Option.bind (ix c56 kv57) fun a56 => some (c56.set kv57.toNat a54, w64 (kv57 + 1)) else some (c56, kv57)) fun ⟨c59, kv60⟩ => some (c59, kv60)
def slices_CompactFunc_int_int_w_l1 (l : List (List Int)) : Int → Unit → Option (Unit ⊕ (List (List Int))) := fun kv54 _ => Option.bind (ix l kv54) fun a21 => Option.bind (ix l (kv54 - 1)) fun a26 => Option.bind (slices_Equal_int_int a21 a26) fun a28 => if a28 = true then Option.bind (cutV (l.length : Int) kv54 (l.length : Int)) fun u31 => (Option.bind (forR 1 ((l.length : Int) - kv54) (slices_CompactFunc_int_int_w_l2 l kv54) (l, kv54)) fun ⟨c56, kv57⟩ => Option.bind (cutV (c56.length : Int) kv57 (c56.length : Int)) fun u61 => Option.bind (cutV ((clrL c56 (0 + kv57) ((c56.length : Int) - kv57) []).length : Int) 0 kv57) fun u64 => some (.inr (viewL (clrL c56 (0 + kv57) ((c56.length : Int) - kv57) []) 0 kv57))) else some (.inl ())
def slices_CompactFunc_int_int_w (l : List (List Int)) : Option (List (List Int)) := if (l.length : Int) < 2 then some l else (Option.bind (rngX 1 (l.length : Int) (slices_CompactFunc_int_int_w_l1 l) ()) fun | .inl _ => some l | .inr x => some x)
abbrev belief_Normal_w_s0 (l : List (List Int)) : Store := [.one (vec 1 eLi64 l)]
noncomputable def belief_Normal_w (l : List (List Int)) : Option (List (List Int)) := Option.bind (sortFL slices_Compare_int_int l) fun a4 => Option.bind (slices_CompactFunc_int_int_w a4) fun a6 => some a6
noncomputable def open_Results_l1 (sv : List Int) (a20 : TOpenOperator) : Int → (List (List Int)) → Option (List (List Int)) := fun t5 c4 => Option.bind (ix a20.outcomes t5) fun a26 => Option.bind (strips_Update sv a26.add a26.del) fun a34 => Option.bind (app 24 c4 [a34]) fun a36 => some a36
noncomputable def open_Results_l2 (c4 : List (List Int)) (a40 : (List (List Int))) (a47 : TOpenOperator) : Int → (List Int) → Option (List Int) := fun t7 c6 => Option.bind (ix a47.outcomes t7) fun a54 => Option.bind (ix c4 t7) fun a60 => Option.bind (slices_BinarySearchFunc_int_int_int a40 a60 slices_Compare_int_int) fun a62 => Option.bind (ix c6 a62.1) fun a67 => Option.bind (ix c6 a62.1) fun a72 => some (c6.set a62.1.toNat (w64 (a67 + a54.weight)))
noncomputable def open_Results (ov : TOpenTask) (sv : List Int) (op : Int) : Option ((List (List Int)) × (List Int)) := Option.bind (ix ov.operators op) fun a20 => (Option.bind (forR 0 (a20.outcomes.length : Int) (open_Results_l1 sv a20) []) fun c4 => Option.bind (slices_Clone_Lint_int c4) fun a39 => Option.bind (belief_Normal_w a39) fun a40 => Option.bind (mkL 8 (a40.length : Int) 0) fun a43 => Option.bind (ix ov.operators op) fun a47 => (Option.bind (forR 0 (a47.outcomes.length : Int) (open_Results_l2 c4 a40 a47) a43) fun c6 => some (a40, c6)))
def open_Reach_j3 : ((List (List Int)) × (List (ByteArray × Int))) → Option (((List (List Int)) × (List (ByteArray × Int))) ⊕ ((List (List Int)) × Bool)) := fun (c10, c11) => some (.inl (c10, c11))
def open_Reach_j5 : ((List (List Int)) × (List (ByteArray × Int))) → Option (((List (List Int)) × (List (ByteArray × Int))) ⊕ ((List (List Int)) × Bool)) := fun (c16, c17) => some (.inl (c16, c17))
def open_Reach_l4 (a48 : (List (List Int)) × (List Int)) : Int → ((List (List Int)) × (List (ByteArray × Int))) → Option (((List (List Int)) × (List (ByteArray × Int))) ⊕ ((List (List Int)) × Bool)) := fun t15 (c13, c14) => Option.bind (ix a48.1 t15) fun a55 => Option.bind (belief_Key [a55]) fun a59 => if 0 < Option.getD (mget c14 a59) 0 then open_Reach_j5 (c13, c14) else if (c13.length : Int) = 2000 then some (.inr ([], false)) else Option.bind (app 24 c13 [a55]) fun a72 => open_Reach_j5 (a72, mset c14 a59 1)
noncomputable def open_Reach_l2 (ov : TOpenTask) (atv4 : Int) : Int → ((List (List Int)) × (List (ByteArray × Int))) → Option (((List (List Int)) × (List (ByteArray × Int))) ⊕ ((List (List Int)) × Bool)) := fun t9 (c7, c8) => Option.bind (ix c7 atv4) fun a36 => Option.bind (open_Can ov a36 t9) fun a39 => if (!a39) = true then open_Reach_j3 (c7, c8) else Option.bind (ix c7 atv4) fun a45 => Option.bind (open_Results ov a45 t9) fun a48 => (Option.bind (rngX 0 (a48.1.length : Int) (open_Reach_l4 a48) (c7, c8)) fun | .inl (c13, c14) => open_Reach_j3 (c13, c14) | .inr x => some (.inr x))
noncomputable def open_Reach_l1 (ov : TOpenTask) : ((List (List Int)) × (List (ByteArray × Int)) × Int) → Option (((List (List Int)) × (List (ByteArray × Int)) × Int) ⊕ ((List (List Int)) ⊕ ((List (List Int)) × Bool))) := fun (c2, c3, atv4) => if atv4 < (c2.length : Int) then (Option.bind (rngX 0 (ov.operators.length : Int) (open_Reach_l2 ov atv4) (c2, c3)) fun | .inl (c7, c8) => some (.inl (c7, c8, w64 (atv4 + 1))) | .inr x => some (.inr (.inr x))) else some (.inr (.inl c2))
noncomputable def open_Reach (ov : TOpenTask) : Option ((List (List Int)) × Bool) := Option.bind (slices_Clone_int_int ov.init) fun a15 => Option.bind (belief_Key [a15]) fun a19 => Option.bind (Loop (open_Reach_l1 ov) ([a15], mset ([] : List (ByteArray × Int)) a19 1, 0)) fun | .inl c5 => Option.bind (belief_Normal_w c5) fun a76 => some (a76, true) | .inr x => some x
noncomputable def open_Explore (ov : TOpenTask) : Option ((List (List Int)) × TFault) := Option.bind (open_Validate ov) fun a8 => if (!((decide (a8.code = 0)) && (decide (a8.index = 0)))) = true then some ([], a8) else Option.bind (open_Reach ov) fun a15 => if (!a15.2) = true then some ([], (⟨10, -7⟩ : TFault)) else some (a15.1, (⟨0, 0⟩ : TFault))
def ref1_In (nv : Int) (low : Int) (high : Int) : Option Bool := some ((decide (low ≤ nv)) && (decide (nv ≤ high)))
def law8_coin : Option TOpenTask := some (⟨1, [], [0], [(⟨[], [(⟨[0], [], 1⟩ : TOutcome), (⟨[], [], 2⟩ : TOutcome)], 1⟩ : TOpenOperator)]⟩ : TOpenTask)
noncomputable def open_Outcomes (ov : TOpenTask) (sv : List Int) (op : Int) : Option ((List (List Int)) × (List Int) × TFault) := Option.bind (open_Validate ov) fun a13 => if (!((decide (a13.code = 0)) && (decide (a13.index = 0)))) = true then some ([], [], a13) else Option.bind (strips_IsSet sv ov.facts) fun a22 => if (!a22) = true then some ([], [], (⟨5, -4⟩ : TFault)) else if ((decide (op < 0)) || (decide ((ov.operators.length : Int) ≤ op))) = true then some ([], [], (⟨3, -6⟩ : TFault)) else Option.bind (open_Can ov sv op) fun a40 => if (!a40) = true then some ([], [], (⟨11, op⟩ : TFault)) else Option.bind (open_Results ov sv op) fun a48 => some (a48.1, a48.2, (⟨0, 0⟩ : TFault))
def equal_Numbers_l1 (av : List Int) (bv : List Int) : Int → Unit → Option (Unit ⊕ Bool) := fun iv4 _ => Option.bind (ix av iv4) fun a19 => Option.bind (ix bv iv4) fun a23 => if a19 = a23 then some (.inl ()) else some (.inr false)
def equal_Numbers (av : List Int) (bv : List Int) : Option Bool := if (av.length : Int) = (bv.length : Int) then (Option.bind (rngX 0 (av.length : Int) (equal_Numbers_l1 av bv) ()) fun | .inl _ => some true | .inr x => some x) else some false
def equal_Sets_l1 (av : List (List Int)) (bv : List (List Int)) : Int → Unit → Option (Unit ⊕ Bool) := fun iv4 _ => Option.bind (ix av iv4) fun a19 => Option.bind (ix bv iv4) fun a23 => Option.bind (equal_Numbers a19 a23) fun a25 => if (!a25) = true then some (.inr false) else some (.inl ())
def equal_Sets (av : List (List Int)) (bv : List (List Int)) : Option Bool := if (av.length : Int) = (bv.length : Int) then (Option.bind (rngX 0 (av.length : Int) (equal_Sets_l1 av bv) ()) fun | .inl _ => some true | .inr x => some x) else some false
noncomputable def law8_tossed : Option Bool := Option.bind (law8_coin) fun a5 => Option.bind (open_Outcomes a5 [] 0) fun a6 => Option.bind (if a6.2.2.code = 0 then Option.bind (equal_Sets a6.1 ([[], [0]])) fun a17 => if a17 = true then Option.bind (equal_Numbers a6.2.1 [2, 1]) fun a22 => some a22 else some false else some false) fun t1 => some t1
def ref1_Ints_l1 (av : List Int) (bv : List Int) : Int → Unit → Option (Unit ⊕ Bool) := fun iv4 _ => Option.bind (ix av iv4) fun a19 => Option.bind (ix bv iv4) fun a23 => if a19 = a23 then some (.inl ()) else some (.inr false)
def ref1_Ints (av : List Int) (bv : List Int) : Option Bool := if (av.length : Int) = (bv.length : Int) then (Option.bind (rngX 0 (av.length : Int) (ref1_Ints_l1 av bv) ()) fun | .inl _ => some true | .inr x => some x) else some false
def ref1_Place_l1 (l : List (List Int)) (sv : List Int) : Int → Unit → Option (Unit ⊕ Int) := fun iv3 _ => Option.bind (ix l iv3) fun a14 => Option.bind (ref1_Ints a14 sv) fun a17 => if a17 = true then some (.inr iv3) else some (.inl ())
def ref1_Place (l : List (List Int)) (sv : List Int) : Option Int := (Option.bind (rngX 0 (l.length : Int) (ref1_Place_l1 l sv) ()) fun | .inl _ => some (-1) | .inr x => some x)
noncomputable def open_Determinize_l2 (t5 : Int) (a34 : TOpenOperator) : Int → ((List (Int × Int)) × (List TOperator)) → Option ((List (Int × Int)) × (List TOperator)) := fun t8 (c6, c7) => Option.bind (ix a34.outcomes t8) fun a42 => Option.bind (slices_Clone_int_int a34.pre) fun a48 => Option.bind (slices_Clone_int_int a42.add) fun a51 => Option.bind (slices_Clone_int_int a42.del) fun a54 => Option.bind (app 80 c7 [(⟨a48, a51, a54, a34.cost⟩ : TOperator)]) fun a59 => Option.bind (app 16 c6 [(t5, t8)]) fun a66 => some (a66, a59)
noncomputable def open_Determinize_l1 (ov : TOpenTask) : Int → ((List (Int × Int)) × (List TOperator)) → Option ((List (Int × Int)) × (List TOperator)) := fun t5 (c3, c4) => Option.bind (ix ov.operators t5) fun a34 => (Option.bind (forR 0 (a34.outcomes.length : Int) (open_Determinize_l2 t5 a34) (c3, c4)) fun ⟨c6, c7⟩ => some (c6, c7))
noncomputable def open_Determinize (ov : TOpenTask) : Option (TTask × (List (Int × Int)) × TFault) := Option.bind (open_Validate ov) fun a13 => if (!((decide (a13.code = 0)) && (decide (a13.index = 0)))) = true then some ((⟨0, [], [], []⟩ : TTask), [], a13) else Option.bind (slices_Clone_int_int ov.init) fun a23 => Option.bind (slices_Clone_int_int ov.goal) fun a26 => (Option.bind (forR 0 (ov.operators.length : Int) (open_Determinize_l1 ov) ([], [])) fun ⟨c3, c4⟩ => if 40 < (c3.length : Int) then some ((⟨0, [], [], []⟩ : TTask), [], (⟨10, -1⟩ : TFault)) else some ((⟨ov.facts, a23, a26, c4⟩ : TTask), c3, (⟨0, 0⟩ : TFault)))
def ref1_At (code : Int) (index : Int) : Option TFault := some (⟨code, index⟩ : TFault)
def ref1_IsSet_l1 (l : List Int) (nv : Int) : Int → Unit → Option (Unit ⊕ Bool) := fun iv3 _ => Option.bind (Option.bind (ix l iv3) fun a14 => Option.bind (ref1_In a14 0 (w64 (nv - 1))) fun a18 => if (!a18) = true then some true else if 0 < iv3 then Option.bind (ix l iv3) fun a26 => Option.bind (ix l (iv3 - 1)) fun a31 => some (decide (a26 ≤ a31)) else some false) fun t4 => if t4 = true then some (.inr false) else some (.inl ())
def ref1_IsSet (l : List Int) (nv : Int) : Option Bool := (Option.bind (rngX 0 (l.length : Int) (ref1_IsSet_l1 l nv) ()) fun | .inl _ => some true | .inr x => some x)
def ref1_Has_l1 (l : List Int) (nv : Int) : Int → Unit → Option (Unit ⊕ Bool) := fun iv3 _ => Option.bind (ix l iv3) fun a14 => if a14 = nv then some (.inr true) else some (.inl ())
def ref1_Has (l : List Int) (nv : Int) : Option Bool := (Option.bind (rngX 0 (l.length : Int) (ref1_Has_l1 l nv) ()) fun | .inl _ => some false | .inr x => some x)
def ref1_Disjoint_l1 (av : List Int) (bv : List Int) : Int → Unit → Option (Unit ⊕ Bool) := fun iv3 _ => Option.bind (ix av iv3) fun a15 => Option.bind (ref1_Has bv a15) fun a17 => if a17 = true then some (.inr false) else some (.inl ())
def ref1_Disjoint (av : List Int) (bv : List Int) : Option Bool := (Option.bind (rngX 0 (av.length : Int) (ref1_Disjoint_l1 av bv) ()) fun | .inl _ => some true | .inr x => some x)
def ref8_OpenFault_l2 (ov : TOpenTask) (a42 : TOpenOperator) : (Int × Int) → Option ((Int × Int) ⊕ Int) := fun (ev12, kv13) => if ((decide (kv13 < (a42.outcomes.length : Int))) && (decide (ev12 = 0))) = true then Option.bind (Option.bind (ix a42.outcomes kv13) fun a73 => Option.bind (Option.bind (ref1_IsSet a73.add ov.facts) fun a79 => if (!a79) = true then some true else Option.bind (ref1_IsSet a73.del ov.facts) fun a86 => if (!a86) = true then some true else Option.bind (ref1_Disjoint a73.add a73.del) fun a94 => some (!a94)) fun t18 => if t18 = true then some 5 else Option.bind (ref1_In a73.weight 1 6) fun a99 => if (!a99) = true then some 3 else some ev12) fun ev16 => some (.inl (ev16, w64 (kv13 + 1))) else some (.inr ev12)
noncomputable def ref8_OpenFault_l1 (ov : TOpenTask) : Int → Unit → Option (Unit ⊕ TFault) := fun iv6 _ => Option.bind (ix ov.operators iv6) fun a42 => Option.bind (Option.bind (ref1_IsSet a42.pre ov.facts) fun a48 => if (!a48) = true then some 5 else Option.bind (ref1_In a42.cost 0 100) fun a52 => if (!a52) = true then some 3 else Option.bind (ref1_In (a42.outcomes.length : Int) 1 4) fun a57 => if (!a57) = true then some 9 else some 0) fun ev7 => Option.bind (Loop (ref8_OpenFault_l2 ov a42) (ev7, 0)) fun ev14 => if ev14 = 0 then some (.inl ()) else Option.bind (ref1_At ev14 iv6) fun a105 => some (.inr a105)
noncomputable def ref8_OpenFault (ov : TOpenTask) : Option TFault := Option.bind (ref1_In ov.facts 0 24) fun a10 => if (!a10) = true then Option.bind (ref1_At 3 (-1)) fun a12 => some a12 else Option.bind (ref1_IsSet ov.init ov.facts) fun a17 => if (!a17) = true then Option.bind (ref1_At 5 (-2)) fun a19 => some a19 else Option.bind (ref1_IsSet ov.goal ov.facts) fun a24 => if (!a24) = true then Option.bind (ref1_At 5 (-3)) fun a26 => some a26 else if 40 < (ov.operators.length : Int) then Option.bind (ref1_At 2 (-1)) fun a31 => some a31 else (Option.bind (rngX 0 (ov.operators.length : Int) (ref8_OpenFault_l1 ov) ()) fun | .inl _ => some (⟨0, 0⟩ : TFault) | .inr x => some x)
def equal_Planning_l1 (av : TTask) (bv : TTask) : Int → Unit → Option (Unit ⊕ Bool) := fun iv9 _ => Option.bind (ix av.operators iv9) fun a48 => Option.bind (ix bv.operators iv9) fun a53 => Option.bind (Option.bind (equal_Numbers a48.pre a53.pre) fun a59 => if (!a59) = true then some true else Option.bind (equal_Numbers a48.add a53.add) fun a66 => if (!a66) = true then some true else Option.bind (equal_Numbers a48.del a53.del) fun a74 => if (!a74) = true then some true else some (!(decide (a48.cost = a53.cost)))) fun t10 => if t10 = true then some (.inr false) else some (.inl ())
def equal_Planning (av : TTask) (bv : TTask) : Option Bool := Option.bind (if (!(decide (av.facts = bv.facts))) = true then some true else Option.bind (equal_Numbers av.init bv.init) fun a18 => if (!a18) = true then some true else Option.bind (equal_Numbers av.goal bv.goal) fun a26 => if (!a26) = true then some true else some (!(decide ((av.operators.length : Int) = (bv.operators.length : Int))))) fun t3 => if t3 = true then some false else (Option.bind (rngX 0 (av.operators.length : Int) (equal_Planning_l1 av bv) ()) fun | .inl _ => some true | .inr x => some x)
def ref1_Word_l1 (sv : List Int) : Int → Int → Option Int := fun iv3 w2 => Option.bind (ix sv iv3) fun a14 => Option.bind (chk0 ((IntKind.u64).wrap a14)) fun u17 => some (w64 (w2 + (shlW .i64 1 ((IntKind.u64).wrap a14))))
def ref1_Word (sv : List Int) : Option Int := (Option.bind (forR 0 (sv.length : Int) (ref1_Word_l1 sv) 0) fun w2 => some w2)
def ref1_Subset_l1 (part : List Int) (l : List Int) : Int → Unit → Option (Unit ⊕ Bool) := fun iv3 _ => Option.bind (ix part iv3) fun a15 => Option.bind (ref1_Has l a15) fun a17 => if (!a17) = true then some (.inr false) else some (.inl ())
def ref1_Subset (part : List Int) (l : List Int) : Option Bool := (Option.bind (rngX 0 (part.length : Int) (ref1_Subset_l1 part l) ()) fun | .inl _ => some true | .inr x => some x)
def ref8_Applies (ov : TOpenTask) (sv : List Int) (op : Int) : Option Bool := Option.bind (ix ov.operators op) fun a10 => Option.bind (ref1_Subset a10.pre sv) fun a14 => some a14
def ref8_Effect_l1 (sv : List Int) (xv : TOutcome) : Int → (List Int) → Option (List Int) := fun p5 c4 => Option.bind (Option.bind (Option.bind (ref1_Has xv.add p5) fun a18 => if a18 = true then some true else Option.bind (ref1_Has sv p5) fun a22 => if a22 = true then Option.bind (ref1_Has xv.del p5) fun a27 => some (!a27) else some false) fun t8 => if t8 = true then Option.bind (app 8 c4 [p5]) fun a34 => some a34 else some c4) fun c6 => some c6
def ref8_Effect (ov : TOpenTask) (sv : List Int) (xv : TOutcome) : Option (List Int) := if ov.facts ≤ 9223372036854775807 then (Option.bind (forR 0 ov.facts (ref8_Effect_l1 sv xv) []) fun c4 => some c4) else none
def ref7_Before_l1 (av : List Int) (bv : List Int) : Int → Option (Int ⊕ (Unit ⊕ Bool)) := fun iv3 => if ((decide (iv3 < (av.length : Int))) && (decide (iv3 < (bv.length : Int)))) = true then Option.bind (ix av iv3) fun a20 => Option.bind (ix bv iv3) fun a24 => if a20 = a24 then some (.inl (w64 (iv3 + 1))) else Option.bind (ix av iv3) fun a29 => Option.bind (ix bv iv3) fun a33 => some (.inr (.inr (decide (a29 < a33)))) else some (.inr (.inl ()))
noncomputable def ref7_Before (av : List Int) (bv : List Int) : Option Bool := Option.bind (Loop (ref7_Before_l1 av bv) 0) fun | .inl _ => some (decide ((av.length : Int) < (bv.length : Int))) | .inr x => some x
noncomputable def ref7_Insert_l1 (l : List (List Int)) (sv : List Int) : Int → Option (Int ⊕ Int) := fun kv3 => Option.bind (if kv3 < (l.length : Int) then Option.bind (ix l kv3) fun a13 => Option.bind (ref7_Before a13 sv) fun a16 => some a16 else some false) fun t5 => if t5 = true then some (.inl (w64 (kv3 + 1))) else some (.inr kv3)
noncomputable def ref7_Insert (l : List (List Int)) (sv : List Int) : Option (List (List Int)) := Option.bind (Loop (ref7_Insert_l1 l sv) 0) fun kv4 => Option.bind (if kv4 < (l.length : Int) then Option.bind (ix l kv4) fun a27 => Option.bind (ref1_Ints a27 sv) fun a30 => some a30 else some false) fun t9 => if t9 = true then some l else Option.bind (subL l 0 kv4) fun a36 => Option.bind (app 24 ([] : List (List Int)) a36) fun a37 => Option.bind (app 24 a37 [sv]) fun a40 => Option.bind (subL l kv4 (l.length : Int)) fun a43 => Option.bind (app 24 a40 a43) fun a44 => some a44
noncomputable def ref8_After_l1 (ov : TOpenTask) (sv : List Int) (a17 : TOpenOperator) : Int → (List (List Int)) → Option (List (List Int)) := fun kv5 states4 => Option.bind (ix a17.outcomes kv5) fun a31 => Option.bind (ref8_Effect ov sv a31) fun a33 => Option.bind (ref7_Insert states4 a33) fun a34 => some a34
def ref8_After_l2 (ov : TOpenTask) (sv : List Int) (a17 : TOpenOperator) (states4 : List (List Int)) : Int → (List Int) → Option (List Int) := fun kv7 c6 => Option.bind (ix a17.outcomes kv7) fun a49 => Option.bind (ref8_Effect ov sv a49) fun a51 => Option.bind (ref1_Place states4 a51) fun a52 => Option.bind (ix c6 a52) fun a57 => Option.bind (ix a17.outcomes kv7) fun a61 => Option.bind (ix c6 a52) fun a65 => some (c6.set a52.toNat (w64 (a57 + a61.weight)))
noncomputable def ref8_After (ov : TOpenTask) (sv : List Int) (op : Int) : Option ((List (List Int)) × (List Int)) := Option.bind (ix ov.operators op) fun a17 => (Option.bind (forR 0 (a17.outcomes.length : Int) (ref8_After_l1 ov sv a17) []) fun states4 => Option.bind (mkL 8 (states4.length : Int) 0) fun a37 => (Option.bind (forR 0 (a17.outcomes.length : Int) (ref8_After_l2 ov sv a17 states4) a37) fun c6 => some (states4, c6)))
def ref8_Reached_j3 : ((List (List Int)) × (List Int)) → Option (((List (List Int)) × (List Int)) ⊕ ((List (List Int)) × Bool)) := fun (c11, c12) => some (.inl (c11, c12))
def ref8_Reached_j5 : ((List (List Int)) × (List Int)) → Option (((List (List Int)) × (List Int)) ⊕ ((List (List Int)) × Bool)) := fun (c17, c18) => some (.inl (c17, c18))
def ref8_Reached_l4 (most : Int) (a52 : (List (List Int)) × (List Int)) : Int → ((List (List Int)) × (List Int)) → Option (((List (List Int)) × (List Int)) ⊕ ((List (List Int)) × Bool)) := fun kv16 (c14, c15) => Option.bind (ix a52.1 kv16) fun a64 => Option.bind (ref1_Word a64) fun a66 => Option.bind (ref1_Has c15 a66) fun a67 => if a67 = true then ref8_Reached_j5 (c14, c15) else if most ≤ (c14.length : Int) then some (.inr ([], false)) else Option.bind (ix a52.1 kv16) fun a75 => Option.bind (app 24 c14 [a75]) fun a78 => Option.bind (ix a52.1 kv16) fun a82 => Option.bind (ref1_Word a82) fun a84 => Option.bind (app 8 c15 [a84]) fun a86 => ref8_Reached_j5 (a78, a86)
noncomputable def ref8_Reached_l2 (ov : TOpenTask) (most : Int) (iv5 : Int) : Int → ((List (List Int)) × (List Int)) → Option (((List (List Int)) × (List Int)) ⊕ ((List (List Int)) × Bool)) := fun op10 (c8, c9) => Option.bind (ix c8 iv5) fun a40 => Option.bind (ref8_Applies ov a40 op10) fun a43 => if (!a43) = true then ref8_Reached_j3 (c8, c9) else Option.bind (ix c8 iv5) fun a49 => Option.bind (ref8_After ov a49 op10) fun a52 => (Option.bind (rngX 0 (a52.1.length : Int) (ref8_Reached_l4 most a52) (c8, c9)) fun | .inl (c14, c15) => ref8_Reached_j3 (c14, c15) | .inr x => some (.inr x))
noncomputable def ref8_Reached_l1 (ov : TOpenTask) (most : Int) : ((List (List Int)) × (List Int) × Int) → Option (((List (List Int)) × (List Int) × Int) ⊕ ((List (List Int)) ⊕ ((List (List Int)) × Bool))) := fun (c3, c4, iv5) => if iv5 < (c3.length : Int) then (Option.bind (rngX 0 (ov.operators.length : Int) (ref8_Reached_l2 ov most iv5) (c3, c4)) fun | .inl (c8, c9) => some (.inl (c8, c9, w64 (iv5 + 1))) | .inr x => some (.inr (.inr x))) else some (.inr (.inl c3))
noncomputable def ref8_Reached_l6 (c6 : List (List Int)) : Int → (List (List Int)) → Option (List (List Int)) := fun iv22 out21 => Option.bind (ix c6 iv22) fun a96 => Option.bind (ref7_Insert out21 a96) fun a98 => some a98
noncomputable def ref8_Reached (ov : TOpenTask) (most : Int) : Option ((List (List Int)) × Bool) := Option.bind (ref1_Word ov.init) fun a21 => Option.bind (app 8 [] [a21]) fun a23 => Option.bind (Loop (ref8_Reached_l1 ov most) ([ov.init], a23, 0)) fun | .inl c6 => (Option.bind (forR 0 (c6.length : Int) (ref8_Reached_l6 c6) []) fun out21 => some (out21, true)) | .inr x => some x
def equal_TwoInts_l1 (av : List (Int × Int)) (bv : List (Int × Int)) : Int → Unit → Option (Unit ⊕ Bool) := fun iv4 _ => Option.bind (ix av iv4) fun a19 => Option.bind (ix bv iv4) fun a23 => if (!((decide (a19.1 = a23.1)) && (decide (a19.2 = a23.2)))) = true then some (.inr false) else some (.inl ())
def equal_TwoInts (av : List (Int × Int)) (bv : List (Int × Int)) : Option Bool := if (av.length : Int) = (bv.length : Int) then (Option.bind (rngX 0 (av.length : Int) (equal_TwoInts_l1 av bv) ()) fun | .inl _ => some true | .inr x => some x) else some false
def law8_OpenMatchesSpec_l3 (iv15 : Int) (a129 : TOpenOperator) : Int → ((List (Int × Int)) × (List TOperator)) → Option ((List (Int × Int)) × (List TOperator)) := fun kv18 (c16, c17) => Option.bind (ix a129.outcomes kv18) fun a145 => Option.bind (ix a129.outcomes kv18) fun a151 => Option.bind (app 80 c17 [(⟨a129.pre, a145.add, a151.del, a129.cost⟩ : TOperator)]) fun a158 => Option.bind (app 16 c16 [(iv15, kv18)]) fun a165 => some (a165, a158)
def law8_OpenMatchesSpec_l2 (ov : TOpenTask) : Int → ((List (Int × Int)) × (List TOperator)) → Option ((List (Int × Int)) × (List TOperator)) := fun iv15 (c13, c14) => Option.bind (ix ov.operators iv15) fun a129 => (Option.bind (forR 0 (a129.outcomes.length : Int) (law8_OpenMatchesSpec_l3 iv15 a129) (c13, c14)) fun ⟨c16, c17⟩ => some (c16, c17))
noncomputable def law8_OpenMatchesSpec_j4 (ov : TOpenTask) (sv : List Int) (op : Int) (a29 : (List (List Int)) × (List Int) × TFault) : Unit → Option Bool := fun _ => Option.bind (Option.bind (ref1_IsSet sv ov.facts) fun a196 => if (!a196) = true then Option.bind (ref1_At 5 (-4)) fun a198 => some (a198.code, a198.index) else Option.bind (ref1_In op 0 ((ov.operators.length : Int) - 1)) fun a204 => if (!a204) = true then Option.bind (ref1_At 3 (-6)) fun a206 => some (a206.code, a206.index) else Option.bind (ref8_Applies ov sv op) fun a210 => if (!a210) = true then Option.bind (ref1_At 11 op) fun a213 => some (a213.code, a213.index) else some (0, 0)) fun ⟨c19, c20⟩ => if c19 = 0 then Option.bind (ref8_After ov sv op) fun a235 => Option.bind (if a29.2.2.code = 0 then Option.bind (equal_Sets a29.1 a235.1) fun a244 => if a244 = true then Option.bind (equal_Numbers a29.2.1 a235.2) fun a249 => if a249 = true then Option.bind (law8_tossed) fun a252 => some a252 else some false else some false else some false) fun t30 => some t30 else Option.bind (if ((decide (a29.2.2.code = c19)) && (decide (a29.2.2.index = c20))) = true then if w64 ((a29.1.length : Int) + (a29.2.1.length : Int)) = 0 then Option.bind (law8_tossed) fun a229 => some a229 else some false else some false) fun t26 => some t26
noncomputable def law8_OpenMatchesSpec_j1 (ov : TOpenTask) (sv : List Int) (op : Int) (a29 : (List (List Int)) × (List Int) × TFault) (a35 : TTask × (List (Int × Int)) × TFault) : Unit → Option Bool := fun _ => (Option.bind (forR 0 (ov.operators.length : Int) (law8_OpenMatchesSpec_l2 ov) ([], [])) fun ⟨c13, c14⟩ => if 40 < (c13.length : Int) then Option.bind (ref1_At 10 (-1)) fun a170 => if ((!((decide (a35.2.2.code = a170.code)) && (decide (a35.2.2.index = a170.index)))) || (decide (0 < (a35.2.1.length : Int)))) = true then some false else (law8_OpenMatchesSpec_j4 ov sv op a29) () else Option.bind (if (!(decide (a35.2.2.code = 0))) = true then some true else Option.bind (equal_Planning a35.1 (⟨ov.facts, ov.init, ov.goal, c14⟩ : TTask)) fun a183 => if (!a183) = true then some true else Option.bind (equal_TwoInts a35.2.1 c13) fun a189 => some (!a189)) fun t37 => if t37 = true then some false else (law8_OpenMatchesSpec_j4 ov sv op a29) ())
noncomputable def law8_OpenMatchesSpec (ov : TOpenTask) (sv : List Int) (op : Int) : Option Bool := Option.bind (open_Outcomes ov sv op) fun a29 => Option.bind (open_Determinize ov) fun a35 => Option.bind (open_Explore ov) fun a41 => Option.bind (ref8_OpenFault ov) fun a45 => Option.bind (open_Validate ov) fun a47 => if (!((decide (a47.code = a45.code)) && (decide (a47.index = a45.index)))) = true then some false else if a45.code = 0 then Option.bind (ref8_Reached ov 2000) fun a90 => if (!a90.2) = true then Option.bind (ref1_At 10 (-7)) fun a96 => if ((!((decide (a41.2.code = a96.code)) && (decide (a41.2.index = a96.index)))) || (decide (0 < (a41.1.length : Int)))) = true then some false else (law8_OpenMatchesSpec_j1 ov sv op a29 a35) () else Option.bind (if (!(decide (a41.2.code = 0))) = true then some true else Option.bind (equal_Sets a41.1 a90.1) fun a109 => some (!a109)) fun t44 => if t44 = true then some false else (law8_OpenMatchesSpec_j1 ov sv op a29 a35) () else Option.bind (if ((decide (a29.2.2.code = a45.code)) && (decide (a29.2.2.index = a45.index))) = true then if ((decide (a35.2.2.code = a45.code)) && (decide (a35.2.2.index = a45.index))) = true then if ((decide (a41.2.code = a45.code)) && (decide (a41.2.index = a45.index))) = true then if w64 ((w64 ((w64 ((a29.1.length : Int) + (a29.2.1.length : Int))) + (a35.2.1.length : Int))) + (a41.1.length : Int)) = 0 then Option.bind (equal_Planning a35.1 (⟨0, [], [], []⟩ : TTask)) fun a83 => if a83 = true then Option.bind (law8_tossed) fun a86 => some a86 else some false else some false else some false else some false else some false) fun t6 => some t6
end Ab
end
section
namespace Go.Proofs
open Go.Shelf
def Tryd.lays215_ren : Go.Shelf.Ren := ⟨fun | 215 => 61 | n => n, fun | 3 => 3 | 4 => 4 | n => n, fun | n => n⟩
theorem Tryd.lays215 : Go.Proofs.Lays.n215 Tryd.prog Tryd.lays215_ren := {
  mixed := by kernel_rfl
  f215 := Tryd.func61.trans (congrArg some (by kernel_rfl))
  t3 := Tryd.underlying3
  a3 := Tryd.isAgg3
  z3 := Tryd.sizeOf3
  v3 := Tryd.zeroValue3
  t4 := Tryd.underlying4
  a4 := Tryd.isAgg4
  z4 := Tryd.sizeOf4
  v4 := Tryd.zeroValue4 }
open Go.RowKit in
/-- cmp.isNaN at int: 'x != x': false. (LAID: no walk: one application.) -/
theorem Tryd.cmp_isNaN_int (x : Int) (w : World) :
    Calls Tryd.prog 61 #[.int .i64 x] w fun e w' => e = .returned (.bool false) ∧ w' = w := Any.cmp_isNaN_int Tryd.lays215 x w
def Tryd.lays122_ren : Go.Shelf.Ren := ⟨fun | 122 => 52 | 215 => 61 | n => n, fun | 3 => 3 | 4 => 4 | n => n, fun | n => n⟩
theorem Tryd.lays122 : Go.Proofs.Lays.n122 Tryd.prog Tryd.lays122_ren := {
  mixed := by kernel_rfl
  f122 := Tryd.func52.trans (congrArg some (by kernel_rfl))
  f215 := Tryd.func61.trans (congrArg some (by kernel_rfl))
  t3 := Tryd.underlying3
  a3 := Tryd.isAgg3
  z3 := Tryd.sizeOf3
  v3 := Tryd.zeroValue3
  t4 := Tryd.underlying4
  a4 := Tryd.isAgg4
  z4 := Tryd.sizeOf4
  v4 := Tryd.zeroValue4 }
open Go.RowKit in
/-- cmp.Compare at int: "Compare returns -1 if x is less than y, 0 if x equals y, +1 if x is greater than y.": IT RETURNS 'Lib.compareInt x y'; the world is as' it was. (LAID: no walk: one application.) -/
theorem Tryd.cmp_Compare_int (x y : Int) (w : World) :
    Calls Tryd.prog 52 #[.int .i64 x, .int .i64 y] w fun e w' => e = .returned (.int .i64 (Lib.compareInt x y)) ∧ w' = w := Any.cmp_Compare_int Tryd.lays122 x y w
def Tryd.lays283_ren : Go.Shelf.Ren := ⟨fun | 283 => 82 | n => n, fun | 3 => 3 | 9 => 9 | 4 => 4 | n => n, fun | n => n⟩
theorem Tryd.lays283 : Go.Proofs.Lays.n283 Tryd.prog Tryd.lays283_ren := {
  mixed := by kernel_rfl
  f283 := Tryd.func82.trans (congrArg some (by kernel_rfl))
  t3 := Tryd.underlying3
  a3 := Tryd.isAgg3
  z3 := Tryd.sizeOf3
  v3 := Tryd.zeroValue3
  t4 := Tryd.underlying4
  a4 := Tryd.isAgg4
  z4 := Tryd.sizeOf4
  v4 := Tryd.zeroValue4
  t9 := Tryd.underlying9
  a9 := Tryd.isAgg9
  z9 := Tryd.sizeOf9
  v9 := Tryd.zeroValue9 }
open Go.Lib in
/-- internal/strconv.small: "small returns the string for an i with 0 <= i < nSmalls.": i's decimal numeral. The world is as' it was. (LAID: no walk: one application.) -/
theorem Tryd.internal_strconv_small (i : Nat) (h : i < 100) (w : World) :
    Calls Tryd.prog 82 #[.int .i64 i] w fun e w' => e = .returned (.string ⟨(Lib.decDigits i).toArray⟩) ∧ w' = w := Any.internal_strconv_small Tryd.lays283 i h w
def Tryd.lays189_ren : Go.Shelf.Ren := ⟨fun | 189 => 50 | 125 => 57 | 257 => 60 | 128 => 72 | 129 => 73 | 294 => 74 | 295 => 75 | 296 => 76 | 297 => 77 | 298 => 78 | 299 => 79 | 216 => 58 | 300 => 80 | 301 => 81 | 328 => 91 | 329 => 87 | 330 => 88 | 331 => 92 | 332 => 93 | 215 => 61 | 343 => 99 | n => n, fun | 28 => 22 | 3 => 3 | 46 => 77 | 0 => 0 | 51 => 102 | 53 => 92 | 4 => 4 | 183 => 96 | 182 => 95 | 131 => 74 | 5 => 5 | 9 => 9 | 218 => 114 | 222 => 118 | 228 => 126 | 229 => 127 | n => n, fun | n => n⟩
theorem Tryd.lays189 : Go.Proofs.Lays.n189 Tryd.prog Tryd.lays189_ren := {
  mixed := by kernel_rfl
  f125 := Tryd.func57.trans (congrArg some (by kernel_rfl))
  f128 := Tryd.func72.trans (congrArg some (by kernel_rfl))
  f129 := Tryd.func73.trans (congrArg some (by kernel_rfl))
  f189 := Tryd.func50.trans (congrArg some (by kernel_rfl))
  f215 := Tryd.func61.trans (congrArg some (by kernel_rfl))
  f216 := Tryd.func58.trans (congrArg some (by kernel_rfl))
  f257 := Tryd.func60.trans (congrArg some (by kernel_rfl))
  f294 := Tryd.func74.trans (congrArg some (by kernel_rfl))
  f295 := Tryd.func75.trans (congrArg some (by kernel_rfl))
  f296 := Tryd.func76.trans (congrArg some (by kernel_rfl))
  f297 := Tryd.func77.trans (congrArg some (by kernel_rfl))
  f298 := Tryd.func78.trans (congrArg some (by kernel_rfl))
  f299 := Tryd.func79.trans (congrArg some (by kernel_rfl))
  f300 := Tryd.func80.trans (congrArg some (by kernel_rfl))
  f301 := Tryd.func81.trans (congrArg some (by kernel_rfl))
  f328 := Tryd.func91.trans (congrArg some (by kernel_rfl))
  f329 := Tryd.func87.trans (congrArg some (by kernel_rfl))
  f330 := Tryd.func88.trans (congrArg some (by kernel_rfl))
  f331 := Tryd.func92.trans (congrArg some (by kernel_rfl))
  f332 := Tryd.func93.trans (congrArg some (by kernel_rfl))
  f343 := Tryd.func99.trans (congrArg some (by kernel_rfl))
  t0 := Tryd.underlying0
  a0 := Tryd.isAgg0
  z0 := Tryd.sizeOf0
  v0 := Tryd.zeroValue0
  t3 := Tryd.underlying3
  a3 := Tryd.isAgg3
  z3 := Tryd.sizeOf3
  v3 := Tryd.zeroValue3
  t4 := Tryd.underlying4
  a4 := Tryd.isAgg4
  z4 := Tryd.sizeOf4
  v4 := Tryd.zeroValue4
  t5 := Tryd.underlying5
  a5 := Tryd.isAgg5
  z5 := Tryd.sizeOf5
  v5 := Tryd.zeroValue5
  t9 := Tryd.underlying9
  a9 := Tryd.isAgg9
  z9 := Tryd.sizeOf9
  v9 := Tryd.zeroValue9
  t28 := Tryd.underlying22
  a28 := Tryd.isAgg22
  z28 := Tryd.sizeOf22
  v28 := Tryd.zeroValue22
  t46 := Tryd.underlying77
  a46 := Tryd.isAgg77
  z46 := Tryd.sizeOf77
  v46 := Tryd.zeroValue77
  t51 := Tryd.underlying102
  a51 := Tryd.isAgg102
  z51 := Tryd.sizeOf102
  v51 := Tryd.zeroValue102
  t53 := Tryd.underlying92
  a53 := Tryd.isAgg92
  z53 := Tryd.sizeOf92
  v53 := Tryd.zeroValue92
  t131 := Tryd.underlying74
  a131 := Tryd.isAgg74
  z131 := Tryd.sizeOf74
  v131 := Tryd.zeroValue74
  t182 := Tryd.underlying95
  a182 := Tryd.isAgg95
  z182 := Tryd.sizeOf95
  v182 := Tryd.zeroValue95
  t183 := Tryd.underlying96
  a183 := Tryd.isAgg96
  z183 := Tryd.sizeOf96
  v183 := Tryd.zeroValue96
  t218 := Tryd.underlying114
  a218 := Tryd.isAgg114
  z218 := Tryd.sizeOf114
  v218 := Tryd.zeroValue114
  t222 := Tryd.underlying118
  a222 := Tryd.isAgg118
  z222 := Tryd.sizeOf118
  v222 := Tryd.zeroValue118
  t228 := Tryd.underlying126
  a228 := Tryd.isAgg126
  z228 := Tryd.sizeOf126
  v228 := Tryd.zeroValue126
  t229 := Tryd.underlying127
  a229 := Tryd.isAgg127
  z229 := Tryd.sizeOf127
  v229 := Tryd.zeroValue127 }
open Go.Sort Go.RowKit in
theorem Tryd.slices_Sort_int (blk off cap : Nat) (zs : List Int) (w : World) (hH : Holds (Value.int .i64) w blk off zs.toArray) (hblk : blk < w.heap.size) (hsz : zs.length < 4611686018427387904) :
    Calls Tryd.prog 50 #[.slice (some ⟨blk, off, none⟩) zs.length cap] w fun e w' =>
      e = .returned (.tuple #[]) ∧ ∃ n os, w' = grow (putRow (Value.int .i64) (Sort.ahead w n) blk off (zs.mergeSort fun x y => decide (x ≤ y)).toArray) os := Any.slices_Sort_int Tryd.lays189 blk off cap zs w hH hblk hsz
def Tryd.laysNm220_ren : Go.Shelf.Ren := ⟨fun | 20 => 51 | n => n, fun | 22 => 22 | 3 => 3 | 4 => 4 | 0 => 0 | n => n, fun | n => n⟩
theorem Tryd.laysNm220 : Go.Proofs.Lays2.n20 Tryd.prog Tryd.laysNm220_ren := {
  mixed := by kernel_rfl
  f20 := Tryd.func51.trans (congrArg some (by kernel_rfl))
  t0 := Tryd.underlying0
  a0 := Tryd.isAgg0
  z0 := Tryd.sizeOf0
  v0 := Tryd.zeroValue0
  t3 := Tryd.underlying3
  a3 := Tryd.isAgg3
  z3 := Tryd.sizeOf3
  v3 := Tryd.zeroValue3
  t4 := Tryd.underlying4
  a4 := Tryd.isAgg4
  z4 := Tryd.sizeOf4
  v4 := Tryd.zeroValue4
  t22 := Tryd.underlying22
  a22 := Tryd.isAgg22
  z22 := Tryd.sizeOf22
  v22 := Tryd.zeroValue22
  i3 := by kernel_rfl }
open Go.RowKit Go.Lib Go.Sort in
/-- slices.Compact at []int: "Compact replaces consecutive runs of equal elements with a single copy. This is like the uniq command found on Unix. Compact modifies the contents of the slice s and returns the modified slice, which may have a smaller length. Compact zeroes the elements between the new length and the original length. The result preserves the nilness of s.": IT RETURNS THE SLICE CUT TO 'Lib.compact zs'; ITS CELLS HOLD 'Lib.compact zs', THEN ZERO VALUES up to the old length; all else is as' it was, but for the count of draws. IN THE WORDS OF slices.Sort's CONTRACT ('Holds', 'putRow'): so the everyday 'slices.Sort(xs); xs = slices.Compact(xs)' goes from the one contract to the other. It asks 'zs.length ≤ cap' (every slice's: the reslicing 's[:k]' looks at it). Length 0, nil: '.._empty'. (LAID: no walk: one application.) -/
theorem Tryd.slices_Compact_int (blk off cap : Nat) (zs : List Int) (w : World) (hH : Holds (Value.int .i64) w blk off zs.toArray) (hsz : zs.length ≤ 9223372036854775807) (hcap : zs.length ≤ cap) :
    Calls Tryd.prog 51 #[.slice (some ⟨blk, off, none⟩) zs.length cap] w fun e w' => e = .returned (.slice (some ⟨blk, off, none⟩) (Lib.compact zs).length cap) ∧ ∃ q, w' = putRow (Value.int .i64) (Sort.ahead w q) blk off (Lib.compact zs ++ List.replicate (zs.length - (Lib.compact zs).length) 0).toArray := Any.slices_Compact_int Tryd.laysNm220 blk off cap zs w hH hsz hcap
open Go.RowKit Go.Lib Go.Sort in
/-- The same at a slice of length 0, a nil one too: it comes back as' it is. (LAID: no walk: one application.) -/
theorem Tryd.slices_Compact_int_empty (a : Option Addr) (cap : Nat) (w : World) :
    Calls Tryd.prog 51 #[.slice a 0 cap] w fun e w' => e = .returned (.slice a 0 cap) ∧ w' = w := Any.slices_Compact_int_empty Tryd.laysNm220 a cap w
open Go.RowKit Go.Sort in
/-- .. and plain. (LAID: no walk: one application.) -/
theorem Tryd.slices_Sort_int_none (p : Option Addr) (cap : Nat) (w : World) :
    Calls Tryd.prog 50 #[.slice p 0 cap] w fun e w' => e = .returned (.tuple #[]) ∧ w' = w := Any.slices_Sort_int_none Tryd.lays189 p cap w
def Tryd.laysSlF6_f46_ren : Go.Shelf.Ren := ⟨fun | 6 => 46 | 15 => 57 | 14 => 56 | 28 => 72 | 29 => 73 | 20 => 64 | 21 => 65 | 22 => 66 | 23 => 67 | 24 => 68 | 25 => 69 | 26 => 70 | 27 => 71 | 46 => 86 | 47 => 87 | 48 => 88 | 49 => 89 | 50 => 90 | 57 => 98 | n => n, fun | 22 => 26 | 24 => 22 | 25 => 76 | 3 => 3 | 39 => 77 | 0 => 0 | 53 => 102 | 55 => 92 | 4 => 4 | 46 => 96 | 45 => 95 | 50 => 74 | 5 => 5 | 9 => 9 | 66 => 114 | 70 => 118 | 76 => 126 | 77 => 127 | n => n, fun | n => n⟩
theorem Tryd.laysSlF6_f46 : Go.Proofs.SlLaysF.n6 Tryd.prog Tryd.laysSlF6_f46_ren := {
  mixed := by kernel_rfl
  f6 := ⟨Tryd.f46.name, by decide, Tryd.func46.trans (congrArg some (by kernel_rfl))⟩
  f14 := ⟨Tryd.f56.name, by decide, Tryd.func56.trans (congrArg some (by kernel_rfl))⟩
  f15 := Tryd.func57.trans (congrArg some (by kernel_rfl))
  f20 := ⟨Tryd.f64.name, by decide, Tryd.func64.trans (congrArg some (by kernel_rfl))⟩
  f21 := ⟨Tryd.f65.name, by decide, Tryd.func65.trans (congrArg some (by kernel_rfl))⟩
  f22 := ⟨Tryd.f66.name, by decide, Tryd.func66.trans (congrArg some (by kernel_rfl))⟩
  f23 := ⟨Tryd.f67.name, by decide, Tryd.func67.trans (congrArg some (by kernel_rfl))⟩
  f24 := ⟨Tryd.f68.name, by decide, Tryd.func68.trans (congrArg some (by kernel_rfl))⟩
  f25 := ⟨Tryd.f69.name, by decide, Tryd.func69.trans (congrArg some (by kernel_rfl))⟩
  f26 := ⟨Tryd.f70.name, by decide, Tryd.func70.trans (congrArg some (by kernel_rfl))⟩
  f27 := ⟨Tryd.f71.name, by decide, Tryd.func71.trans (congrArg some (by kernel_rfl))⟩
  f28 := Tryd.func72.trans (congrArg some (by kernel_rfl))
  f29 := Tryd.func73.trans (congrArg some (by kernel_rfl))
  f46 := ⟨Tryd.f86.name, by decide, Tryd.func86.trans (congrArg some (by kernel_rfl))⟩
  f47 := Tryd.func87.trans (congrArg some (by kernel_rfl))
  f48 := Tryd.func88.trans (congrArg some (by kernel_rfl))
  f49 := ⟨Tryd.f89.name, by decide, Tryd.func89.trans (congrArg some (by kernel_rfl))⟩
  f50 := ⟨Tryd.f90.name, by decide, Tryd.func90.trans (congrArg some (by kernel_rfl))⟩
  f57 := ⟨Tryd.f98.name, by decide, Tryd.func98.trans (congrArg some (by kernel_rfl))⟩
  t0 := Tryd.underlying0
  a0 := Tryd.isAgg0
  z0 := Tryd.sizeOf0
  v0 := Tryd.zeroValue0
  t3 := Tryd.underlying3
  a3 := Tryd.isAgg3
  z3 := Tryd.sizeOf3
  v3 := Tryd.zeroValue3
  t4 := Tryd.underlying4
  a4 := Tryd.isAgg4
  z4 := Tryd.sizeOf4
  v4 := Tryd.zeroValue4
  t5 := Tryd.underlying5
  a5 := Tryd.isAgg5
  z5 := Tryd.sizeOf5
  v5 := Tryd.zeroValue5
  t9 := Tryd.underlying9
  a9 := Tryd.isAgg9
  z9 := Tryd.sizeOf9
  v9 := Tryd.zeroValue9
  t22 := Tryd.underlying26
  a22 := Tryd.isAgg26
  z22 := Tryd.sizeOf26
  v22 := Tryd.zeroValue26
  a24 := Tryd.isAgg22
  z24 := Tryd.sizeOf22
  t25 := Tryd.underlying76
  a25 := Tryd.isAgg76
  z25 := Tryd.sizeOf76
  v25 := Tryd.zeroValue76
  t39 := Tryd.underlying77
  a39 := Tryd.isAgg77
  z39 := Tryd.sizeOf77
  v39 := Tryd.zeroValue77
  t45 := Tryd.underlying95
  a45 := Tryd.isAgg95
  z45 := Tryd.sizeOf95
  v45 := Tryd.zeroValue95
  t46 := Tryd.underlying96
  a46 := Tryd.isAgg96
  z46 := Tryd.sizeOf96
  v46 := Tryd.zeroValue96
  t50 := Tryd.underlying74
  a50 := Tryd.isAgg74
  z50 := Tryd.sizeOf74
  v50 := Tryd.zeroValue74
  t53 := Tryd.underlying102
  a53 := Tryd.isAgg102
  z53 := Tryd.sizeOf102
  v53 := Tryd.zeroValue102
  t55 := Tryd.underlying92
  a55 := Tryd.isAgg92
  z55 := Tryd.sizeOf92
  v55 := Tryd.zeroValue92
  t66 := Tryd.underlying114
  a66 := Tryd.isAgg114
  z66 := Tryd.sizeOf114
  v66 := Tryd.zeroValue114
  t70 := Tryd.underlying118
  a70 := Tryd.isAgg118
  z70 := Tryd.sizeOf118
  v70 := Tryd.zeroValue118
  t76 := Tryd.underlying126
  a76 := Tryd.isAgg126
  z76 := Tryd.sizeOf126
  v76 := Tryd.zeroValue126
  t77 := Tryd.underlying127
  a77 := Tryd.isAgg127
  z77 := Tryd.sizeOf127
  v77 := Tryd.zeroValue127 }
open Go.RowKit Go.Lib Go.Sort in
/-- **slices.SortFunc, IN THE DOCUMENTATION's OWN TERMS: A PERMUTATION OF WHAT THE ROW HELD, SORTED BY 'cmp(a, b) < 0'.** Which of two equals comes first is left open ("The sort is not guaranteed to be stable"). (LAID AT THE INSTANCE 'slices.SortFunc[[][]int,[]int]': no walk: one application.) -/
theorem Tryd.slices_SortFunc {α : Type} [Inhabited α] (enc : α → Value) (h1 : OneCell enc) (cf : α → α → Int) (hO : SWO (ltOf cf)) (g : Nat) (cb : Array Value) (blk off cap : Nat) (d : Array α) (w : World) (eg : ∀ args w, (callFunc g args).run Tryd.prog w = .ok (.enter g args) w) (hcmp : CmpLays1 Tryd.prog g cb enc cf blk off d.size w) (hH : Holds enc w blk off d) (hblk : blk < w.heap.size) (hsz : d.size < 4611686018427387904) :
    Calls Tryd.prog 46 #[.slice (some ⟨blk, off, none⟩) d.size cap, .func (.func g) #[] cb] w fun e w' =>
      e = .returned (.tuple #[]) ∧ ∃ d' n os, PermIn 0 d.size d d' ∧ SortedIn (ltOf cf) 0 d.size d' ∧ w' = sortWorld enc w blk off n d' os := Any.slices_SortFunc Tryd.laysSlF6_f46 enc h1 cf hO g cb blk off cap d w eg hcmp hH hblk hsz
def Tryd.laysSlF06_f46_ren : Go.Shelf.Ren := ⟨fun | 6 => 46 | 15 => 57 | 14 => 56 | 28 => 72 | 29 => 73 | 20 => 64 | 21 => 65 | 22 => 66 | 23 => 67 | 24 => 68 | 25 => 69 | 26 => 70 | 27 => 71 | 46 => 86 | 47 => 87 | 48 => 88 | 49 => 89 | 50 => 90 | 57 => 98 | n => n, fun | 22 => 26 | 24 => 22 | 25 => 76 | 3 => 3 | 39 => 77 | 0 => 0 | 53 => 102 | 55 => 92 | 4 => 4 | 46 => 96 | 45 => 95 | 50 => 74 | 5 => 5 | 9 => 9 | 66 => 114 | 70 => 118 | 76 => 126 | 77 => 127 | n => n, fun | n => n⟩
theorem Tryd.laysSlF06_f46 : Go.Proofs.SlLaysF0.n6 Tryd.prog Tryd.laysSlF06_f46_ren := {
  mixed := by kernel_rfl
  f6 := ⟨Tryd.f46.name, by decide, Tryd.func46.trans (congrArg some (by kernel_rfl))⟩
  f14 := ⟨Tryd.f56.name, by decide, Tryd.func56.trans (congrArg some (by kernel_rfl))⟩
  f15 := Tryd.func57.trans (congrArg some (by kernel_rfl))
  f20 := ⟨Tryd.f64.name, by decide, Tryd.func64.trans (congrArg some (by kernel_rfl))⟩
  f21 := ⟨Tryd.f65.name, by decide, Tryd.func65.trans (congrArg some (by kernel_rfl))⟩
  f22 := ⟨Tryd.f66.name, by decide, Tryd.func66.trans (congrArg some (by kernel_rfl))⟩
  f23 := ⟨Tryd.f67.name, by decide, Tryd.func67.trans (congrArg some (by kernel_rfl))⟩
  f24 := ⟨Tryd.f68.name, by decide, Tryd.func68.trans (congrArg some (by kernel_rfl))⟩
  f25 := ⟨Tryd.f69.name, by decide, Tryd.func69.trans (congrArg some (by kernel_rfl))⟩
  f26 := ⟨Tryd.f70.name, by decide, Tryd.func70.trans (congrArg some (by kernel_rfl))⟩
  f27 := ⟨Tryd.f71.name, by decide, Tryd.func71.trans (congrArg some (by kernel_rfl))⟩
  f28 := Tryd.func72.trans (congrArg some (by kernel_rfl))
  f29 := Tryd.func73.trans (congrArg some (by kernel_rfl))
  f46 := ⟨Tryd.f86.name, by decide, Tryd.func86.trans (congrArg some (by kernel_rfl))⟩
  f47 := Tryd.func87.trans (congrArg some (by kernel_rfl))
  f48 := Tryd.func88.trans (congrArg some (by kernel_rfl))
  f49 := ⟨Tryd.f89.name, by decide, Tryd.func89.trans (congrArg some (by kernel_rfl))⟩
  f50 := ⟨Tryd.f90.name, by decide, Tryd.func90.trans (congrArg some (by kernel_rfl))⟩
  f57 := ⟨Tryd.f98.name, by decide, Tryd.func98.trans (congrArg some (by kernel_rfl))⟩
  t0 := Tryd.underlying0
  a0 := Tryd.isAgg0
  z0 := Tryd.sizeOf0
  v0 := Tryd.zeroValue0
  t3 := Tryd.underlying3
  a3 := Tryd.isAgg3
  z3 := Tryd.sizeOf3
  v3 := Tryd.zeroValue3
  t4 := Tryd.underlying4
  a4 := Tryd.isAgg4
  z4 := Tryd.sizeOf4
  v4 := Tryd.zeroValue4
  t5 := Tryd.underlying5
  a5 := Tryd.isAgg5
  z5 := Tryd.sizeOf5
  v5 := Tryd.zeroValue5
  t9 := Tryd.underlying9
  a9 := Tryd.isAgg9
  z9 := Tryd.sizeOf9
  v9 := Tryd.zeroValue9
  t22 := Tryd.underlying26
  a22 := Tryd.isAgg26
  z22 := Tryd.sizeOf26
  v22 := Tryd.zeroValue26
  t25 := Tryd.underlying76
  a25 := Tryd.isAgg76
  z25 := Tryd.sizeOf76
  v25 := Tryd.zeroValue76
  t39 := Tryd.underlying77
  a39 := Tryd.isAgg77
  z39 := Tryd.sizeOf77
  v39 := Tryd.zeroValue77
  t45 := Tryd.underlying95
  a45 := Tryd.isAgg95
  z45 := Tryd.sizeOf95
  v45 := Tryd.zeroValue95
  t46 := Tryd.underlying96
  a46 := Tryd.isAgg96
  z46 := Tryd.sizeOf96
  v46 := Tryd.zeroValue96
  t50 := Tryd.underlying74
  a50 := Tryd.isAgg74
  z50 := Tryd.sizeOf74
  v50 := Tryd.zeroValue74
  t53 := Tryd.underlying102
  a53 := Tryd.isAgg102
  z53 := Tryd.sizeOf102
  v53 := Tryd.zeroValue102
  t55 := Tryd.underlying92
  a55 := Tryd.isAgg92
  z55 := Tryd.sizeOf92
  v55 := Tryd.zeroValue92
  t66 := Tryd.underlying114
  a66 := Tryd.isAgg114
  z66 := Tryd.sizeOf114
  v66 := Tryd.zeroValue114
  t70 := Tryd.underlying118
  a70 := Tryd.isAgg118
  z70 := Tryd.sizeOf118
  v70 := Tryd.zeroValue118
  t76 := Tryd.underlying126
  a76 := Tryd.isAgg126
  z76 := Tryd.sizeOf126
  v76 := Tryd.zeroValue126
  t77 := Tryd.underlying127
  a77 := Tryd.isAgg127
  z77 := Tryd.sizeOf127
  v77 := Tryd.zeroValue127 }
open Go.RowKit Go.Lib Go.Sort in
/-- **slices.SortFunc AT NO ELEMENT, A nil SLICE TOO: nothing turns.** (LAID AT THE INSTANCE 'slices.SortFunc[[][]int,[]int]': no walk: one application.) -/
theorem Tryd.slices_SortFunc_none {α : Type} [Inhabited α] (p : Option Addr) (cap : Nat) (fv : Value) (w : World) :
    Calls Tryd.prog 46 #[.slice p 0 cap, fv] w fun e w' => e = .returned (.tuple #[]) ∧ w' = w := AnyF.slices_SortFunc_none Tryd.laysSlF06_f46 p cap fv w
end Go.Proofs
end
section
namespace Ab
open Go Go.Proofs
theorem sort_facts : fnFacts Tryd.prog 50 := ⟨_, Tryd.func50, rfl, rfl⟩
theorem compact_facts : fnFacts Tryd.prog 51 := ⟨_, Tryd.func51, rfl, rfl⟩
theorem sortL_ok : SortOk Tryd.prog 50 := fun hσ hl => sort_fn sort_facts (fun blk off cap zs w hH hb hs => Tryd.slices_Sort_int blk off cap zs w hH hb hs) (fun p cap w => Tryd.slices_Sort_int_none p cap w) hσ hl
theorem compactL_ok : CompactOk Tryd.prog 51 := fun hσ => compact_fn compact_facts (fun blk off cap zs w hH hs hc => Tryd.slices_Compact_int blk off cap zs w hH hs hc) (fun a cap w => Tryd.slices_Compact_int_empty a cap w) hσ
end Ab
end
section
namespace Ab
open Go Go.Proofs
theorem sortF_facts : fnFacts Tryd.prog 46 := ⟨_, Tryd.func46, rfl, rfl⟩
theorem sortF_LLi64_ok : SortFOk Tryd.prog 46 := fun hgn hO hT hg _ _ _ hσ hl => sortF_fn sortF_facts hgn hO hT hg (fun β _ enc h1 cf hO g cb blk off cap d w eg hcmp hH hblk hsz => Tryd.slices_SortFunc enc h1 cf hO g cb blk off cap d w eg hcmp hH hblk hsz) (fun p cap fv w => Tryd.slices_SortFunc_none (α := Unit) p cap fv w) hσ hl
end Ab
end
