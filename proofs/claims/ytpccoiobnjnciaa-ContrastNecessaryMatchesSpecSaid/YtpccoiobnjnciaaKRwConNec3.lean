/-
  Texts that the proof stands on.
-/
import Derived.Test.YtpccoiobnjnciaaKRwConNec2
import Derived.Laws.Cover3
import Derived.Shelf.RegionOpenPlain
import Derived.Deep.RegionLaw
import Derived.Lib.Walk
import Derived.Lib.SliceRun
import Derived.Lib.JoinLaws
import Derived.Laws.Externs
import Derived.Laws.IdiomCopy
import Derived.Laws.NewBlocks
import Derived.Shelf.Small.Bits
import Derived.Shelf.Strconv.Itoa0
import Derived.Shelf.Sort.Plain
import Derived.Ground.Names2Prog
import Derived.Shelf.Slices.Clone
import Derived.Shelf.Slices.SearchI
import Derived.Shelf.Slices.Cells
import Derived.Shelf.Slices.In.SortNone
import Derived.Shelf.Slices.Empties
import Derived.Ground.SlsfProg
import Derived.Shelf.SlSortCmp.Insertion
import Derived.Shelf.SlSortCmp.SiftDown1
import Derived.Shelf.SlSortCmp.HeapSort1
import Derived.Shelf.SlSortCmp.Insertion1
import Derived.Shelf.SlSortCmp.Median1
import Derived.Shelf.SlSortCmp.Pivot1
import Derived.Shelf.SlSortCmp.ReverseRange1
import Derived.Shelf.SlSortCmp.PartialInsertion1
import Derived.Shelf.SlSortCmp.PartitionEqual1
import Derived.Shelf.SlSortCmp.Partition1
import Derived.Shelf.SlSortCmp.Pdq1
import Derived.Shelf.SlSortCmp.NoneTotal
import Derived.Test.YtpccoiobnjnciaaProg
set_option linter.all false
section
namespace Ab
open Go
theorem Rs.allocB {Γ : Cx} {σ : b8} {φ : Phi} {w : World} (h : Rs Γ σ φ w) {p0 : Obj → List Value → Prop} {cs0 : List C} {us0 : List Value} {obj : Obj} (hob : p0 obj us0) (hcs : ∀ (i : Nat) (x : C), cs0[i]? = some x → ∃ u, us0[i]? = some u ∧ RelC w φ σ (Al Γ.N φ σ) x u) :
  Kept w (w.alloc obj) φ (l8 σ.length φ w.heap.size) σ (σ ++ [.one (.obj p0 cs0)]) (Al Γ.N φ σ) (Al Γ.N (l8 σ.length φ w.heap.size) (σ ++ [.one (.obj p0 cs0)])) ∧
  Rs Γ (σ ++ [.one (.obj p0 cs0)]) (l8 σ.length φ w.heap.size) (w.alloc obj) := by
 have old : ∀ b, b < w.heap.size → (w.alloc obj).heap[b]? = w.heap[b]? := fun b hb => by first | exact heap_alloc_old w _ hb | exact heap_alloc_old w _ _ hb
 have new : (w.alloc obj).heap[w.heap.size]? = some obj := heap_alloc_new w _
 have plo : ∀ i : Id, i.1 < σ.length → l8 σ.length φ w.heap.size i = φ i := fun i hi => by
  have : i ≠ (σ.length, []) := fun e => by rw [e] at hi; exact Nat.lt_irrefl _ hi
  simp [l8, this]
 have pnew : l8 σ.length φ w.heap.size (σ.length, []) = some (w.heap.size, 0) := by simp [l8]
 have cases2 : ∀ (i : Id) blk, (σ ++ [.one (.obj p0 cs0)])[i]? = some (some blk) → (i.1 < σ.length ∧ σ[i]? = some (some blk)) ∨ (i = (σ.length, []) ∧ blk = .obj p0 cs0) := fun i blk hi => b8.get_new hi
 have A1 : ∀ b, Al Γ.N φ σ b → b < w.heap.size → Al Γ.N (l8 σ.length φ w.heap.size) (σ ++ [.one (.obj p0 cs0)]) b := fun b hb hl => ⟨hb.1, fun i blk base hi hp => by
  rcases cases2 i blk hi with ⟨h1, h2⟩ | ⟨rfl, rfl⟩
  ·rw [plo i h1] at hp; exact hb.2 i blk base h2 hp
  ·rw [pnew] at hp; cases hp; omega⟩
 have hK : Kept w (w.alloc obj) φ (l8 σ.length φ w.heap.size) σ (σ ++ [.one (.obj p0 cs0)]) (Al Γ.N φ σ) (Al Γ.N (l8 σ.length φ w.heap.size) (σ ++ [.one (.obj p0 cs0)])) :=
  {imm := fun b _ hl => old b hl, all := A1, len := by simp,
   cells := fun i kk es' hi he => by
    rw [b8.get_left hi] at he
    exact ⟨es', he, rfl, plo i hi, fun b base arr ety hp hb => ⟨arr, (old b (Al.own_lt h.st he hp)).trans hb, rfl⟩⟩,
   obj := fun i p' cs' hi he => by
    rw [b8.get_left hi] at he
    exact ⟨plo i hi, p', cs', he⟩ }
 refine ⟨hK, ?_⟩
 exact {
  good := h.good
  st := ⟨fun i b hi => by
    rcases cases2 i b hi with ⟨h1, h2⟩ | ⟨rfl, rfl⟩
    ·rw [plo i h1]
     exact (h.st.blk i b h2).mono hK fun g base hp => old g (Al.own_lt h.st h2 hp)
    ·rw [pnew]
     exact ⟨w.heap.size, obj, us0, rfl, new, hob, fun i x hx => let ⟨u, g1, g2⟩ := hcs i x hx; ⟨u, g1, g2.mono hK⟩⟩,
   fun i j bi bj p q hi hj hp hq he => by
    obtain ⟨pb, po⟩ := p
    obtain ⟨qb, qo⟩ := q
    dsimp only at he
    subst he
    rcases cases2 i bi hi with ⟨h1, h2⟩ | ⟨rfl, rfl⟩ <;> rcases cases2 j bj hj with ⟨g1, g2⟩ | ⟨rfl, rfl⟩
    ·rw [plo i h1] at hp; rw [plo j g1] at hq
     exact h.st.inj i j bi bj _ _ h2 g2 hp hq rfl
    ·rw [plo i h1] at hp; rw [pnew] at hq; cases hq
     have := Al.own_lt h.st h2 hp; omega
    ·rw [plo j g1] at hq; rw [pnew] at hp; cases hp
     have := Al.own_lt h.st g2 hq; omega
    ·rfl⟩
  keep := fun i blk b base hi hp hKb => by
   rcases cases2 i blk hi with ⟨h1, h2⟩ | ⟨rfl, rfl⟩
   ·rw [plo i h1] at hp; exact h.keep i blk b base h2 hp hKb
   ·rw [pnew] at hp; cases hp
    have := hKb.1; have := h.size; omega
  os := h.os
  tape := h.tape
  drawn := h.drawn
  output := h.output
  size := Nat.le_trans h.size (by simp)
  block := fun b hKb => (old b (Nat.lt_of_lt_of_le hKb.1 h.size)).trans (h.block b hKb)
  kept := Kept.trans h.size h.kept hK }
theorem Rs.writeB {Γ : Cx} {σ : b8} {φ : Phi} {w : World} (h : Rs Γ σ φ w) {id : Id} {b : Nat} {q0 q1 : Obj → List Value → Prop} {cs0 cs1 : List C} {us1 : List Value} {o0 o1 : Obj} (hid : σ[id]? = some (some (.obj q0 cs0))) (hp : φ id = some (b, 0)) (hb : w.heap[b]? = some o0) (hq : q1 o1 us1) (hcs : ∀ (i : Nat) (x : C), cs1[i]? = some x → ∃ u, us1[i]? = some u ∧ RelC w φ σ (Al Γ.N φ σ) x u) :
  Kept w ({ w with heap := w.heap.setIfInBounds b o1 } : World) φ φ σ (σ.put id (some (.obj q1 cs1))) (Al Γ.N φ σ) (Al Γ.N φ (σ.put id (some (.obj q1 cs1)))) ∧ Rs Γ (σ.put id (some (.obj q1 cs1))) φ ({ w with heap := w.heap.setIfInBounds b o1 } : World) := by
 have new : ({ w with heap := w.heap.setIfInBounds b o1 } : World).heap[b]? = some o1 := (Go.MapKept.heap_set hb).1
 have old : ∀ g, g ≠ b → ({ w with heap := w.heap.setIfInBounds b o1 } : World).heap[g]? = w.heap[g]? := fun g hg => (Go.MapKept.heap_set hb).2 g hg
 have hsize : ({ w with heap := w.heap.setIfInBounds b o1 } : World).heap.size = w.heap.size := by simp
 have at_ : ∀ (i : Id) x, (σ.put id (some (.obj q1 cs1)))[i]? = some (some x) → (i = id ∧ x = .obj q1 cs1) ∨ (i ≠ id ∧ σ[i]? = some (some x)) := fun i x hi => by
  rcases b8.get_put hid hi with ⟨h1, h2⟩ | h
  ·cases h2; exact .inl ⟨h1, rfl⟩
  ·exact .inr h
 have other : ∀ (i : Id) blk g bs, i ≠ id → σ[i]? = some (some blk) → φ i = some (g, bs) → g ≠ b := fun i blk g bs hne hi hpi e => by
  subst e
  exact hne (h.st.inj i id _ _ _ _ hi hid hpi hp rfl)
 have A1 : ∀ g, Al Γ.N φ σ g → Al Γ.N φ (σ.put id (some (.obj q1 cs1))) g := fun g hg => ⟨hg.1, fun i blk bs hi hpi => by
  rcases at_ i blk hi with ⟨rfl, _⟩ | ⟨_, hi⟩
  ·exact hg.2 i _ bs hid hpi
  ·exact hg.2 i blk bs hi hpi⟩
 have hK : Kept w ({ w with heap := w.heap.setIfInBounds b o1 } : World) φ φ σ (σ.put id (some (.obj q1 cs1))) (Al Γ.N φ σ) (Al Γ.N φ (σ.put id (some (.obj q1 cs1)))) :=
  {imm := fun g hg _ => old g (fun e => by subst e; exact hg.2 id _ 0 hid hp), all := fun g hg _ => A1 g hg, len := by simp,
   cells := fun i kk es2 hi he => by
    rcases at_ i _ he with ⟨rfl, e⟩ | ⟨hne, he⟩
    ·cases e
    ·refine ⟨es2, he, rfl, rfl, fun b2 base2 arr2 ety2 hp2 hb2 => ⟨arr2, ?_, rfl⟩⟩
     exact (old b2 (other i _ b2 base2 hne he hp2)).trans hb2,
   obj := fun i p' cs' hi he => by
    rcases at_ i _ he with ⟨rfl, e⟩ | ⟨_, he⟩
    ·exact ⟨rfl, _, _, hid⟩
    ·exact ⟨rfl, p', cs', he⟩ }
 refine ⟨hK, ?_⟩
 exact {
  good := h.good
  st := ⟨fun i bk hi => by
    rcases at_ i _ hi with ⟨rfl, e⟩ | ⟨hne, hi⟩
    ·cases e
     rw [hp]
     exact ⟨b, o1, us1, rfl, new, hq, fun i x hx => let ⟨u, g1, g2⟩ := hcs i x hx; ⟨u, g1, g2.mono hK⟩⟩
    ·exact (h.st.blk i bk hi).mono hK fun g bs hpi => old g (other i bk g bs hne hi hpi),
   fun i j bi bj p q hi hj hpi hqj he => by
    have alive : ∀ (i : Id) bi, (σ.put id (some (.obj q1 cs1)))[i]? = some (some bi) → ∃ b0, σ[i]? = some (some b0) := fun i bi hi => by
     rcases at_ i _ hi with ⟨rfl, _⟩ | ⟨_, hi⟩
     ·exact ⟨_, hid⟩
     ·exact ⟨_, hi⟩
    obtain ⟨b1, h1⟩ := alive i bi hi
    obtain ⟨b2, h2⟩ := alive j bj hj
    exact h.st.inj i j b1 b2 p q h1 h2 hpi hqj he⟩
  keep := fun i blk g bs hi hpi hKb => by
   rcases at_ i _ hi with ⟨rfl, _⟩ | ⟨_, hi⟩
   ·exact h.keep i _ g bs hid hpi hKb
   ·exact h.keep i blk g bs hi hpi hKb
  os := h.os
  tape := h.tape
  drawn := h.drawn
  output := h.output
  size := by rw [hsize]; exact h.size
  block := fun g hKb => (old g (fun e => by subst e; exact h.keep id _ g 0 hid hp hKb)).trans (h.block g hKb)
  kept := Kept.trans h.size h.kept hK }
/-! ### What the slots hold that rounds read -/
def slotsP : List (Nat × Option Nat) → List Value → Array Value → Prop
 | [], _, _ => True
 | (t, none) :: r, us, a => (∃ u, us.head? = some u ∧ a[t]? = some u) ∧ slotsP r us.tail a
 | (t, some n) :: r, us, a => ((us.take n).length = n ∧ a[t]? = some (.agg (us.take n).toArray)) ∧ slotsP r (us.drop n) a
def slotE : List (Nat × Option Nat) → List C → Env
 | [], _ => []
 | (_, none) :: _, [] => []
 | (t, none) :: r, c :: cs => (t, .c c) :: slotE r cs
 | (t, some n) :: r, cs => match Nat.beq (cs.take n).length n with
  | true => (t, .agg (cs.take n)) :: slotE r (cs.drop n)
  | false => []
def slotC : List (Nat × Option Nat) → Env → Option (List C)
 | [], _ => some []
 | (t, none) :: r, env => match lookup t env, slotC r env with
  | some (.c c), some cs => some (c :: cs)
  | _, _ => none
 | (t, some n) :: r, env => match lookup t env, slotC r env with
  | some (.agg l), some cs => match Nat.beq l.length n with
   | true => some (l ++ cs)
   | false => none
  | _, _ => none
section
variable {w : World} {φ : Phi} {σ : b8} {A : Nat → Prop}
theorem slot_env : ∀ (sh : List (Nat × Option Nat)) {us : List Value} {a : Array Value} {cs : List C}, slotsP sh us a → (∀ (i : Nat) (x : C), cs[i]? = some x → ∃ u, us[i]? = some u ∧ RelC w φ σ A x u) →
  ∀ (t : Nat) (v : T), lookup t (slotE sh cs) = some v → ∃ u, a[t]? = some u ∧ RelT w φ σ A v u
 | [], us, a, cs, _, _, t, v, h => by simp [slotE, lookup] at h
 | (s, none) :: r, us, a, [], _, _, t, v, h => by simp [slotE, lookup] at h
 | (s, none) :: r, us, a, c :: cs, hs, hr, t, v, h => by
  simp only [slotE, lookup] at h
  obtain ⟨⟨u, hu, ha⟩, hs⟩ := hs
  obtain ⟨u0, hu0, hr0⟩ := hr 0 c rfl
  rw [List.head?_eq_getElem?] at hu
  rw [hu] at hu0; cases hu0
  split at h
  ·rename_i e
   cases h
   have := Nat.eq_of_beq_eq_true e
   subst this
   exact ⟨u, ha, .c hr0⟩
  ·exact slot_env r hs (fun i x hx => by
    obtain ⟨u, g1, g2⟩ := hr (i + 1) x hx
    exact ⟨u, by rw [← g1]; cases us <;> simp, g2⟩) t v h
 | (s, some n) :: r, us, a, cs, hs, hr, t, v, h => by
  simp only [slotE] at h
  obtain ⟨⟨hl, ha⟩, hs⟩ := hs
  cases hb : Nat.beq (cs.take n).length n with
  | false => rw [hb] at h; simp [lookup] at h
  | true =>
   rw [hb] at h
   have hlen := Nat.eq_of_beq_eq_true hb
   simp only [lookup] at h
   split at h
   ·rename_i e
    cases h
    have := Nat.eq_of_beq_eq_true e
    subst this
    refine ⟨_, ha, RelT.agg' (by rw [hl, hlen]) fun i c v hc hv => ?_⟩
    rw [List.getElem?_take] at hc hv
    split at hc
    ·rename_i hi
     rw [if_pos hi] at hv
     obtain ⟨u, g1, g2⟩ := hr i c hc
     rw [hv] at g1; cases g1; exact g2
    ·cases hc
   ·exact slot_env r hs (fun i x hx => by
     rw [List.getElem?_drop] at hx
     obtain ⟨u, g1, g2⟩ := hr _ x hx
     exact ⟨u, by rw [List.getElem?_drop]; exact g1, g2⟩) t v h
theorem slot_mk : ∀ (sh : List (Nat × Option Nat)) {env : Env} {a : Array Value} {cs : List C}, (∀ t v, lookup t env = some v → ∃ u, a[t]? = some u ∧ RelT w φ σ A v u) → slotC sh env = some cs →
  ∃ us, slotsP sh us a ∧ us.length = cs.length ∧ ∀ (i : Nat) (x : C), cs[i]? = some x → ∃ u, us[i]? = some u ∧ RelC w φ σ A x u
 | [], env, a, cs, _, h => by cases h; exact ⟨[], trivial, rfl, fun i x hx => by simp at hx⟩
 | (s, none) :: r, env, a, cs, he, h => by
  simp only [slotC] at h
  split at h <;> cases h
  rename_i c cs' h1 h2
  obtain ⟨us, g1, g0, g2⟩ := slot_mk r he h2
  obtain ⟨u, k1, k2⟩ := he s _ h1
  cases k2 with | c k2 =>
  refine ⟨u :: us, ⟨⟨u, rfl, k1⟩, g1⟩, by simp [g0], fun i x hx => ?_⟩
  match i with
  | 0 => cases hx; exact ⟨u, rfl, k2⟩
  | i + 1 => exact g2 i x hx
 | (s, some n) :: r, env, a, cs, he, h => by
  simp only [slotC] at h
  split at h
  ·rename_i l cs' h1 h2
   split at h <;> cases h
   rename_i hb
   have hn := Nat.eq_of_beq_eq_true hb
   obtain ⟨us, g1, g0, g2⟩ := slot_mk r he h2
   obtain ⟨u, k1, k2⟩ := he s _ h1
   obtain ⟨vs, rfl, k3, k4⟩ := RelT.agg_inv k2
   have hvn : vs.length = n := by omega
   refine ⟨vs ++ us, ⟨⟨by rw [List.take_left' hvn]; exact hvn, by rw [List.take_left' hvn]; exact k1⟩, by rw [List.drop_left' hvn]; exact g1⟩, by simp [g0, k3], fun i x hx => ?_⟩
   rw [List.getElem?_append] at hx ⊢
   rw [k3]
   split at hx
   ·rename_i hi; rw [if_pos hi]; exact k4 i x hx
   ·rename_i hi; rw [if_neg hi]; exact g2 _ x hx
  ·cases h
end
def loopP (szc : Nat) (ps : List Nat) (asg body : Code) (st : LoopState) (pend : Option Code) (sh : List (Nat × Option Nat)) : Obj → List Value → Prop := fun o us =>
 ∃ r : Go.Loop, o = .loop r ∧ r.state = st ∧ r.pending = pend ∧ r.params = ps.toArray ∧ r.assign = asg ∧ r.body = body ∧ r.tmps.size = szc ∧ slotsP sh us r.tmps
abbrev o5 (szc : Nat) (ps : List Nat) (asg body : Code) (st : LoopState) (pend : Option Code) (sh : List (Nat × Option Nat)) (cs : List C) : Blk := .obj (loopP szc ps asg body st pend sh) cs
def zipE : List Nat → List T → Env → Env
 | p :: ps, t :: ts, E => zipE ps ts ((p, t) :: E)
 | _, _, E => E
theorem zip_env {w : World} {φ : Phi} {σ : b8} {A : Nat → Prop} {szc : Nat} : ∀ (ps : List Nat) (ts : List T) (us : List Value) (E : Env) (a : Array Value), a.size = szc → ts.length = us.length → (∀ p ∈ ps, p < szc) →
  (∀ (i : Nat) (t : T) (u : Value), ts[i]? = some t → us[i]? = some u → RelT w φ σ A t u) → (∀ t v, lookup t E = some v → ∃ u, a[t]? = some u ∧ RelT w φ σ A v u) →
  ((ps.zip us).foldl (fun tmps (t, a) => tmps.setIfInBounds t a) a).size = szc ∧
  ∀ t v, lookup t (zipE ps ts E) = some v → ∃ u, ((ps.zip us).foldl (fun tmps (t, a) => tmps.setIfInBounds t a) a)[t]? = some u ∧ RelT w φ σ A v u
 | [], ts, us, E, a, hz, _, _, _, he => ⟨by simpa using hz, fun t v h => by simpa using he t v (by cases ts <;> exact h)⟩
 | p :: ps, [], us, E, a, hz, hl, _, _, he => by
  cases us with
  | nil => exact ⟨by simpa using hz, fun t v h => by simpa using he t v h⟩
  | cons u us => simp at hl
 | p :: ps, t :: ts, us, E, a, hz, hl, hp, hr, he => by
  cases us with
  | nil => simp at hl
  | cons u us =>
   simp only [List.zip_cons_cons, List.foldl_cons, zipE]
   refine zip_env ps ts us _ _ (by simpa using hz) (by simpa using hl) (fun q hq => hp q (List.mem_cons_of_mem _ hq)) (fun i t u h1 h2 => hr (i + 1) t u h1 h2) (fun s v h => ?_)
   simp only [lookup] at h
   split at h
   ·rename_i e
    cases h
    have := Nat.eq_of_beq_eq_true e
    subst this
    have hlt : p < a.size := by rw [hz]; exact hp p (by simp)
    exact ⟨u, by simp [hlt], hr 0 _ u rfl rfl⟩
   ·rename_i e
    obtain ⟨y, hy, hr'⟩ := he s v h
    have hne : p ≠ s := fun e' => by subst e'; simp at e
    exact ⟨y, by simp [hne, hy], hr'⟩
theorem b8.put2 (σ : b8) (n : Nat) (b b' : Option Blk) : (σ.put (n, []) b).put (n, []) b' = σ.put (n, []) b' := by
 have : ∀ e : Ent, (e.put [] b).put [] b' = e.put [] b' := fun e => by cases e <;> cases b <;> rfl
 apply List.ext_getElem?
 intro i
 simp only [b8.put, List.getElem?_modify]
 cases hs : σ[i]? with
 | none => simp
 | some e => by_cases hi : n = i <;> simp [hi, this]
theorem Rs.allocU {Γ : Cx} {σ : b8} {φ : Phi} {w : World} (h : Rs Γ σ φ w) (obj : Obj) : Kept w (w.alloc obj) φ φ σ σ (Al Γ.N φ σ) (Al Γ.N φ σ) ∧ Rs Γ σ φ (w.alloc obj) := by
  have old : ∀ b, b < w.heap.size → (w.alloc obj).heap[b]? = w.heap[b]? := fun b hb => by first | exact heap_alloc_old w _ hb | exact heap_alloc_old w _ _ hb
  have hK : Kept w (w.alloc obj) φ φ σ σ (Al Γ.N φ σ) (Al Γ.N φ σ) :=
    { imm := fun b _ hl => old b hl, all := fun b hb _ => hb, len := Nat.le_refl _,
      cells := fun i kk es' hi he => ⟨es', he, rfl, rfl, fun b base arr ety hp hb => ⟨arr, (old b (Al.own_lt h.st he hp)).trans hb, rfl⟩⟩,
      obj := fun i p' cs' hi he => ⟨rfl, p', cs', he⟩ }
  refine ⟨hK, ?_⟩
  exact { good := h.good, st := ⟨fun i b hi => (h.st.blk i b hi).mono hK fun g base hp => old g (Al.own_lt h.st hi hp), h.st.inj⟩,
          keep := h.keep, os := h.os, tape := h.tape, drawn := h.drawn, output := h.output, size := Nat.le_trans h.size (by simp),
          block := fun b hKb => (old b (Nat.lt_of_lt_of_le hKb.1 h.size)).trans (h.block b hKb), kept := Kept.trans h.size h.kept hK }
section
variable {P : Program} {σ0 : b8} {sz : Nat} {Q : Post} {env env' : Env} {σv σ' σb : b8} {ops : Array Oper} {rest : List Oper} {dst : Option Nat} {ty : TypeId} {pos : String} {after : Array Edge}
variable {szc : Nat} {ps : List Nat} {asg body : Code} {sh : List (Nat × Option Nat)} {cs : List C}
theorem yld_inv {w : World} {φ : Phi} {σ : b8} {A : Nat → Prop} {id : Id} {p : Obj → List Value → Prop} {u : Value} (h : RelT w φ σ A (.c (.yld id)) u) (hσ : σ[id]? = some (some (.obj p cs))) : ∃ b base, φ id = some (b, base) ∧ u = .func (.yield b) #[] #[] := by
 cases h with | c h => cases h with | yld hid h1 h => exact h _ _ hσ
def yPost (P : Program) (σ0 : b8) (sz : Nat) (Q : Post) (ops : Array Oper) (rest : List Oper) (env : Env) (dst : Option Nat) (id : Id) (szc : Nat) (ps : List Nat) (asg body : Code) (sh : List (Nat × Option Nat)) : Post := fun e s' =>
 ∃ cs', s'.σ[id]? = some (some (o5 szc ps asg body .busy none sh cs')) ∧ match e with
 | .normal => AOps P σ0 sz ops Q rest ⟨putE env dst (.c (bool true)), s'.σ.put id (some (o5 szc ps asg body .ready none sh cs'))⟩
 | .ret => AOps P σ0 sz ops Q rest ⟨putE env dst (.c (bool false)), s'.σ.put id (some (o5 szc ps asg body .done (some .ret) sh cs'))⟩
 | .exit i => AOps P σ0 sz ops Q rest ⟨putE env dst (.c (bool false)), s'.σ.put id (some (o5 szc ps asg body .done (some (.exit i)) sh cs'))⟩
 | _ => False
theorem AOps.yield {x : Operand} {as' : List Operand} {ats : Array TypeId} {id : Id} {ts : List T} {E1 : Env} {σ1 : b8} (hx : ev env x = some (.c (.yld id))) (ha : evs env as' = some ts) (hσ : σv[id]? = some (some (o5 szc ps asg body .ready none sh cs)))
  (hl : Nat.beq ts.length ps.length = true) (hps : ps.all (fun p => Nat.blt p szc) = true) (hna : E9 asg = false) (hnr : E9 body = false) (hd : f4 sz dst = true) (hσ1 : σ1[id]? = some (some (o5 szc ps asg body .ready none sh cs))) (hσb : σ1.put id (some (o5 szc ps asg body .busy none sh cs)) = σb)
  (hass : AWP P σv szc asg (fun e s' => e = .normal ∧ s' = St.mk E1 σ1) ⟨zipE ps ts (slotE sh cs), σv⟩)
  (h : AWP P σv szc body (yPost P σ0 sz Q ops rest env dst id szc ps asg body sh) ⟨E1, σb⟩) :
  AOps P σ0 sz ops Q (⟨dst, .call ⟨.value x, as'.toArray, ats⟩, ty, pos, after, none⟩ :: rest) (St.mk env σv) := fun Γ φ a w hΓ hR ro => by
 subst hσb
 obtain ⟨b, base, hp, hv⟩ := yld_inv (g8 hR hx) hσ
 obtain ⟨b', o, us, g1, g2, ⟨r, rfl, r1, r2, r3, r4, r5, r6, r7⟩, g3⟩ := hR.st.blk _ _ hσ
 rw [hp] at g1; cases g1
 obtain ⟨k1, k2⟩ := evs_rel hR ha
 have hlen : ts.length = ps.length := Nat.eq_of_beq_eq_true hl
 have hrun : (execOp a.eval ⟨dst, .call ⟨.value x, as'.toArray, ats⟩, ty, pos, after, none⟩).run P w = .ok (.round b r.fn ((ps.zip (as'.map a.eval)).foldl (fun tmps (t, a) => tmps.setIfInBounds t a) r.tmps) asg body) w := by
  have := run_yield (P := P) (args := (as'.map a.eval).toArray) g2 (by rw [r3]; simp; omega)
  rw [r3, r4, r5] at this
  simp only [List.zip_toArray, List.foldl_toArray] at this
  simp [execOp, resolve, hv, Deferred.ofValue, invoke, this]
 refine N8 rfl ⟨fun _ _ => trivial, ?_⟩
 rw [sem_ro hrun (fun d => nofun), Oper.uponIn_round]
 have hz := zip_env (w := w) (φ := φ) (σ := σv) (A := Al Γ.N φ σv) (szc := szc) ps ts (as'.map a.eval) (slotE sh cs) r.tmps r6 (by simp [k1]) (fun p hp => by
   have := List.all_eq_true.1 hps p hp
   simpa using this) k2 (slot_env sh r7 g3)
 have hR1 : R ⟨w, Γ.N, φ, σv⟩ szc ⟨zipE ps ts (slotE sh cs), σv⟩ φ { tmps := (ps.zip (as'.map a.eval)).foldl (fun tmps (t, a) => tmps.setIfInBounds t a) r.tmps, defers := [] } w :=
  {toRs := hR.toRs.down.rs, defers := .nil, asize := hz.1, env := hz.2 }
 have hid : id.1 < σv.length := b8.lt_of hσ
 refine ⟨fun h => by simp at h, roundIn_of_wpIn (F := fw ro) trivial (wpIn_mono (hass _ φ _ _ rfl hR1 (some b) (fun e => by rw [hna] at e; cases e)) ?_)⟩
 rintro e a1 w1 ⟨s1, φ1, ⟨rfl, rfl⟩, hR1⟩
 have hφ1 : φ1 id = some (b, 0) := ((hR1.toRs.kept.obj id _ _ hid hσ1).1).trans hp
 obtain ⟨b', o, us, q1, q2, ⟨r', rfl, r1, r2, r3, r4, r5, r6, r7⟩, q3⟩ := hR1.st.blk _ _ hσ1
 rw [hφ1] at q1; cases q1
 have hW := Rs.writeB (q1 := loopP szc ps asg body .busy none sh) (cs1 := cs) (o1 := .loop { r' with state := .busy }) hR1.toRs hσ1 hφ1 q2 ⟨{ r' with state := .busy }, rfl, rfl, r2, r3, r4, r5, r6, r7⟩ q3
 refine ⟨_, run_beginRound (P := P) q2 r1, ?_⟩
 refine wpIn_mono (h _ φ1 _ _ rfl (hR1.of hW.1 hW.2) (some b) (fun e => by rw [hnr] at e; cases e)) ?_
 rintro e a' w' ⟨s', φ', ⟨cs', hσ', hm⟩, hR'⟩
 have hφ : φ' id = some (b, 0) := ((hR'.toRs.kept.obj id _ _ hid hσ').1).trans hp
 obtain ⟨b', o, us', q1, q2, ⟨r'', rfl, p1, p2, p3, p4, p5, p6, p7⟩, q3⟩ := hR'.st.blk _ _ hσ'
 rw [hφ] at q1; cases q1
 have fin : ∀ (jump : Option Code) (st : LoopState), st = (if jump.isNone then .ready else .done) → AOps P σ0 sz ops Q rest ⟨putE env dst (.c (bool jump.isNone)), s'.σ.put id (some (o5 szc ps asg body st jump sh cs'))⟩ →
   ∃ v w'', (Instr.endRound b jump).run P w' = .ok v w'' ∧ wpListIn (fw ro) 0 P ops (lift Γ sz Q) rest (a.put dst v) w'' := fun jump st hst hA => by
  subst hst
  have hE := Rs.writeB (q1 := loopP szc ps asg body (if jump.isNone then .ready else .done) jump sh) (cs1 := cs') (o1 := .loop { r'' with state := if jump.isNone then .ready else .done, pending := jump }) hR'.toRs hσ' hφ q2 ⟨_, rfl, rfl, rfl, p3, p4, p5, p6, p7⟩ q3
  refine ⟨_, _, run_endRound jump q2, ?_⟩
  exact hA Γ φ' _ _ hΓ ((hR.of hE.2.kept (hR.toRs.up hE.2)).put hd (.bool _)) ro
 cases e with
 | normal => exact fin none .ready rfl hm
 | ret => exact fin (some .ret) .done rfl hm
 | exit i => exact fin (some (.exit i)) .done rfl hm
 | goto t => exact hm.elim
 | panic c => exact hm.elim
 | outgrown => exact hm.elim
theorem ae0 {id : Id} {env2 : Env} {σ2 σ3 : b8} (hσ : σ2[id]? = some (some (o5 szc ps asg body .busy none sh cs))) (h3 : σ2.put id (some (o5 szc ps asg body .ready none sh cs)) = σ3)
  (h : AOps P σ0 sz ops Q rest (St.mk (putE env dst (.c (bool true))) σ3)) : yPost P σ0 sz Q ops rest env dst id szc ps asg body sh .normal (St.mk env2 σ2) := ⟨cs, hσ, by subst h3; exact h⟩
def rPost (P : Program) (σ0 : b8) (sz : Nat) (Q : Post) (env : Env) (n : Nat) (ps : List Nat) (asg body : Code) (sh : List (Nat × Option Nat)) (σ' : b8) : Prop :=
 ∃ st pend cs', st ≠ .busy ∧ σ'[((n, []) : Id)]? = some (some (o5 sz ps asg body st pend sh cs')) ∧ match pend with
 | none => Q .normal ⟨env, σ'.put (n, []) none⟩
 | some c => AWP P σ0 sz c Q ⟨env, σ'.put (n, []) none⟩
theorem ak8 {n : Nat} {σ2 σ3 : b8} (hσ : σ2[((n, []) : Id)]? = some (some (o5 sz ps asg body .ready none sh cs))) (h3 : σ2.put (n, []) none = σ3) (h : Q .normal (St.mk env σ3)) : rPost P σ0 sz Q env n ps asg body sh σ2 :=
 ⟨.ready, none, cs, nofun, hσ, by subst h3; exact h⟩
theorem AWP.rangeFunc {g : Operand} {f : FuncId} {caps : List C} {n : Nat} {Qit : T → b8 → Prop} (sh : List (Nat × Option Nat)) (hg : ev env g = some (.c (.fn f caps))) (hs : slotC sh env = some cs) (hn : newF σv = some (n, [])) (hσ : n7 σv (.one (o5 sz ps asg body .ready none sh cs)) = some σ')
  (hf : FnOk P f (.c (.yld (n, [])) :: caps.map T.c) σ' Qit) (hq : ∀ r σ'', Qit r σ'' → rPost P σ0 sz Q env n ps asg body sh σ'') : AWP P σ0 sz (.rangeFunc g ps.toArray asg body) Q (St.mk env σv) := fun Γ φ a w hΓ hR ro hro => by
 have hro := hro rfl
 subst hro
 have h2 := v8 hn; have h3 := m7 hσ
 cases h2
 subst h3
 obtain ⟨fn, f1, f2, f3⟩ := hf.fn
 obtain ⟨cv, g1, g2, g3⟩ := fn_inv (g8 hR hg)
 obtain ⟨us, s1, _, s2⟩ := slot_mk sh hR.env hs
 refine wpIn_rangeFunc fun fid _ => ?_
 have hU := Rs.allocU hR.toRs (.deferred (some []))
 have hA := Rs.allocB (p0 := loopP sz ps asg body .ready none sh) (cs0 := cs) (us0 := us) (obj := .loop { state := .ready, pending := none, fn := fid, tmps := a.tmps, params := ps.toArray, assign := asg, body, defers := w.heap.size }) hU.2
  ⟨_, rfl, rfl, rfl, rfl, rfl, rfl, hR.asize, s1⟩ (fun i x hx => let ⟨u, q1, q2⟩ := s2 i x hx; ⟨u, q1, q2.mono hU.1⟩)
 have hw : (w.alloc (.deferred (some []))).heap.size = w.heap.size + 1 := by simp
 have hK := Kept.trans (by simp) hU.1 hA.1
 generalize hW : (w.alloc (.deferred (some []))).alloc (.loop { state := .ready, pending := none, fn := fid, tmps := a.tmps, params := ps.toArray, assign := asg, body, defers := w.heap.size }) = W at hA hK
 refine ⟨w.heap.size + 1, [{ target := .collected w.heap.size, args := #[] }], W, { target := .fn (.func f) cv.toArray, args := #[.func (.yield (w.heap.size + 1)) #[] #[]] }, W, f, (Value.func (.yield (w.heap.size + 1)) #[] #[] :: cv).toArray, W, ?_, ?_, fun _ _ => trivial, ?_, fun h => by simp at h, ?_⟩
 ·rw [← hW]; exact run_enterLoop_outer fid a.tmps ps.toArray asg body
 ·have e2 : a.eval (.const (.func (.yield (w.heap.size + 1)) #[] #[])) = .func (.yield (w.heap.size + 1)) #[] #[] := rfl
  simp [resolve, rangeCall, g1, e2, Deferred.ofValue]
 ·have f2' : ¬ fn.name = "runtime.NumGoroutine" := by simpa using f2
  have f3' : ¬ fn.body = none := fun e => by rw [e] at f3; cases f3
  simp [invoke, callFunc, f1, f2', f3']
 refine (callsIn_wide (n := 0 - 1)).2 ?_
 refine (hf.run ⟨_, Γ.N, _, _⟩ (Value.func (.yield (w.heap.size + 1)) #[] #[] :: cv) rfl hA.2.down (by simp [g2]) (fun i t u hi hu => ?_)).mono ?_
 ·match i with
  | 0 =>
   cases hi; cases hu
   exact .c (.yld (by simp) rfl fun p cs hp => ⟨_, 0, by simp [l8, hw], rfl⟩)
  | i + 1 =>
   simp only [List.getElem?_cons_succ, List.getElem?_map, Option.map_eq_some_iff] at hi hu
   obtain ⟨c, hc, rfl⟩ := hi
   exact .c ((g3 i c u hc hu).mono hK)
 ·rintro e w' ⟨v, r, σ2, φ', rfl, hQ, hr, hs'⟩
  obtain ⟨st, pend, cs', hb, hσ2, hm⟩ := hq r σ2 hQ
  have hφ : φ' (σv.length, []) = some (w.heap.size + 1, 0) := by
   rw [(hs'.kept.obj (σv.length, []) _ _ (by simp) hσ2).1]; simp [l8, hw]
  obtain ⟨b', o, us', q1, q2, ⟨r', rfl, p1, p2, p3, p4, p5, p6, p7⟩, q3⟩ := hs'.st.blk _ _ hσ2
  rw [hφ] at q1; cases q1
  have hE := Rs.writeB (q1 := fun _ _ => True) (cs1 := []) (us1 := []) (o1 := .loop { r' with state := .exhausted }) hs' hσ2 hφ q2 trivial (fun i x hx => by simp at hx)
  have hX := Rs.kill hE.2 (σv.length, [])
  rw [b8.put2] at hX
  have hDK := hK.trans (by rw [← hW]; simp; omega) (hX.2.kept)
  have hmark : Marks Γ φ' (σ2.put (σv.length, []) none) (w'.putObj (w.heap.size + 1) (.loop { r' with state := .exhausted })) ([{ target := .collected w.heap.size, args := #[] }] ++ a.defers) := by
   have m0 : Marks Γ φ σv (w.alloc (.deferred (some []))) ([{ target := .collected w.heap.size, args := #[] }] ++ a.defers) := by
    have m1 := hR.defers.kept hU.1
    refine ⟨List.nodup_cons.2 ⟨fun hin => ?_, m1.1⟩, fun d hd => ?_⟩
    ·obtain ⟨D, e, q, _⟩ := hR.defers.2 _ hin
     have : D = w.heap.size := by cases e; rfl
     rw [this] at q
     have := (Array.getElem?_eq_some_iff.1 q).1
     omega
    ·rcases List.mem_cons.1 hd with rfl | hd
     ·refine ⟨w.heap.size, rfl, heap_alloc_new w _, hR.size, fun hN => ?_, fun i blk base hi hp => ?_⟩
      ·have := hR.good.lt _ hN
       have := hR.size
       omega
      ·have := Al.own_lt hR.st hi hp
       omega
     ·exact m1.2 d hd
   exact (m0.kept hA.1).kept hX.2.kept
  have hRf : R Γ sz ⟨env, σ2.put (σv.length, []) none⟩ φ' { a with defers := [{ target := .collected w.heap.size, args := #[] }] ++ a.defers } (w'.putObj (w.heap.size + 1) (.loop { r' with state := .exhausted })) :=
   {toRs := hA.2.up hX.2, defers := hmark, asize := hR.asize, env := fun t v ht => let ⟨u, hu, hr⟩ := hR.env t v ht; ⟨u, hu, hr.mono hDK⟩ }
  refine ⟨r'.pending, _, run_endLoop q2 (by rw [p1]; exact hb), ?_⟩
  subst p2
  revert hm
  generalize r'.pending = pend at *
  intro hm
  cases pend with
  | none => exact ⟨_, φ', hm, hRf⟩
  | some c => exact hm Γ φ' _ _ hΓ hRf none (fun _ => rfl)
theorem AWP.rangeB {g : Operand} {f : FuncId} {caps : List C} {n : Nat} (sh : List (Nat × Option Nat)) (hg : ev env g = some (.c (.fn f caps))) (hs : slotC sh env = some cs) (hn : newF σv = some (n, []))
  (h : ∀ A B : Code, A = asg → B = body → ∃ (σ' : b8) (Qit : T → b8 → Prop), n7 σv (.one (o5 sz ps A B .ready none sh cs)) = some σ' ∧ FnOk P f (.c (.yld (n, [])) :: caps.map T.c) σ' Qit ∧ ∀ r σ'', Qit r σ'' → rPost P σ0 sz Q env n ps A B sh σ'') :
  AWP P σ0 sz (.rangeFunc g ps.toArray asg body) Q (St.mk env σv) := by
 obtain ⟨σ', Qit, h1, h2, h3⟩ := h asg body rfl rfl
 exact AWP.rangeFunc sh hg hs hn h1 h2 h3
theorem AOps.yieldB {A B : Code} {x : Operand} {as' : List Operand} {ats : Array TypeId} {id : Id} {ts : List T} {E1 : Env} {σ1 : b8} (hA : A = asg) (hB : B = body) (hx : ev env x = some (.c (.yld id))) (ha : evs env as' = some ts) (hσ : σv[id]? = some (some (o5 szc ps A B .ready none sh cs)))
  (hl : Nat.beq ts.length ps.length = true) (hps : ps.all (fun p => Nat.blt p szc) = true) (hna : E9 asg = false) (hnr : E9 body = false) (hd : f4 sz dst = true) (hσ1 : σ1[id]? = some (some (o5 szc ps A B .ready none sh cs))) (hσb : σ1.put id (some (o5 szc ps A B .busy none sh cs)) = σb)
  (hass : AWP P σv szc asg (fun e s' => e = .normal ∧ s' = St.mk E1 σ1) ⟨zipE ps ts (slotE sh cs), σv⟩)
  (h : AWP P σv szc body (yPost P σ0 sz Q ops rest env dst id szc ps A B sh) ⟨E1, σb⟩) :
  AOps P σ0 sz ops Q (⟨dst, .call ⟨.value x, as'.toArray, ats⟩, ty, pos, after, none⟩ :: rest) (St.mk env σv) := by
 subst hA hB
 exact AOps.yield hx ha hσ hl hps hna hnr hd hσ1 hσb hass h
end
end Ab
end
section
namespace Ab
open Go
def mvr (r n : Nat) (i : Id) : Id := ((match Nat.beq i.1 r with | true => n | false => i.1), i.2)
theorem ai2 {r n : Nat} {i : Id} (h : i.1 = r) : mvr r n i = (n, i.2) := by
 have : Nat.beq i.1 r = true := by rw [h]; exact Nat.beq_refl r
 simp only [mvr, this]
theorem mvr_ne {r n : Nat} {i : Id} (h : i.1 ≠ r) : mvr r n i = i := by
 have : Nat.beq i.1 r = false := H8 h
 simp only [mvr, this]
section
variable {P : Program} {σ0 : b8} {sz : Nat} {Q : Post} {env env' : Env} {σv σ' : b8} {ops : Array Oper} {rest : List Oper} {dst : Option Nat} {ty : TypeId} {pos : String} {after : Array Edge}
inductive EntR (r n : Nat) (σ : b8) (m i : Nat) : Ent → Prop
 | dead : EntR r n σ m i .dead
 | one {b : Blk} (h1 : b.ok m = true) (h2 : σ[mvr r n (i, [])]? = some (some (b.ren (mvr r n)))) : EntR r n σ m i (.one b)
 | vec {α : Type} {k : Nat} {f : α → List I} {l : List α} (h2 : σ[mvr r n (i, [])]? = some (some (vec k f l))) : EntR r n σ m i (.one (vec k f l))
 | mat {α : Type} {k j : Nat} {f : α → List I} {M : List (List α)} (hj : (mvr r n (i, [])).1 = j) (hi : Nat.blt i m = true) (h : σ[j]? = some (mat (j, []) k f M)) : EntR r n σ m i (mat (i, []) k f M)
 | any {e : Ent} (h : ∀ p b, e.sub p = some b → b.ok m = true ∧ σ[mvr r n (i, p)]? = some (some (b.ren (mvr r n)))) : EntR r n σ m i e
def StR_ (r n : Nat) (σ : b8) (m : Nat) : Nat → b8 → Prop
 | _, [] => True
 | i, e :: l => EntR r n σ m i e ∧ StR_ r n σ m (i + 1) l
theorem EntR.get {r n : Nat} {σ : b8} {m i : Nat} {e : Ent} (h : EntR r n σ m i e) {p : List Nat} {b : Blk} (hb : e.sub p = some b) : b.ok m = true ∧ σ[mvr r n (i, p)]? = some (some (b.ren (mvr r n))) := by
 cases h with
 | dead => cases p <;> cases hb
 | one h1 h2 => cases p with
  | nil => cases hb; exact ⟨h1, h2⟩
  | cons => cases hb
 | vec h2 => cases p with
  | nil => cases hb; exact ⟨B1, by rw [Blk.im_ren]; exact h2⟩
  | cons => cases hb
 | @mat α k j f M hj hi h =>
  have hi' : i < m := by simpa using hi
  have e : ∀ q, mvr r n (i, q) = (j, q) := fun q => by rw [← hj]; rfl
  rw [e, l9 h]
  cases p with
  | nil =>
   cases hb
   refine ⟨hdr_ok hi' _, ?_⟩
   rw [mat_main]
   congr 2
   simp only [Blk.ren]
   congr 1
   apply List.ext_getElem?
   intro q
   rw [List.getElem?_map]
   simp only [hdr, List.getElem?_mapIdx, Option.map_map]
   cases M[q]? with
   | none => rfl
   | some row => simp [C.renL, C.ren, e]
  | cons a q =>
   rw [mat_row] at hb ⊢
   split at hb
   ·rename_i row hrow
    cases q with
    | cons b q => cases hb
    | nil => cases hb; exact ⟨B1, by rw [Blk.im_ren]⟩
   ·cases hb
 | any h => exact h p b hb
theorem StR_.get {r n m : Nat} {σ : b8} : ∀ {i : Nat} {σ' : b8}, StR_ r n σ m i σ' → ∀ (j : Nat) (p : List Nat) (b : Blk), σ'[((j, p) : Id)]? = some (some b) → b.ok m = true ∧ σ[mvr r n (i + j, p)]? = some (some (b.ren (mvr r n)))
 | _, [], _, j, p, b, h => by simp at h
 | i, e :: l, h, 0, p, b, hb => by
  rw [b8.at_eq] at hb
  simp only [b8.at, List.getElem?_cons_zero, Option.some.injEq] at hb
  exact h.1.get hb
 | i, e :: l, h, j + 1, p, b, hb => by
  have := StR_.get (i := i + 1) h.2 j p b (by
   rw [b8.at_eq] at hb ⊢
   simpa [b8.at] using hb)
  rwa [show i + 1 + j = i + (j + 1) by omega] at this
def EnvR (r n : Nat) (env : Env) : Env → Prop
 | [] => True
 | (t, v) :: l => lookup t env = some (v.ren (mvr r n)) ∧ EnvR r n env l
theorem EnvR.get {r n : Nat} : ∀ {env' : Env}, EnvR r n env env' → ∀ t v, lookup t env' = some v → lookup t env = some (v.ren (mvr r n))
 | [], _, t, v, h => by simp [lookup] at h
 | (k, x) :: l, ⟨h1, h2⟩, t, v, h => by
  simp only [lookup] at h
  split at h
  ·rename_i he; cases h; rw [← Nat.eq_of_beq_eq_true he]; exact h1
  ·exact EnvR.get h2 t v h
def deadR (σ : b8) (n : Nat) : Bool := match σ[n]? with
 | some .dead => true
 | some _ => false
 | none => true
theorem Sub.moveM (r n : Nat) (h0 : Nat.ble σ0.length r = true) (hl : Nat.ble σ0.length σ'.length = true) (hn : deadR σ' n = true) (henv : EnvR r n env env') (he : envOk σ'.length env' = true) (hst : StR_ r n σv σ'.length 0 σ') : Sub σ0 ⟨env, σv⟩ ⟨env', σ'⟩ := by
 have h0' := Nat.le_of_ble_eq_true h0
 have hd : ∀ (p : List Nat) b, σ'[((n, p) : Id)]? ≠ some (some b) := fun p b hb => by
  rw [b8.at_eq] at hb
  simp only [b8.at] at hb
  simp only [deadR] at hn
  split at hb
  ·rename_i e hx
   rw [hx] at hn
   cases e with
   | dead => cases p <;> cases hb
   | one => cases hn
   | node => cases hn
  ·cases hb
 refine Sub.mk (mvr r n) (fun i hi => mvr_ne (fun e => by omega)) (Nat.le_of_ble_eq_true hl) (fun i j b b' hi hj h => ?_) (fun i b hi => ?_) (fun t v ht => ⟨af2 he t v ht, henv.get t v ht⟩)
 ·by_cases h1 : i.1 = r <;> by_cases h2 : j.1 = r
  ·rw [ai2 h1, ai2 h2] at h
   exact Prod.ext (h1.trans h2.symm) (Prod.mk.inj h).2
  ·rw [ai2 h1, mvr_ne h2] at h
   subst h; exact absurd hj (hd _ _)
  ·rw [ai2 h2, mvr_ne h1] at h
   subst h; exact absurd hi (hd _ _)
  ·rwa [mvr_ne h1, mvr_ne h2] at h
 ·have := hst.get i.1 i.2 b hi
  rwa [Nat.zero_add] at this
theorem AWP.moveM {c : Code} (r n : Nat) (h0 : Nat.ble σ0.length r = true) (hl : Nat.ble σ0.length σ'.length = true) (hn : deadR σ' n = true) (henv : EnvR r n env env') (he : envOk σ'.length env' = true) (hst : StR_ r n σv σ'.length 0 σ') (h : AWP P σ0 sz c Q (St.mk env' σ')) : AWP P σ0 sz c Q (St.mk env σv) :=
 AWP.sub (Sub.moveM r n h0 hl hn henv he hst) h
/-! ### A row of nothing appended to rows -/
end
end Ab
end
section
namespace Ab
open Go
section
variable {P : Program} {σ0 : b8} {sz : Nat} {Q : Post} {env env' : Env} {σv σ' : b8}
end
end Ab
end
section
namespace Ab
open Go
section
variable {P : Program} {σ0 : b8} {sz : Nat} {Q : Post} {env env' : Env} {σv σ' : b8} {ops : Array Oper} {rest : List Oper} {dst : Option Nat} {ty : TypeId} {pos : String} {after : Array Edge}
def isIfaceD : TypeDesc → Bool
 | .interface _ => true
 | _ => false
theorem ifc1_inv {w : World} {φ : Phi} {σ : b8} {A : Nat → Prop} {t : TypeId} {c : C} {u : Value} (h : RelT w φ σ A (.c (.ifc t [c] false)) u) : ∃ v, u = .iface t v ∧ RelC w φ σ A c v := by
 cases h with | c h => cases h with | ifc1 h => exact ⟨_, rfl, h⟩
theorem S.mkIfc {x : Operand} {t : TypeId} {d : TypeDesc} {c : C} [ht : TyD P t d] (hi : isIfaceD d = false) (hx : ev env x = some (.c c)) (hd : f4 sz dst = true)
  (h : AOps P σ0 sz ops Q rest (St.mk (putE env dst (.c (.ifc t [c] false))) σv)) : AOps P σ0 sz ops Q (⟨dst, .makeInterface t x, ty, pos, after, none⟩ :: rest) (St.mk env σv) :=
 .value rfl hd _ (fun Γ φ a w hR => by
  have hr := g8 hR hx
  generalize hu : a.eval x = u at hr
  cases hr with | c hr =>
   refine ⟨.iface t u, ?_, .c (.ifc1 hr)⟩
   cases d <;> first | (cases hi; done) | simp [execOp, Instr.makeInterface, run_underlying ht.h, hu]) h
theorem S.assert {x : Operand} {xt t : TypeId} {d : TypeDesc} {c : C} [ht : TyD P t d] (hi : isIfaceD d = false) (hx : ev env x = some (.c (.ifc t [c] false))) (hd : f4 sz dst = true)
  (h : AOps P σ0 sz ops Q rest (St.mk (putE env dst (.c c)) σv)) : AOps P σ0 sz ops Q (⟨dst, .typeAssert x xt t false, ty, pos, after, none⟩ :: rest) (St.mk env σv) :=
 .value rfl hd _ (fun Γ φ a w hR => by
  obtain ⟨v, hv, hr⟩ := ifc1_inv (g8 hR hx)
  refine ⟨v, ?_, .c hr⟩
  cases d <;> first | (cases hi; done) | simp [execOp, Instr.typeAssert, run_underlying ht.h, hv]) h
/-! ### Calls through an interface -/
theorem AOps.enterS {o : Oper} {f : FuncId} {ts : List T} {Qc : T → b8 → Prop} (hg : o.guard = none) (hd : f4 sz o.dst = true) (hf : FnOk P f ts σv Qc)
  (he : ∀ Γ φ a w, R Γ sz (St.mk env σv) φ a w → ∃ vs : List Value, (execOp a.eval o).run P w = .ok (.enter f vs.toArray) w ∧ ts.length = vs.length ∧ ∀ (i : Nat) (t : T) (u : Value), ts[i]? = some t → vs[i]? = some u → RelT w φ σv (Al Γ.N φ σv) t u)
  (h : ∀ r σ', Qc r σ' → AOps P σ0 sz ops Q rest ((St.mk env σ').put o.dst r)) : AOps P σ0 sz ops Q (o :: rest) (St.mk env σv) := fun Γ φ a w hΓ hR ro => by
 obtain ⟨vs, h1, h2, h3⟩ := he Γ φ a w hR
 refine N8 hg (ai1 h1 ?_)
 refine (hf.run ⟨w, Γ.N, φ, σv⟩ vs rfl hR.toRs.down h2 h3).mono ?_
 rintro e w' ⟨v, r, σ', φ', rfl, hq, hr, hs⟩
 exact h r σ' hq Γ φ' _ w' hΓ ((hR.of hs.kept (hR.toRs.up hs)).put hd hr) ro
class MethF (P : Program) (t : TypeId) (name : String) (f : outParam FuncId) (b : outParam Bool) : Prop where
 h : ((P.info? t).bind fun i => (i.methods.find? (·.name == name)).map fun m => (m.path.toList, m.func)) = some ([], some (f, b))
theorem MethF.get {t : TypeId} {name : String} {f : FuncId} {b : Bool} [h : MethF P t name f b] : ∃ i m, P.info? t = some i ∧ i.methods.find? (·.name == name) = some m ∧ m.path = #[] ∧ m.func = some (f, b) := by
 obtain ⟨i, h1, h2⟩ := Option.bind_eq_some_iff.1 h.h
 obtain ⟨m, h3, h4⟩ := Option.map_eq_some_iff.1 h2
 simp only [Prod.mk.injEq] at h4
 exact ⟨i, m, h1, h3, by simpa using h4.1, h4.2⟩
theorem run_recvP {t e : TypeId} {v : Value} {wr : Option String} {w : World} [hd : TyD P t (.pointer e)] : (receiverAt t (.val v) true wr).run P w = .ok v w := by
 unfold receiverAt
 rw [Sem.run_bind, run_underlying hd.h]
 rfl
theorem run_recvV {t e : TypeId} {de : TypeDesc} {a : Addr} {u : Value} {wr : String} {w : World} [hd : TyD P t (.pointer e)] [he : TyD P e de] (ha : y4 de = false) (hu : w.cell? a = some u) : (receiverAt t (.val (.pointer (some a))) false (some wr)).run P w = .ok u w := by
 unfold receiverAt
 rw [Sem.run_bind, run_underlying hd.h]
 show (loadVar e a).run P w = _
 exact Y1 ha hu
theorem run_method {t : TypeId} {name : String} {f : FuncId} {b : Bool} {v u : Value} {w : World} [hm : MethF P t name f b] (hr : ∀ wr : String, (receiverAt t (.val v) b (some wr)).run P w = .ok u w) : (method (P.types.size + Made.depth) t v name).run P w = .ok (f, u) w := by
 obtain ⟨i, m, h1, h2, h3, h4⟩ := hm.get
 rw [show P.types.size + Made.depth = (P.types.size + 99) + 1 from rfl]
 have hi : (typeInfo t).run P w = .ok i w := by simp [typeInfo, h1]
 unfold method
 rw [Sem.run_bind, hi]
 simp only [Result.andThen_ok, h2, h3, h4, follow]
 simp only [Sem.run_bind, Sem.run_pure, Result.andThen_ok, Array.isEmpty_empty, if_true]
 rw [hr]
 rfl
theorem fn_body {f : FuncId} (hfn : ∃ fn, P.funcs[f]? = some fn ∧ (fn.name == "runtime.NumGoroutine") = false ∧ fn.body.isNone = false) (vs : Array Value) (w : World) : (callFunc f vs).run P w = .ok (.enter f vs) w := by
 obtain ⟨fn, h1, h2, h3⟩ := hfn
 have h2' : ¬ fn.name = "runtime.NumGoroutine" := by simpa using h2
 have h3' : ¬ fn.body = none := fun e => by rw [e] at h3; cases h3
 simp [callFunc, h1, h2', h3']
theorem invoke_args {Γ : Cx} {φ : Phi} {a : Act} {w : World} (hR : R Γ sz (St.mk env σv) φ a w) {as' : List Operand} {ts : List T} (ha : evs env as' = some ts) {c : C} {v : Value} (hc : RelC w φ σv (Al Γ.N φ σv) c v) :
  (T.c c :: ts).length = (v :: as'.map a.eval).length ∧ ∀ (i : Nat) (t : T) (u : Value), (T.c c :: ts)[i]? = some t → (v :: as'.map a.eval)[i]? = some u → RelT w φ σv (Al Γ.N φ σv) t u := by
 obtain ⟨k1, k2⟩ := evs_rel hR ha
 refine ⟨by simp [k1], fun i t u hi hu => ?_⟩
 cases i with
 | zero => simp only [List.getElem?_cons_zero, Option.some.injEq] at hi hu; subst hi hu; exact .c hc
 | succ i => exact k2 i t u (by simpa using hi) (by simpa using hu)
theorem S.invokeP {x : Operand} {as' : List Operand} {ats : Array TypeId} {name : String} {t e : TypeId} {c : C} {f : FuncId} {ts : List T} {r2 : T} {σ'' : b8} [hd : TyD P t (.pointer e)] [hm : MethF P t name f true] (hx : ev env x = some (.c (.ifc t [c] false))) (ha : evs env as' = some ts) (hdst : f4 sz dst = true)
  (hf : FnOk P f (.c c :: ts) σv fun r s => r = r2 ∧ s = σ'') (h : AOps P σ0 sz ops Q rest (St.mk (putE env dst r2) σ'')) :
  AOps P σ0 sz ops Q (⟨dst, .call ⟨.invoke x name, as'.toArray, ats⟩, ty, pos, after, none⟩ :: rest) (St.mk env σv) := by
 refine AOps.enterS rfl hdst hf (fun Γ φ a w hR => ?_) (fun r s ⟨h1, h2⟩ => by subst h1 h2; exact h)
 obtain ⟨v, hv, hr⟩ := ifc1_inv (g8 hR hx)
 refine ⟨v :: as'.map a.eval, ?_, invoke_args hR ha hr⟩
 have := fn_body hf.fn (v :: as'.map a.eval).toArray w
 simp [execOp, resolve, invoke, callMethod, hv, run_method (P := P) (t := t) (name := name) (fun wr => run_recvP (e := e))]
 simpa [List.take_of_length_le] using this
theorem S.invokeV {x : Operand} {as' : List Operand} {ats : Array TypeId} {name : String} {t e : TypeId} {de : TypeDesc} {id : Id} {j o k : Nat} {es : List (List C)} {el : List C} {c : C} {f : FuncId} {ts : List T} {r2 : T} {σ'' : b8} [hd : TyD P t (.pointer e)] [he : TyD P e de] [hm : MethF P t name f false] (hagg : y4 de = false)
  (hx : ev env x = some (.c (.ifc t [.ptr id j o] false))) (hσ : σv[id]? = some (some (.cells k es))) (hel : es[j]? = some el) (hc : el[o]? = some c) (ha : evs env as' = some ts) (hdst : f4 sz dst = true)
  (hf : FnOk P f (.c c :: ts) σv fun r s => r = r2 ∧ s = σ'') (h : AOps P σ0 sz ops Q rest (St.mk (putE env dst r2) σ'')) :
  AOps P σ0 sz ops Q (⟨dst, .call ⟨.invoke x name, as'.toArray, ats⟩, ty, pos, after, none⟩ :: rest) (St.mk env σv) := by
 refine AOps.enterS rfl hdst hf (fun Γ φ a w hR => ?_) (fun r s ⟨h1, h2⟩ => by subst h1 h2; exact h)
 obtain ⟨v, hv, hr⟩ := ifc1_inv (g8 hR hx)
 obtain ⟨hid, b, base, hp, hv2⟩ := U5 (.c hr) hσ
 obtain ⟨arr, ety, hb, _, _, hcs⟩ := G3 hR hσ hp
 obtain ⟨u, hu, hru⟩ := hcs j el o c hel hc
 refine ⟨u :: as'.map a.eval, ?_, invoke_args hR ha hru⟩
 have := fn_body hf.fn (u :: as'.map a.eval).toArray w
 simp [execOp, resolve, invoke, callMethod, hv, hv2, run_method (P := P) (t := t) (name := name) (fun wr => run_recvV (e := e) hagg ((G6 hb).trans hu))]
 simpa [List.take_of_length_le] using this
/-! ### Maps: how many keys -/
theorem S.lenMap {K V : Type} {fk : K → Value} {fv : V → Value} {x : Operand} {t kt vt : TypeId} {id : Id} {m : List (K × V)} [ht : TyD P t (.map kt vt)] (hx : ev env x = some (.c (.map id))) (hσ : σv[id]? = some (some (mapB fk fv m))) (hd : f4 sz dst = true)
  (h : AOps P σ0 sz ops Q rest (St.mk (putE env dst (.c (int (m.length : Int)))) σv)) : AOps P σ0 sz ops Q (⟨dst, .call ⟨.builtin .len, #[x], #[t]⟩, ty, pos, after, none⟩ :: rest) (St.mk env σv) :=
 .value rfl hd _ (fun Γ φ a w hR => by
  obtain ⟨b, base, hp, hv⟩ := Y7 (g8 hR hx) hσ
  obtain ⟨b', o, _, g1, g2, ⟨es, c, rfl, g3⟩, _⟩ := hR.st.blk _ _ hσ
  rw [hp] at g1; cases g1
  have hl : es.size = m.length := by
   have := congrArg List.length g3
   simpa using this
  exact ⟨.int .i64 m.length, by simp [execOp, hv, resolve, invoke, builtin, Builtin.len_, run_underlying ht.h, Go.MapKept.run_getObj_map g2, goInt, hl, Result.andThen], .int _⟩) h
/-! ### Maps whose values are nothing (sets) -/
def noV : Unit → Value := fun _ => .agg #[]
theorem W.lookupOkU {K : Type} [DecidableEq K] {fk : K → Value} {d : TypeDesc} {x y : Operand} {t kt vt : TypeId} {id : Id} {m : List (K × Unit)} {k : K} {size bytes : Nat} {zv : Value} [ht : TyD P t (.map kt vt)] [hkt : TyD P kt d] [hs : TyS P vt size bytes zv] (hk : KeyT d fk) (hz : zv = .agg #[])
  (hx : ev env x = some (.c (.map id))) (hy : ev env y = some (.c (.imm (.val (fk k))))) (hσ : σv[id]? = some (some (mapB fk noV m))) (hd : f4 sz dst = true)
  (h : AOps P σ0 sz ops Q rest (St.mk (putE env dst (.tup [.agg [], .c (bool (mget m k).isSome)])) σv)) : AOps P σ0 sz ops Q (⟨dst, .lookup t x y true, ty, pos, after, none⟩ :: rest) (St.mk env σv) := by
 refine .valueW rfl hd _ _ (fun Γ φ a w hR => ?_) h
 obtain ⟨b, base, hp, hv⟩ := Y7 (g8 hR hx) hσ
 obtain ⟨hv2, _⟩ := C3 (g8 hR hy)
 obtain ⟨b', o, _, g1, g2, ⟨es, c, rfl, g3⟩, _⟩ := hR.st.blk _ _ hσ
 rw [hp] at g1; cases g1
 refine ⟨.tuple #[.agg #[], .bool (mget m k).isSome], w, φ, ?_, RelT.tup' (vs := [.agg #[], .bool (mget m k).isSome]) rfl (fun i t u hi hu => ?_), hR⟩
 ·rcases T1 hk k m es.toList 0 g3 with ⟨q1, q2, _⟩ | ⟨v, j, e, q1, q2, _⟩
  ·simp [execOp, hv, hv2, Instr.lookup, run_underlying ht.h, Go.MapKept.run_getObj_map g2, Go.MapKept.run_checkKey hkt.h (hk.key k), Go.MapKept.run_findKey hkt.h q2, H0 (t := vt), q1, hz, Result.andThen]
  ·simp [execOp, hv, hv2, Instr.lookup, run_underlying ht.h, Go.MapKept.run_getObj_map g2, Go.MapKept.run_checkKey hkt.h (hk.key k), Go.MapKept.run_findKey hkt.h q2, q1, noV, Result.andThen]
 ·match i with
  | 0 => cases hi; cases hu; exact RelT.agg' (vs := []) rfl (fun i c v hc => by simp at hc)
  | 1 => cases hi; cases hu; exact .bool _
  | i + 2 => simp at hi
theorem agg0_inv {w : World} {φ : Phi} {σ : b8} {A : Nat → Prop} {u : Value} (h : RelT w φ σ A (.agg []) u) : u = .agg #[] := by
 cases h with | agg us hr => simp
theorem W.mapUpdateU {K : Type} [DecidableEq K] {fk : K → Value} {d : TypeDesc} {x y v : Operand} {t kt vt : TypeId} {id : Id} {m : List (K × Unit)} {k : K} [ht : TyD P t (.map kt vt)] [hkt : TyD P kt d] (hk : KeyT d fk)
  (hx : ev env x = some (.c (.map id))) (hy : ev env y = some (.c (.imm (.val (fk k))))) (hv : ev env v = some (.agg [])) (hσ : σv[id]? = some (some (mapB fk noV m))) (hσ' : σv.put id (some (mapB fk noV (mset m k ()))) = σ')
  (h : AOps P σ0 sz ops Q rest (St.mk env σ')) : AOps P σ0 sz ops Q (⟨none, .mapUpdate t x y v, ty, pos, after, none⟩ :: rest) (St.mk env σv) := by
 subst hσ'
 refine .skipW rfl rfl _ (fun Γ φ ac w hR => ?_) h
 obtain ⟨b, base, hp, e1⟩ := Y7 (g8 hR hx) hσ
 obtain ⟨e2, _⟩ := C3 (g8 hR hy)
 have e3 := agg0_inv (g8 hR hv)
 obtain ⟨b', o, _, g1, g2, ⟨es, c, rfl, g3⟩, _⟩ := hR.st.blk _ _ hσ
 rw [hp] at g1; cases g1
 rcases T1 hk k m es.toList 0 g3 with ⟨q1, q2, q3⟩ | ⟨v0, j, e, q1, q2, q3, q4, q5⟩
 ·have hW := Rs.writeO (q1 := mapP fk noV (mset m k ())) (o1 := .map (es.push { key := fk k, val := .agg #[], born := c }) (c + 1)) hR.toRs hσ hp g2 ⟨_, _, rfl, by rw [Array.toList_push]; exact q3 () c⟩
  refine ⟨_, φ, ?_, hR.of hW.1 hW.2⟩
  simp [execOp, e1, e2, e3, Instr.mapUpdate, run_underlying ht.h, Go.MapKept.run_getObj_map g2, Go.MapKept.run_checkKey hkt.h (hk.key k), Go.MapKept.run_findKey hkt.h q2, Go.MapKept.run_setObj_map _ g2, Result.andThen]
 ·have hj : es[j]? = some e := by simpa using q3
  have hW := Rs.writeO (q1 := mapP fk noV (mset m k ())) (o1 := .map (es.modify j fun e => { e with key := fk k, val := .agg #[] }) c) hR.toRs hσ hp g2 ⟨_, _, rfl, by rw [Array.toList_modify]; exact q5 ()⟩
  refine ⟨_, φ, ?_, hR.of hW.1 hW.2⟩
  simp [execOp, e1, e2, e3, Instr.mapUpdate, run_underlying ht.h, Go.MapKept.run_getObj_map g2, Go.MapKept.run_checkKey hkt.h (hk.key k), Go.MapKept.run_findKey hkt.h q2, hj, q4, Go.MapKept.run_keyThatStays (hk.key k), Go.MapKept.run_setObj_map _ g2, Result.andThen]
theorem W.insertU {K : Type} [DecidableEq K] {fk : K → Value} {d : TypeDesc} {x y v : Operand} {t kt vt : TypeId} {id : Id} {m : List (K × Unit)} {k : K} [ht : TyD P t (.map kt vt)] [hkt : TyD P kt d] (hk : KeyT d fk)
  (hx : ev env x = some (.c (.map id))) (hy : ev env y = some (.c (.imm (.val (fk k))))) (hv : ev env v = some (.agg [])) (hσ : σv[id]? = some (some (mapB fk noV m))) (hσ' : σv.put id (some (mapB fk noV (mset m k ()))) = σ')
  (h : AOps P σ0 sz ops Q rest (St.mk env σ')) : AOps P σ0 sz ops Q (⟨none, .insert t x y v, ty, pos, after, none⟩ :: rest) (St.mk env σv) := by
 subst hσ'
 refine .skipW rfl rfl _ (fun Γ φ ac w hR => ?_) h
 obtain ⟨b, base, hp, e1⟩ := Y7 (g8 hR hx) hσ
 obtain ⟨e2, _⟩ := C3 (g8 hR hy)
 have e3 := agg0_inv (g8 hR hv)
 obtain ⟨b', o, _, g1, g2, ⟨es, c, rfl, g3⟩, _⟩ := hR.st.blk _ _ hσ
 rw [hp] at g1; cases g1
 rcases T1 hk k m es.toList 0 g3 with ⟨q1, q2, q3⟩ | ⟨v0, j, e, q1, q2, q3, q4, q5⟩
 ·have hW := Rs.writeO (q1 := mapP fk noV (mset m k ())) (o1 := .map (es.push { key := fk k, val := .agg #[], born := c }) (c + 1)) hR.toRs hσ hp g2 ⟨_, _, rfl, by rw [Array.toList_push]; exact q3 () c⟩
  refine ⟨_, φ, ?_, hR.of hW.1 hW.2⟩
  simp [execOp, e1, e2, e3, Instr.mapUpdate, run_underlying ht.h, Go.MapKept.run_getObj_map g2, Go.MapKept.run_checkKey hkt.h (hk.key k), Go.MapKept.run_findKey hkt.h q2, Go.MapKept.run_setObj_map _ g2, Result.andThen]
 ·have hj : es[j]? = some e := by simpa using q3
  have hW := Rs.writeO (q1 := mapP fk noV (mset m k ())) (o1 := .map (es.modify j fun e => { e with key := fk k, val := .agg #[] }) c) hR.toRs hσ hp g2 ⟨_, _, rfl, by rw [Array.toList_modify]; exact q5 ()⟩
  refine ⟨_, φ, ?_, hR.of hW.1 hW.2⟩
  simp [execOp, e1, e2, e3, Instr.mapUpdate, run_underlying ht.h, Go.MapKept.run_getObj_map g2, Go.MapKept.run_checkKey hkt.h (hk.key k), Go.MapKept.run_findKey hkt.h q2, hj, q4, Go.MapKept.run_keyThatStays (hk.key k), Go.MapKept.run_setObj_map _ g2, Result.andThen]
end
/-! ### A struct without fields -/
theorem S.build0 {P : Program} {σ0 : b8} {sz : Nat} {Q : Post} {env : Env} {σv : b8} {ops : Array Oper} {rest : List Oper} {dst : Option Nat} {ty : TypeId} {pos : String} {after : Array Edge} {t : TypeId} {fs : Array Field} {size bytes : Nat} {z : Value} [ht : TyD P t (.struct fs)] [hs : TyS P t size bytes z] (hf : fs = #[]) (hz : z = .agg #[]) (hd : f4 sz dst = true)
  (h : AOps P σ0 sz ops Q rest (St.mk (putE env dst (.agg [])) σv)) : AOps P σ0 sz ops Q (⟨dst, .build t #[], ty, pos, after, none⟩ :: rest) (St.mk env σv) :=
 .value rfl hd _ (fun Γ φ a w hR => by
  subst hf hz
  refine ⟨.agg #[], ?_, RelT.agg' (vs := []) rfl (fun i c v hc => by simp at hc)⟩
  simp [execOp, Instr.build, H0 (t := t), run_underlying ht.h, Value.cells, Instr.fill]) h
theorem S.store0 {P : Program} {σ0 : b8} {sz : Nat} {Q : Post} {env : Env} {σv : b8} {ops : Array Oper} {rest : List Oper} {ty : TypeId} {pos : String} {after : Array Edge} {x y : Operand} {t : TypeId} {fs : Array Field} {bytes k j o : Nat} {id : Id} {es : List (List C)} {z : Value} [ht : TyD P t (.struct fs)] [hs : TyS P t 0 bytes z] (hx : ev env x = some (.c (.ptr id j o))) (hy : ev env y = some (.agg [])) (hσ : σv[id]? = some (some (.cells k es)))
  (h : AOps P σ0 sz ops Q rest (St.mk env σv)) : AOps P σ0 sz ops Q (⟨none, .store t x y, ty, pos, after, none⟩ :: rest) (St.mk env σv) :=
 .skipW rfl rfl σv (fun Γ φ a w hR => by
  obtain ⟨hid, b, base, hp, hv⟩ := U5 (g8 hR hx) hσ
  have hv2 := agg0_inv (g8 hR hy)
  refine ⟨w, φ, ?_, hR⟩
  simp [execOp, hv, hv2, Instr.storeAt, Instr.sureAddr, storeVar, Value.cells, storeCells, n4 (t := t)]) h
/-! ### Contracts with two kinds of ends -/
theorem FnOk.alt1 {A B : Type} {P : Program} {f : FuncId} {args : List T} {σ : b8} {Q1 : A → T → b8 → Prop} {Q2 : B → T → b8 → Prop} {v : A} (h : FnOk P f args σ fun tt ss => (∃ w, (Sum.inl v : A ⊕ B) = .inl w ∧ Q1 w tt ss) ∨ ∃ w, (Sum.inl v : A ⊕ B) = .inr w ∧ Q2 w tt ss) : FnOk P f args σ (Q1 v) :=
 h.mono fun r s hq => by
  rcases hq with ⟨w, e, hq⟩ | ⟨w, e, _⟩
  ·cases e; exact hq
  ·cases e
theorem FnOk.alt2 {A B : Type} {P : Program} {f : FuncId} {args : List T} {σ : b8} {Q1 : A → T → b8 → Prop} {Q2 : B → T → b8 → Prop} {v : B} (h : FnOk P f args σ fun tt ss => (∃ w, (Sum.inr v : A ⊕ B) = .inl w ∧ Q1 w tt ss) ∨ ∃ w, (Sum.inr v : A ⊕ B) = .inr w ∧ Q2 w tt ss) : FnOk P f args σ (Q2 v) :=
 h.mono fun r s hq => by
  rcases hq with ⟨w, e, _⟩ | ⟨w, e, hq⟩
  ·cases e
  ·cases e; exact hq
end Ab
end
section
namespace Ab
open Go
section
variable {α : Type}
def pool (size : Nat) (f : α → List I) (E : List α) : Ent := .node none (E.map fun e => .one (vec size f [e]))
def prow (r : Nat) (l : List Int) : Blk := .cells 1 (l.map fun i => [.ptr (r, [i.toNat]) 0 0])
def I2 {K : Type} (fk : K → Value) (ks : List K) : Obj → List Value → Prop := fun o us => ∃ es c, o = .map es c ∧ es.toList.map (·.key) = ks.map fk ∧ es.toList.map (·.val) = us
def mapCB {K V : Type} (fk : K → Value) (fc : V → C) (m : List (K × V)) : Blk := .obj (I2 fk (m.map (·.1))) (m.map fun p => fc p.2)
def I5 (r : Nat) (i : Int) : C := .ptr (r, [i.toNat]) 0 0
def pmap {K : Type} (r : Nat) (fk : K → Value) (m : List (K × Int)) : Blk := mapCB fk (I5 r) m
def ptrO (r : Nat) : Option Int → C
 | some i => I5 r i
 | none => .imm (.val (.pointer none))
theorem af1 {r : Nat} {o : Option Int} {i : Int} (h : o = some i) : some (T.c (ptrO r o)) = some (T.c (.ptr (r, [i.toNat]) 0 0)) := by rw [h]; rfl
theorem P3 {size : Nat} {f : α → List I} {E : List α} {p : List Nat} {b : Blk} (h : (pool size f E).sub p = some b) : ∃ i e, p = [i] ∧ E[i]? = some e ∧ b = vec size f [e] := by
 cases p with
 | nil => cases h
 | cons i q =>
  simp only [pool, Ent.sub, List.getElem?_map] at h
  cases hi : E[i]? with
  | none => simp [hi] at h
  | some e =>
   rw [hi] at h
   cases q with
   | nil => simp only [Option.map_some, Ent.sub, Option.some.injEq] at h; exact ⟨i, e, rfl, hi, h.symm⟩
   | cons => simp [Ent.sub] at h
theorem ah5 {size : Nat} {f : α → List I} {E : List α} {i : Nat} {e : α} (h : E[i]? = some e) : (pool size f E).sub [i] = some (vec size f [e]) := by
 simp [pool, Ent.sub, h]
theorem m5 {σ : b8} {r size : Nat} {f : α → List I} {E : List α} {i : Int} {e : α} (h : σ[r]? = some (pool size f E)) (he : ix E i = some e) : σ[((r, [i.toNat]) : Id)]? = some (some (.cells size [(f e).map .imm])) := by
 rw [l9 h, ah5 (I7 he).2]; rfl
theorem k7 {size n : Nat} {f : α → List I} {E : List α} : ∀ q b, (pool size f E).sub q = some b → b.ok n = true := fun q b h => by
 obtain ⟨i, e, _, _, rfl⟩ := P3 h; exact B1
theorem pool_no {size : Nat} {f : α → List I} {E : List α} {id : Id} : ∀ q b, (pool size f E).sub q = some b → b.no id = true := fun q b h => by
 obtain ⟨i, e, _, _, rfl⟩ := P3 h; exact Blk.im_no _ _ _
theorem pool_fwd {size : Nat} {f : α → List I} {E : List α} {π : Id → Id} : ∀ p b, (pool size f E).sub p = some b → (pool size f E).sub p = some (b.ren π) := fun p b h => by
 obtain ⟨i, e, rfl, _, rfl⟩ := P3 h; rw [h, x9]
theorem pool_bwd {size : Nat} {f : α → List I} {E : List α} {π : Id → Id} : ∀ p b, (pool size f E).sub p = some b → ∃ b0, (pool size f E).sub p = some b0 ∧ b = b0.ren π := fun p b h => by
 obtain ⟨i, e, rfl, _, rfl⟩ := P3 h; exact ⟨_, h, x9.symm⟩
theorem RenE.pool {size r r' : Nat} {f : α → List I} {E : List α} {π : Id → Id} : RenE π r (Ab.pool size f E) r' (Ab.pool size f E) := .any pool_fwd pool_bwd
theorem n9.pool {size r m a : Nat} {f : α → List I} {E : List α} {n : Id} {σ : b8} (hσ : σ[r]? = some (Ab.pool size f E)) : n9 (a, []) n σ m r (Ab.pool size f E) := by
 show ∀ (p : List Nat) (b : Blk), (Ab.pool size f E).sub p = some b → _
 intro p b hb
 obtain ⟨i, e, rfl, _, rfl⟩ := P3 hb
 have hm : mv (a, []) n (r, [i]) = (r, [i]) := by
  have : ((r, [i]) : Id) ≠ (a, []) := fun e => by cases e
  simp [mv, w7 this]
 rw [hm, l9 hσ, hb]
 exact ⟨B1, by rw [x9]⟩
theorem n9.poolR {size r m a q : Nat} {f : α → List I} {E : List α} {n : Id} {σ : b8} (h : Nat.beq a r = false) (hσ : σ[r]? = some (Ab.pool size f E)) : n9 (a, [q]) n σ m r (Ab.pool size f E) := by
 show ∀ (p : List Nat) (b : Blk), (Ab.pool size f E).sub p = some b → _
 intro p b hb
 obtain ⟨i, e, rfl, _, rfl⟩ := P3 hb
 have hm : mv (a, [q]) n (r, [i]) = (r, [i]) := by
  have : ((r, [i]) : Id) ≠ (a, [q]) := fun e => by cases e; simp at h
  simp [mv, w7 this]
 rw [hm, l9 hσ, hb]
 exact ⟨B1, by rw [x9]⟩
theorem EntR.pool {size r n m i j : Nat} {f : α → List I} {E : List α} {σ : b8} (hj : (mvr r n (i, [])).1 = j) (hσ : σ[j]? = some (Ab.pool size f E)) : EntR r n σ m i (Ab.pool size f E) := .any fun p b hb => by
 have e : ∀ q, mvr r n (i, q) = (j, q) := fun q => by rw [← hj]; rfl
 obtain ⟨k, e0, rfl, _, rfl⟩ := P3 hb
 rw [e, l9 hσ, hb]
 exact ⟨B1, by rw [x9]⟩
theorem FrzB.pool {size : Nat} {f : α → List I} {E : List α} {id : Id} {X : C → C → Prop} : FrzB id X (Ab.pool size f E) (Ab.pool size f E) := by
 show _ = _ ∧ _
 exact ⟨rfl, fun p b h => pool_no p b h⟩
/-! ### Rows and maps of pointers among other blocks -/
theorem g9 {r n : Nat} {l : List Int} (h : Nat.blt r n = true) : (prow r l).ok n = true := by
 simp only [prow, Blk.ok, List.all_map, List.all_eq_true]
 intro i _
 simp [C.okL, C.ok] at h ⊢
 exact h
theorem prow_no {r a : Nat} {l : List Int} : (prow r l).no (a, []) = true := by
 simp only [prow, Blk.no, List.all_map, List.all_eq_true]
 intro i _
 have : idb ((r, [i.toNat]) : Id) (a, []) = false := w7 (fun e => by cases e)
 simp [C.noL, C.no, this]
theorem prow_noR {r a p : Nat} {l : List Int} (h : Nat.beq a r = false) : (prow r l).no (a, [p]) = true := by
 simp only [prow, Blk.no, List.all_map, List.all_eq_true]
 intro i _
 have : idb ((r, [i.toNat]) : Id) (a, [p]) = false := w7 (fun e => by cases e; simp at h)
 simp [C.noL, C.no, this]
theorem f9 {r r' : Nat} {l : List Int} {π : Id → Id} (h : ∀ q, π (r, q) = (r', q)) : (prow r l).ren π = prow r' l := by
 simp [prow, Blk.ren, C.renL, C.ren, h]
theorem G5 {r : Nat} {l : List Int} {a : Nat} {n : Id} : (prow r l).ren (mv (a, []) n) = prow r l := Blk.ren_no _ prow_no
theorem prow_mvR {r a q : Nat} {l : List Int} {n : Id} (h : Nat.beq a r = false) : (prow r l).ren (mv (a, [q]) n) = prow r l := Blk.ren_no _ (prow_noR h)
theorem t1 {i n : Id} {id : Id} {b : Blk} {σ : b8} (h : σ[i]? = some (some b)) (e : b.ren (mv id n) = b) : σ[i]? = some (some (b.ren (mv id n))) := by rw [e]; exact h
theorem B6 {r n i : Nat} {b b' : Blk} {σ : b8} {j : Id} (hj : mvr r n (i, []) = j) (h : σ[j]? = some (some b')) (e : b.ren (mvr r n) = b') : σ[mvr r n (i, [])]? = some (some (b.ren (mvr r n))) := by rw [hj, e]; exact h
theorem renL_map {r r' : Nat} {K : Type} {m : List (K × Int)} {π : Id → Id} (h : ∀ q, π (r, q) = (r', q)) : C.renL π (m.map fun p => I5 r p.2) = m.map fun p => I5 r' p.2 := by
 induction m with
 | nil => rfl
 | cons p m ih =>
  have e : C.ren π (I5 r p.2) = I5 r' p.2 := by simp [I5, C.ren, h]
  simp only [List.map_cons, C.renL, ih, e]
section
variable {K : Type} {fk : K → Value} {r : Nat} {m : List (K × Int)}
theorem j5 {n : Nat} (h : Nat.blt r n = true) : (pmap r fk m).ok n = true := by
 simp only [pmap, mapCB, Blk.ok]
 rw [D2, List.all_map, List.all_eq_true]
 intro p _
 simpa [I5, C.ok] using h
theorem pmap_no {a : Nat} : (pmap r fk m).no (a, []) = true := by
 simp only [pmap, mapCB, Blk.no]
 rw [noL_eq, List.all_map, List.all_eq_true]
 intro p _
 have : idb ((r, [p.2.toNat]) : Id) (a, []) = false := w7 (fun e => by cases e)
 simp [I5, C.no, this]
theorem pmap_noR {a q : Nat} (h : Nat.beq a r = false) : (pmap r fk m).no (a, [q]) = true := by
 simp only [pmap, mapCB, Blk.no]
 rw [noL_eq, List.all_map, List.all_eq_true]
 intro p _
 have : idb ((r, [p.2.toNat]) : Id) (a, [q]) = false := w7 (fun e => by cases e; simp at h)
 simp [I5, C.no, this]
theorem j8 {r' : Nat} {π : Id → Id} (h : ∀ q, π (r, q) = (r', q)) : (pmap r fk m).ren π = pmap r' fk m := by
 simp only [pmap, mapCB, Blk.ren, renL_map h]
theorem G4 {a : Nat} {n : Id} : (pmap r fk m).ren (mv (a, []) n) = pmap r fk m := Blk.ren_no _ pmap_no
theorem pmap_mvR {a q : Nat} {n : Id} (h : Nat.beq a r = false) : (pmap r fk m).ren (mv (a, [q]) n) = pmap r fk m := Blk.ren_no _ (pmap_noR h)
end
theorem FrzB.prow {r a : Nat} {l : List Int} {X : C → C → Prop} : FrzB (a, []) X (.one (Ab.prow r l)) (.one (Ab.prow r l)) := by
 have h := prow_no (r := r) (a := a) (l := l)
 unfold FrzB
 split
 ·rename_i h1 _; cases h1
 ·rename_i k1 e k2 e' h1 h2
  simp only [Ab.prow, Ent.one.injEq, Blk.cells.injEq] at h1 h2
  obtain ⟨rfl, h1⟩ := h1
  obtain ⟨rfl, h2⟩ := h2
  have : e = e' := by rw [h1] at h2; simpa using h2
  subst this
  refine ⟨rfl, ?_⟩
  obtain ⟨i, rfl⟩ : ∃ i, l = [i] := by
   cases l with
   | nil => simp at h1
   | cons i l => cases l with
    | nil => exact ⟨i, rfl⟩
    | cons b l => simp at h1
  simp only [List.map_cons, List.map_nil, List.cons.injEq, and_true] at h1
  subst h1
  refine ⟨.inl ⟨rfl, ?_⟩, trivial⟩
  have : idb ((r, [i.toNat]) : Id) (a, []) = false := w7 (fun e => by cases e)
  simp [C.no, this]
 ·rename_i h1 h2
  cases h1; cases h2
  exact ⟨rfl, h⟩
 ·rename_i h1; cases h1
 ·rename_i h1 h2 h3 h4
  first | exact (h3 _ _ rfl rfl).elim | exact (h4 _ _ rfl rfl).elim | exact (h2 _ _ rfl rfl).elim
end
section
variable {P : Program} {σ0 : b8} {sz : Nat} {Q : Post} {env env' : Env} {σv σ' : b8} {ops : Array Oper} {rest : List Oper} {dst : Option Nat} {ty : TypeId} {pos : String} {after : Array Edge}
/-! ### Rows of pointers -/
theorem S.loadP {x : Operand} {t : TypeId} {d : TypeDesc} {h r : Nat} {i a : Int} {l : List Int} [ht : TyD P t d] (he : ix l i = some a) (ha : y4 d = false) (hx : ev env x = some (.c (.ptr (h, []) i.toNat 0))) (hσ : σv[((h, []) : Id)]? = some (some (prow r l))) (hd : f4 sz dst = true)
  (hh : AOps P σ0 sz ops Q rest (St.mk (putE env dst (.c (.ptr (r, [a.toNat]) 0 0))) σv)) : AOps P σ0 sz ops Q (⟨dst, .load t x, ty, pos, after, none⟩ :: rest) (St.mk env σv) :=
 .E (e := [.ptr (r, [a.toNat]) 0 0]) ha hx hσ (by rw [List.getElem?_map, (I7 he).2]; rfl) rfl hd hh
theorem S.storeP {x y : Operand} {t : TypeId} {bytes h r : Nat} {z : Value} {i : Nat} {a : Int} {l : List Int} [hs : TyS P t 1 bytes z] (hi : i < l.length) (hx : ev env x = some (.c (.ptr (h, []) i 0))) (hy : ev env y = some (.c (.ptr (r, [a.toNat]) 0 0)))
  (hσ : σv[((h, []) : Id)]? = some (some (prow r l))) (hσ' : putF σv (h, []) (some (prow r (l.set i a))) = some σ') (hh : AOps P σ0 sz ops Q rest (St.mk env σ')) : AOps P σ0 sz ops Q (⟨none, .store t x y, ty, pos, after, none⟩ :: rest) (St.mk env σv) := by
 have h2 := u8 hσ'
 subst h2
 refine AOps.store hx hy hσ (by rw [List.getElem?_map, List.getElem?_eq_getElem hi]; rfl) (by simp) ?_
 have e : (l.map fun i => [C.ptr (r, [i.toNat]) 0 0]).set i [.ptr (r, [a.toNat]) 0 0] = (l.set i a).map fun i => [C.ptr (r, [i.toNat]) 0 0] := by rw [List.map_set]
 simp only [List.set_cons_zero]
 rw [e]
 exact hh
theorem S.appendP {x y : Operand} {t e : TypeId} {bytes m k h s r : Nat} {n : Id} {z : Value} {l new l' : List Int} {σ1 : b8} [ht : TyD P t (.slice e)] [hs : TyS P e 1 bytes z]
  (ha : app bytes l new = some l') (hzk : (z.cells.size == 1) = true) (hbp : Nat.blt 0 bytes = true) (hx : ev env x = some (.c (.own (h, []) 0 m))) (hm : m = l.length) (hσ : σv[((h, []) : Id)]? = some (some (prow r l)))
  (hy : ev env y = some (.c (.own (s, []) 0 k))) (hk : k = new.length) (hs' : σv[((s, []) : Id)]? = some (some (prow r new))) (hn : newF σv = some n) (h1 : putF σv (h, []) none = some σ1) (hσ' : n7 σ1 (.one (prow r l')) = some σ') (hd : f4 sz dst = true)
  (hh : AOps P σ0 sz ops Q rest (St.mk (putE env dst (.c (.own n 0 l'.length))) σ')) : AOps P σ0 sz ops Q (⟨dst, .call ⟨.builtin .append, #[x, y], #[t, t]⟩, ty, pos, after, none⟩ :: rest) (St.mk env σv) := by
 obtain ⟨hb, rfl⟩ := app_get ha
 have h2 := u8 h1
 have h3 := v8 hn; have h4 := m7 hσ'
 subst hm hk h2 h3 h4
 have hsrc := Src.own (σ := σv) (j := 0) (n := new.length) hs'
 refine AOps.append hzk hbp hx hσ hy hsrc ?_ hd ?_
 ·rw [List.drop_zero, List.take_of_length_le (by simp)]; simpa using hb
 ·have e1 : (((l.map fun i => [C.ptr (r, [i.toNat]) 0 0]).drop 0).take l.length) ++ (((new.map fun i => [C.ptr (r, [i.toNat]) 0 0]).drop 0).take new.length) = (l ++ new).map fun i => [C.ptr (r, [i.toNat]) 0 0] := by
   rw [List.drop_zero, List.drop_zero, List.take_of_length_le (by simp), List.take_of_length_le (by simp)]; simp
  have e2 : l.length + ((((new.map fun i => [C.ptr (r, [i.toNat]) 0 0]).drop 0).take new.length)).length = (l ++ new).length := by simp
  rw [e1, e2]
  exact hh
theorem S.shrinkP {x y : Operand} {t e : TypeId} {bytes n h r : Nat} {z : Value} {kk : IntKind} {hi : Int} {l l' : List Int} [ht : TyD P t (.slice e)] [hs : TyS P e 1 bytes z]
  (hl : subL l 0 hi = some l') (hx : ev env x = some (.c (.own (h, []) 0 n))) (hn : n = l.length) (hσ : σv[((h, []) : Id)]? = some (some (prow r l))) (hy : ev env y = some (.c (.imm (.val (.int kk hi))))) (hd : f4 sz dst = true)
  (hh : AOps P σ0 sz ops Q rest (St.mk (putE env dst (.c (.own (h, []) 0 l'.length))) σv)) : AOps P σ0 sz ops Q (⟨dst, .slice t x none (some y) none, ty, pos, after, none⟩ :: rest) (St.mk env σv) := by
 unfold subL at hl
 split at hl
 ·rename_i hc
  cases hl
  have e1 : hi = ((hi.toNat : Nat) : Int) := by omega
  rw [e1] at hy
  refine AOps.sliceOwnTo hx hσ hy (by omega) hd ?_
  rw [show (List.drop (Int.toNat 0) (List.take hi.toNat l)).length = hi.toNat by simp; omega] at hh
  exact hh
 ·cases hl
/-! ### Entries -/
theorem setF_at {σ σ' : b8} {n : Nat} {e e' : Ent} (h : σ[n]? = some e) (h' : setF σ n e' = some σ') (i : Id) : σ'[i]? = if i.1 = n then some (e'.sub i.2) else σ[i]? := by
 obtain ⟨rfl, _⟩ := D6 h'
 exact set_ent h i
theorem S.storeE {α : Type} {size bytes o r : Nat} {f : α → List I} {E : List α} {i : Int} {e e' : α} {c : I} {x y : Operand} {t : TypeId} {z : Value} [hs : TyS P t 1 bytes z] (he : ix E i = some e) (hl : Nat.blt o (f e).length = true) (hf : (f e).set o c = f e') (hx : ev env x = some (.c (.ptr (r, [i.toNat]) 0 o))) (hy : ev env y = some (.c (.imm c)))
  (hσ : σv[r]? = some (pool size f E)) (hσ' : setF σv r (pool size f (E.set i.toNat e')) = some σ') (hh : AOps P σ0 sz ops Q rest (St.mk env σ')) : AOps P σ0 sz ops Q (⟨none, .store t x y, ty, pos, after, none⟩ :: rest) (St.mk env σv) := by
 have hlt := f8 he
 have hlo : o < ((f e).map C.imm).length := by rw [List.length_map]; exact Nat.le_of_ble_eq_true hl
 refine AOps.store hx hy (m5 hσ he) rfl hlo ?_
 have e1 : ([(f e).map C.imm].set 0 (((f e).map C.imm).set o (.imm c))) = [(f e').map C.imm] := by
  rw [← hf, List.map_set]; rfl
 rw [e1]
 have h2 := (D6 hσ').1
 refine AOps.sub (Sub.same (by rw [h2]; simp) fun j => ?_) hh
 rw [setF_at hσ hσ']
 have hb : σv[((r, [i.toNat]) : Id)]? = some (some (.cells size [(f e).map .imm])) := m5 hσ he
 by_cases hj : j = (r, [i.toNat])
 ·subst hj
  rw [b8.get_put_eq hb, if_pos rfl, ah5 (e := e') (by simp [hlt])]
  rfl
 ·rw [b8.get_put_ne hj]
  by_cases hr : j.1 = r
  ·obtain ⟨j1, q⟩ := j
   simp only at hr
   subst hr
   rw [if_pos rfl, l9 hσ]
   congr 1
   cases q with
   | nil => rfl
   | cons a q =>
    simp only [pool, Ent.sub, List.getElem?_map, List.getElem?_set]
    by_cases ha : i.toNat = a
    ·subst ha
     cases q with
     | nil => exact absurd rfl hj
     | cons b q =>
      rw [if_pos rfl, if_pos hlt, (I7 he).2]
      rfl
    ·rw [if_neg ha]
  ·rw [if_neg hr]
def chkH (n : Nat) (l : List Int) : Option Unit := if ∀ i ∈ l, i.toNat < n then some () else none
theorem chkH_get {n : Nat} {l : List Int} {u : Unit} (h : chkH n l = some u) : ∀ i ∈ l, i.toNat < n := by
 unfold chkH at h
 split at h
 ·assumption
 ·cases h
theorem n9.adopt {α : Type} {size r m n : Nat} {f : α → List I} {E : List α} {e : α} {σ : b8} (hσ : σ[r]? = some (Ab.pool size f E)) (hn : σ[((n, []) : Id)]? = some (some (vec size f [e]))) : n9 (r, [E.length]) (n, []) σ m r (Ab.pool size f (E ++ [e])) := by
 show ∀ (p : List Nat) (b : Blk), (Ab.pool size f (E ++ [e])).sub p = some b → _
 intro p b hb
 obtain ⟨i, e0, rfl, hi, rfl⟩ := P3 hb
 refine ⟨B1, ?_⟩
 rw [x9]
 rw [List.getElem?_append] at hi
 split at hi
 ·rename_i hlt
  have hm : mv (r, [E.length]) (n, []) (r, [i]) = (r, [i]) := by
   have : ((r, [i]) : Id) ≠ (r, [E.length]) := fun e => by cases e; omega
   simp [mv, w7 this]
  rw [hm, l9 hσ, ah5 hi]
 ·rename_i hge
  have hi0 : i = E.length := by
   have := (List.getElem?_eq_some_iff.1 hi).1
   simp at this; omega
  subst hi0
  simp at hi
  subst hi
  have hm : mv (r, [E.length]) (n, []) (r, [E.length]) = (n, []) := by simp [mv, B7.2 rfl]
  rw [hm, hn]
theorem prow_adopt {r k : Nat} {l : List Int} {n : Id} {u : Unit} (h : chkH k l = some u) : (prow r l).ren (mv (r, [k]) n) = prow r l := by
 refine Blk.ren_no _ ?_
 simp only [prow, Blk.no, List.all_map, List.all_eq_true]
 intro i hi
 have := chkH_get h i hi
 have : idb ((r, [i.toNat]) : Id) (r, [k]) = false := w7 (fun e => by cases e; omega)
 simp [C.noL, C.no, this]
theorem pmap_adopt {K : Type} {fk : K → Value} {r k : Nat} {m : List (K × Int)} {n : Id} {u : Unit} (h : chkH k (m.map (·.2)) = some u) : (pmap r fk m).ren (mv (r, [k]) n) = pmap r fk m := by
 refine Blk.ren_no _ ?_
 simp only [pmap, mapCB, Blk.no]
 rw [noL_eq, List.all_map, List.all_eq_true]
 intro p hp
 have := chkH_get h p.2 (List.mem_map.2 ⟨p, hp, rfl⟩)
 have : idb ((r, [p.2.toNat]) : Id) (r, [k]) = false := w7 (fun e => by cases e; omega)
 simp [I5, C.no, this]
theorem ptr_adopt {r n : Nat} {k : Nat} : some (T.c (.ptr (n, []) 0 0)) = some (T.ren (mv (r, [k]) (n, [])) (.c (.ptr (r, [((k : Int)).toNat]) 0 0))) := by
 simp [T.ren, C.ren, mv, B7.2 rfl]
theorem U6 {i id n : Id} {b : Blk} {σ : b8} (h : σ[i]? = some (some b)) (e : b.ren (mv id n) = b) (hm : mv id n i = i) : σ[mv id n i]? = some (some (b.ren (mv id n))) := by rw [hm, e]; exact h
theorem aa0 {r k a : Nat} {n : Id} : mv (r, [k]) n (a, []) = (a, []) := by
 have : ((a, []) : Id) ≠ (r, [k]) := fun e => by cases e
 simp [mv, w7 this]
theorem Sub.newPool {α : Type} {size : Nat} {f : α → List I} (hσ : n7 σv (pool size f ([] : List α)) = some σ') : Sub σ0 ⟨env, σv⟩ ⟨env, σ'⟩ := by
 have h := m7 hσ
 subst h
 intro Γ sz φ a w hΓ hR
 have hV := hR.toRs.virt 1
 have hK := hV.2.kill (σv.length, [])
 refine (Sub.same (σ0 := σ0) (env := env) (σ1 := b8.put (σv ++ [Ent.one (Blk.cells 1 [])]) (σv.length, []) none) (by simp) fun i => ?_) Γ sz _ a w hΓ ((hR.of hV.1 hV.2).of hK.1 hK.2)
 by_cases hi : i = (σv.length, [])
 ·subst hi
  have e0 : (σv ++ [Ent.one (Blk.cells 1 [])])[((σv.length, []) : Id)]? = some (some (Blk.cells 1 [])) := by
   rw [b8.get_right (by simp)]; simp [b8.at_eq, b8.at, Ent.sub]
  rw [b8.get_put_eq e0, b8.get_right (by simp)]
  simp [b8.at_eq, b8.at, pool, Ent.sub]
 ·rw [b8.get_put_ne hi]
  rcases Nat.lt_or_ge i.1 σv.length with hl | hl
  ·rw [b8.get_left hl, b8.get_left hl]
  ·rw [b8.get_right hl, b8.get_right hl]
   obtain ⟨i1, q⟩ := i
   rw [b8.at_eq, b8.at_eq]
   simp only [b8.at]
   cases hk : i1 - σv.length with
   | zero =>
    cases q with
    | nil => exact absurd (by simp at hl; congr 1; omega) hi
    | cons a q => simp [pool, Ent.sub]
   | succ m => rfl
/-! ### Maps of pointers -/
section
variable {K : Type} [DecidableEq K] {V : Type} {fk : K → Value} {d : TypeDesc}
def mdel : List (K × V) → K → List (K × V)
 | [], _ => []
 | p :: r, k => if k = p.1 then r else p :: mdel r k
theorem ae7 (hk : KeyT d fk) (k : K) : ∀ (m : List (K × V)) (l : List MapEntry) (i : Nat), l.map (·.key) = (m.map (·.1)).map fk →
  (mget m k = none ∧ Instr.findNow d (fk k) l i = some none ∧ (∀ v, mset m k v = m ++ [(k, v)]) ∧ mdel m k = m) ∨
  ∃ j p e, m[j]? = some p ∧ mget m k = some p.2 ∧ l[j]? = some e ∧ e.key = fk k ∧ Instr.findNow d (fk k) l i = some (some (i + j, e.val)) ∧ (∀ v, mset m k v = m.set j (k, v)) ∧ mdel m k = m.eraseIdx j
 | [], [], i, _ => .inl ⟨rfl, rfl, fun v => rfl, rfl⟩
 | [], _ :: _, i, h => by simp at h
 | _ :: _, [], i, h => by simp at h
 | p :: m, e :: l, i, h => by
  simp only [List.map_cons, List.cons.injEq] at h
  obtain ⟨h1, h3⟩ := h
  obtain ⟨r, hr, hiff⟩ : ∃ r, Instr.sameNow d (fk k) e.key = some r ∧ (r = true ↔ fk k = e.key) := Go.MapKept.sameNow_of_keys (hk.key k) (by rw [h1]; exact hk.key p.1)
  by_cases c : k = p.1
  ·have : r = true := hiff.2 (by rw [h1, c])
   subst this
   exact .inr ⟨0, p, e, rfl, by simp [mget, c], rfl, by rw [h1, c], by simp [Instr.findNow, hr], fun v => by simp [mset, c], by simp [mdel, c]⟩
  ·have : r = false := by
    cases r with
    | false => rfl
    | true => exact absurd (hk.inj ((hiff.1 rfl).trans h1)) c
   subst this
   rcases ae7 hk k m l (i + 1) h3 with ⟨g1, g2, g3, g4⟩ | ⟨j, p', e', g1, g2, g3, g4, g5, g6, g7⟩
   ·exact .inl ⟨by simp [mget, c, g1], by simp [Instr.findNow, hr, g2], fun v => by simp [mset, c, g3], by simp [mdel, c, g4]⟩
   ·exact .inr ⟨j + 1, p', e', by simpa using g1, by simp [mget, c, g2], by simpa using g3, g4, by simp [Instr.findNow, hr, g5]; omega, fun v => by simp [mset, c, g6], by simp [mdel, c, g7]⟩
theorem ad6 {w : World} {φ : Phi} {σ : b8} {A : Nat → Prop} {id : Id} {p : Obj → List Value → Prop} {cs : List C} {u : Value} (h : RelT w φ σ A (.c (.map id)) u) (hσ : σ[id]? = some (some (.obj p cs))) : ∃ b base, φ id = some (b, base) ∧ u = .map (some b) := by
 cases h with | c h => cases h with | map hid h1 h => exact h _ _ hσ
theorem W.makeMapP {t : TypeId} {id : Id} (r : Nat) (fk : K → Value) (hid : newF σv = some id) (hσ : n7 σv (.one (pmap r fk ([] : List (K × Int)))) = some σ') (hd : f4 sz dst = true)
  (h : AOps P σ0 sz ops Q rest (St.mk (putE env dst (.c (.map id))) σ')) : AOps P σ0 sz ops Q (⟨dst, .makeMap t none, ty, pos, after, none⟩ :: rest) (St.mk env σv) := by
 have h2 := v8 hid; have h3 := m7 hσ
 subst h2 h3
 refine .valueW rfl hd _ _ (fun Γ φ a w hR => ?_) h
 have hA := Rs.allocB (p0 := I2 fk []) (cs0 := []) (us0 := []) (obj := .map #[] 0) hR.toRs ⟨#[], 0, rfl, rfl, rfl⟩ (fun i x hx => by simp at hx)
 exact ⟨.map (some w.heap.size), w.alloc (.map #[] 0), _, by simp [execOp, Instr.makeMap], .c (.map (by simp) rfl fun p cs hp => ⟨w.heap.size, 0, by simp [l8], rfl⟩), hR.of hA.1 hA.2⟩
theorem S.lookupOkP {x y : Operand} {t kt vt : TypeId} {id : Id} {r : Nat} {m : List (K × Int)} {k : K} {size bytes : Nat} {zv : Value} [ht : TyD P t (.map kt vt)] [hkt : TyD P kt d] [hs : TyS P vt size bytes zv] (hk : KeyT d fk) (hz : zv = .pointer none)
  (hx : ev env x = some (.c (.map id))) (hy : ev env y = some (.c (.imm (.val (fk k))))) (hσ : σv[id]? = some (some (pmap r fk m))) (hd : f4 sz dst = true)
  (h : AOps P σ0 sz ops Q rest (St.mk (putE env dst (.tup [.c (ptrO r (mget m k)), .c (bool (mget m k).isSome)])) σv)) : AOps P σ0 sz ops Q (⟨dst, .lookup t x y true, ty, pos, after, none⟩ :: rest) (St.mk env σv) := by
 refine .valueW rfl hd _ _ (fun Γ φ a w hR => ?_) h
 obtain ⟨b, base, hp, hv⟩ := ad6 (g8 hR hx) hσ
 obtain ⟨hv2, _⟩ := C3 (g8 hR hy)
 obtain ⟨b', o, us, g1, g2, ⟨es, c, rfl, g3, g4⟩, g5⟩ := hR.st.blk _ _ hσ
 rw [hp] at g1; cases g1
 rcases ae7 hk k m es.toList 0 g3 with ⟨q1, q2, _⟩ | ⟨j, p, e, q0, q1, q3, q4, q2, _⟩
 ·refine ⟨.tuple #[.pointer none, .bool false], w, φ, ?_, RelT.tup' (vs := [.pointer none, .bool false]) rfl (fun i t u hi hu => ?_), hR⟩
  ·simp [execOp, hv, hv2, Instr.lookup, run_underlying ht.h, Go.MapKept.run_getObj_map g2, Go.MapKept.run_checkKey hkt.h (hk.key k), Go.MapKept.run_findKey hkt.h q2, H0 (t := vt), hz, Result.andThen]
  ·match i with
   | 0 => cases hi; cases hu; rw [q1]; exact .c (.imm (.val rfl))
   | 1 => cases hi; cases hu; rw [q1]; exact .bool _
   | i + 2 => simp at hi
 ·obtain ⟨u, hu, hru⟩ := g5 j (I5 r p.2) (by rw [List.getElem?_map, q0]; rfl)
  have hue : u = e.val := by
   rw [← g4, List.getElem?_map, q3] at hu
   simpa using hu.symm
  subst hue
  refine ⟨.tuple #[e.val, .bool true], w, φ, ?_, RelT.tup' (vs := [e.val, .bool true]) rfl (fun i t u hi hu => ?_), hR⟩
  ·simp [execOp, hv, hv2, Instr.lookup, run_underlying ht.h, Go.MapKept.run_getObj_map g2, Go.MapKept.run_checkKey hkt.h (hk.key k), Go.MapKept.run_findKey hkt.h q2, Result.andThen]
  ·match i with
   | 0 => cases hi; cases hu; rw [q1]; exact .c hru
   | 1 => cases hi; cases hu; rw [q1]; exact .bool _
   | i + 2 => simp at hi
theorem S.mapUpdateP {x y v : Operand} {t kt vt : TypeId} {id : Id} {r : Nat} {m : List (K × Int)} {k : K} {a : Int} [ht : TyD P t (.map kt vt)] [hkt : TyD P kt d] (hk : KeyT d fk)
  (hx : ev env x = some (.c (.map id))) (hy : ev env y = some (.c (.imm (.val (fk k))))) (hv : ev env v = some (.c (.ptr (r, [a.toNat]) 0 0))) (hσ : σv[id]? = some (some (pmap r fk m))) (hσ' : putF σv id (some (pmap r fk (mset m k a))) = some σ')
  (h : AOps P σ0 sz ops Q rest (St.mk env σ')) : AOps P σ0 sz ops Q (⟨none, .mapUpdate t x y v, ty, pos, after, none⟩ :: rest) (St.mk env σv) := by
 have h2 := u8 hσ'
 subst h2
 refine .skipW rfl rfl _ (fun Γ φ ac w hR => ?_) h
 obtain ⟨b, base, hp, e1⟩ := ad6 (g8 hR hx) hσ
 obtain ⟨e2, _⟩ := C3 (g8 hR hy)
 have hrv := g8 hR hv
 generalize e3 : ac.eval v = u at hrv
 have hru : RelC w φ σv (Al Γ.N φ σv) (I5 r a) u := by cases hrv with | c h => exact h
 obtain ⟨b', o, us, g1, g2, ⟨es, c, rfl, g3, g4⟩, g5⟩ := hR.st.blk _ _ hσ
 rw [hp] at g1; cases g1
 rcases ae7 hk k m es.toList 0 g3 with ⟨q1, q2, q3, _⟩ | ⟨j, p, e, q0, q1, q3, q4, q2, q5, _⟩
 ·have hW := Rs.writeB (q1 := I2 fk ((mset m k a).map (·.1))) (cs1 := (mset m k a).map fun p => I5 r p.2) (us1 := us ++ [u]) (o1 := .map (es.push { key := fk k, val := u, born := c }) (c + 1)) hR.toRs hσ hp g2
   ⟨_, _, rfl, by rw [q3]; simp [g3], by simp [g4]⟩ (fun i x hx => by
    rw [q3, List.map_append, List.getElem?_append] at hx
    split at hx
    ·obtain ⟨u', h1, h2⟩ := g5 i x hx
     exact ⟨u', by rw [List.getElem?_append_left (List.getElem?_eq_some_iff.1 h1).1]; exact h1, h2⟩
    ·rename_i hge
     have hl : us.length = m.length := by rw [← g4]; have := congrArg List.length g3; simpa using this
     simp only [List.length_map] at hx hge
     have h0 : i = m.length := by
      have := (List.getElem?_eq_some_iff.1 hx).1
      simp at this; omega
     subst h0
     simp at hx
     subst hx
     exact ⟨u, by rw [← hl]; simp, hru⟩)
  refine ⟨_, φ, ?_, hR.of hW.1 hW.2⟩
  simp [execOp, e1, e2, e3, Instr.mapUpdate, run_underlying ht.h, Go.MapKept.run_getObj_map g2, Go.MapKept.run_checkKey hkt.h (hk.key k), Go.MapKept.run_findKey hkt.h q2, Go.MapKept.run_setObj_map _ g2, Result.andThen]
 ·have hj : es[j]? = some e := by simpa using q3
  have hW := Rs.writeB (q1 := I2 fk ((mset m k a).map (·.1))) (cs1 := (mset m k a).map fun p => I5 r p.2) (us1 := us.set j u) (o1 := .map (es.modify j fun e => { e with key := fk k, val := u }) c) hR.toRs hσ hp g2
   ⟨_, _, rfl, by
    rw [q5, Array.toList_modify]
    apply List.ext_getElem?
    intro i
    have hg := congrArg (fun l => l[i]?) g3
    simp only [List.getElem?_map, List.getElem?_modify, List.getElem?_set] at hg ⊢
    by_cases hi : j = i
    ·subst hi
     have hlt := (List.getElem?_eq_some_iff.1 q0).1
     simp [q3, hlt]
    ·simpa [hi] using hg, by
    rw [Array.toList_modify]
    apply List.ext_getElem?
    intro i
    have hg := congrArg (fun l => l[i]?) g4
    simp only [List.getElem?_map, List.getElem?_modify, List.getElem?_set] at hg ⊢
    by_cases hi : j = i
    ·subst hi
     have hlt : j < us.length := by rw [← g4]; simpa using (List.getElem?_eq_some_iff.1 q3).1
     simp [q3, hlt]
    ·simpa [hi] using hg⟩ (fun i x hx => by
    rw [q5, List.getElem?_map, List.getElem?_set] at hx
    by_cases hi : j = i
    ·subst hi
     have hlt := (List.getElem?_eq_some_iff.1 q0).1
     have hlu : j < us.length := by rw [← g4]; simpa using (List.getElem?_eq_some_iff.1 q3).1
     simp [hlt] at hx
     subst hx
     exact ⟨u, by simp [hlu], hru⟩
    ·rw [if_neg hi, ← List.getElem?_map] at hx
     obtain ⟨u', h1, h2⟩ := g5 i x hx
     exact ⟨u', by rw [List.getElem?_set, if_neg hi]; exact h1, h2⟩)
  refine ⟨_, φ, ?_, hR.of hW.1 hW.2⟩
  simp [execOp, e1, e2, e3, Instr.mapUpdate, run_underlying ht.h, Go.MapKept.run_getObj_map g2, Go.MapKept.run_checkKey hkt.h (hk.key k), Go.MapKept.run_findKey hkt.h q2, hj, q4, Go.MapKept.run_keyThatStays (hk.key k), Go.MapKept.run_setObj_map _ g2, Result.andThen]
theorem V2 {A B : Type} (f : A → B) : ∀ (l : List A) (j : Nat), (l.map f).eraseIdx j = (l.eraseIdx j).map f
 | [], _ => rfl
 | _ :: _, 0 => rfl
 | a :: l, j + 1 => by simp [V2 f l j]
theorem erase_rel {es : Array MapEntry} {us : List Value} {m : List (K × Int)} {r j : Nat} (g3 : es.toList.map (·.key) = (m.map (·.1)).map fk) (g4 : es.toList.map (·.val) = us) :
  (es.eraseIdxIfInBounds j).toList.map (·.key) = ((m.eraseIdx j).map (·.1)).map fk ∧ (es.eraseIdxIfInBounds j).toList.map (·.val) = us.eraseIdx j := by
 have e0 : (es.eraseIdxIfInBounds j).toList = es.toList.eraseIdx j := by
  unfold Array.eraseIdxIfInBounds
  split
  ·rw [Array.toList_eraseIdx]
  ·rename_i h
   rw [List.eraseIdx_of_length_le (by simpa using h)]
 rw [e0]
 exact ⟨by rw [← V2, g3, ← V2, ← V2], by rw [← V2, g4]⟩
theorem S.deleteP {x y : Operand} {t kt kt' vt : TypeId} {id : Id} {r : Nat} {m : List (K × Int)} {k : K} [ht : TyD P t (.map kt vt)] [hkt : TyD P kt d] (hk : KeyT d fk)
  (hx : ev env x = some (.c (.map id))) (hy : ev env y = some (.c (.imm (.val (fk k))))) (hσ : σv[id]? = some (some (pmap r fk m))) (hd : f4 sz dst = true) (hσ' : putF σv id (some (pmap r fk (mdel m k))) = some σ')
  (h : AOps P σ0 sz ops Q rest (St.mk (putE env dst (.tup [])) σ')) : AOps P σ0 sz ops Q (⟨dst, .call ⟨.builtin .delete, #[x, y], #[t, kt']⟩, ty, pos, after, none⟩ :: rest) (St.mk env σv) := by
 have h2 := u8 hσ'
 subst h2
 refine .valueW rfl hd (.tup []) _ (fun Γ φ ac w hR => ?_) h
 obtain ⟨b, base, hp, e1⟩ := ad6 (g8 hR hx) hσ
 obtain ⟨e2, _⟩ := C3 (g8 hR hy)
 obtain ⟨b', o, us, g1, g2, ⟨es, c, rfl, g3, g4⟩, g5⟩ := hR.st.blk _ _ hσ
 rw [hp] at g1; cases g1
 have hnil : ∀ w φ σ A, RelT w φ σ A (.tup []) (.tuple #[]) := fun w φ σ A => RelT.tup' (vs := []) rfl (fun i t u hi => by simp at hi)
 rcases ae7 hk k m es.toList 0 g3 with ⟨q1, q2, _, q6⟩ | ⟨j, p, e, q0, q1, q3, q4, q2, _, q6⟩
 ·have hW := Rs.writeB (q1 := I2 fk ((mdel m k).map (·.1))) (cs1 := (mdel m k).map fun p => I5 r p.2) (us1 := us) (o1 := .map es c) hR.toRs hσ hp g2 ⟨_, _, rfl, by rw [q6]; exact g3, g4⟩ (fun i x hx => by rw [q6] at hx; exact g5 i x hx)
  refine ⟨.tuple #[], _, φ, ?_, hnil _ _ _ _, hR.of hW.1 hW.2⟩
  simp [execOp, resolve, invoke, builtin, e1, e2, Builtin.delete_, run_underlying ht.h, Go.MapKept.run_getObj_map g2, Go.MapKept.run_checkKey hkt.h (hk.key k), Go.MapKept.run_findKey hkt.h q2, Go.MapKept.run_setObj_map _ g2, Result.andThen]
 ·have he := erase_rel (r := r) (j := j) g3 g4
  have hW := Rs.writeB (q1 := I2 fk ((mdel m k).map (·.1))) (cs1 := (mdel m k).map fun p => I5 r p.2) (us1 := us.eraseIdx j) (o1 := .map (es.eraseIdxIfInBounds j) c) hR.toRs hσ hp g2 ⟨_, _, rfl, by rw [q6]; exact he.1, he.2⟩ (fun i x hx => by
   rw [q6, ← V2, List.getElem?_eraseIdx] at hx
   rw [List.getElem?_eraseIdx]
   split at hx
   ·rename_i hlt
    obtain ⟨u, h1, h2⟩ := g5 i x hx
    exact ⟨u, by rw [if_pos hlt]; exact h1, h2⟩
   ·rename_i hge
    obtain ⟨u, h1, h2⟩ := g5 (i + 1) x hx
    exact ⟨u, by rw [if_neg hge]; exact h1, h2⟩)
  refine ⟨.tuple #[], _, φ, ?_, hnil _ _ _ _, hR.of hW.1 hW.2⟩
  simp [execOp, resolve, invoke, builtin, e1, e2, Builtin.delete_, run_underlying ht.h, Go.MapKept.run_getObj_map g2, Go.MapKept.run_checkKey hkt.h (hk.key k), Go.MapKept.run_findKey hkt.h q2, Go.MapKept.run_setObj_map _ g2, Result.andThen]
end
/-! ### A view becomes a row of its own -/
theorem Sub.reownC {id : Id} {k j n : Nat} {es : List (List C)} {n' : Id} {σ1 : b8} (t : Nat) (hx : lookup t env = some (.c (.own id j n))) (hσ : σv[id]? = some (some (.cells k es))) (hjl : j + n ≤ es.length) (h0 : Nat.ble σ0.length id.1 = true) (hid : newF σv = some n')
  (h1 : putF σv id none = some σ1) (hσ' : n7 σ1 (.one (.cells k ((es.drop j).take n))) = some σ') (henv : ReE env t (.own n' 0 n) env') : Sub σ0 ⟨env, σv⟩ ⟨env', σ'⟩ := fun Γ sz φ a w hΓ hR => by
 have h2 := u8 h1
 have h3 := v8 hid; have h4 := m7 hσ'
 have hvl : ((es.drop j).take n).length = n := by rw [List.length_take, List.length_drop]; omega
 subst h2 h3 h4
 generalize hes : (es.drop j).take n = es' at *
 have at_new : (σv.put id none ++ [Ent.one (.cells k es')])[((σv.length, []) : Id)]? = some (some (.cells k es')) := by
  rw [b8.get_right (by simp)]; simp [b8.at_eq, b8.at, Ent.sub]
 obtain ⟨u0, hu0, hrel⟩ := hR.env t _ hx
 have ho := K0 hrel hσ
 have fin : ∀ (φ' : Phi) (hk : Kept w w φ φ' σv (σv.put id none ++ [.one (.cells k es')]) (Al Γ.N φ σv) (Al Γ.N φ' (σv.put id none ++ [.one (.cells k es')]))) (hs : Rs Γ (σv.put id none ++ [.one (.cells k es')]) φ' w) (hview : K6 w (φ' (σv.length, [])) k es'.length 0 n u0),
   R Γ sz ⟨env', σv.put id none ++ [.one (.cells k es')]⟩ φ' a w := fun φ' hk hs hview => by
  have hR1 := hR.of hk hs
  refine { toRs := hs, defers := hR1.defers, asize := hR.asize, env := fun t' v' ht' => ?_ }
  rcases henv.get t' v' ht' with ⟨rfl, rfl⟩ | h
  ·refine ⟨u0, hu0, .c (.own (by simp) (by cases hrel with | c g2 => exact g2.one) fun k' es2 he => ?_)⟩
   rw [at_new] at he
   cases he
   exact hview
  ·obtain ⟨u1, g1, g2⟩ := hR1.env t' v' h
   exact ⟨u1, g1, g2⟩
 rcases ho with ⟨p1, p2, p3, p4⟩ | ⟨b, base, cap, arr, ety, ad, hp, hvv, had, hcap, hmax, hjn, hbk, hsz⟩
 ·have hnil : es' = [] := List.eq_nil_of_length_eq_zero (by rw [hvl, p4])
  subst hnil
  have hK := hR.toRs.kill id
  have hV := hK.2.virt k
  rw [b8.length_put] at hV
  refine ⟨fun i => if i = (σv.length, []) then none else φ i, ?_⟩
  exact fin _ (Kept.trans (Nat.le_refl _) hK.1 hV.1) hV.2 (.inl ⟨by simp, p2, rfl, p4⟩)
 ·obtain ⟨arr2, ety2, q1, q2, q3, q4⟩ := G3 hR hσ hp
  rw [hbk] at q1; cases q1
  have hO := Rs.reown (k := k) (base' := base + j * k) (es' := es') (arr' := arr) hR.toRs hσ hp hbk (fun i e he => by
    rw [← hes, List.getElem?_take] at he
    split at he
    ·rw [List.getElem?_drop] at he
     exact q3 _ e he
    ·cases he) (by
    rw [hvl]
    have : (j + cap) * k = j * k + cap * k := Nat.add_mul ..
    have : n * k ≤ cap * k := Nat.mul_le_mul_right k hcap
    omega) (fun i e o x he hx => by
    rw [← hes, List.getElem?_take] at he
    split at he
    ·rw [List.getElem?_drop] at he
     obtain ⟨u2, g1, g2⟩ := q4 _ e o x he hx
     refine ⟨u2, ?_, g2⟩
     rw [← g1, Nat.add_mul]
     congr 1; omega
    ·cases he)
  rw [Go.setRow_self w b arr ety (0, 0) hbk] at hO
  refine ⟨fun i => if i = (σv.length, []) then some (b, base + j * k) else φ i, ?_⟩
  refine fin _ hO.1 hO.2 (.inr ⟨b, base + j * k, cap, arr, ety, ad, by simp, hvv, fun hc => ?_, hcap, hmax, by omega, hbk, ?_⟩)
  ·rw [had hc, Nat.zero_mul, Nat.add_zero]
  ·have : (j + cap) * k = j * k + cap * k := Nat.add_mul ..
   rw [Nat.zero_add]; omega
theorem Sub.reownP {h r m : Nat} {l l' : List Int} {n' : Id} {σ1 : b8} {hi : Int} (t : Nat) (hl : subL l 0 hi = some l') (hx : lookup t env = some (.c (.own (h, []) 0 m))) (hm : m = l'.length) (hσ : σv[((h, []) : Id)]? = some (some (prow r l))) (h0 : Nat.ble σ0.length h = true) (hid : newF σv = some n')
  (h1 : putF σv (h, []) none = some σ1) (hσ' : n7 σ1 (.one (prow r l')) = some σ') (henv : ReE env t (.own n' 0 m) env') : Sub σ0 ⟨env, σv⟩ ⟨env', σ'⟩ := by
 have hll : l'.length ≤ l.length ∧ l' = l.take l'.length := by
  unfold subL at hl
  split at hl
  ·cases hl
   refine ⟨by simp; omega, ?_⟩
   simp
  ·cases hl
 have e : (prow r l') = .cells 1 (((l.map fun i => [C.ptr (r, [i.toNat]) 0 0]).drop 0).take m) := by
  rw [List.drop_zero, ← List.map_take, hm, ← hll.2]; rfl
 rw [e] at hσ'
 exact Sub.reownC t hx hσ (by simp; omega) h0 hid h1 hσ' henv
/-! ### Places told by their bounds alone -/
theorem m4 {β : Type} {l : List β} {i : Int} {a : β} (h : ix l i = some a) : 0 ≤ i ∧ i.toNat < l.length := ⟨(I7 h).1, f8 h⟩
theorem S.idxPb {x y : Operand} {t e : TypeId} {bytes n h r : Nat} {z : Value} {kk : IntKind} {i : Int} {l : List Int} [ht : TyD P t (.slice e)] [hs : TyS P e 1 bytes z]
  (hx : ev env x = some (.c (.own (h, []) 0 n))) (hσ : σv[((h, []) : Id)]? = some (some (prow r l))) (hn : n = l.length) (hb : 0 ≤ i ∧ i.toNat < l.length) (hy : ev env y = some (.c (.imm (.val (.int kk i))))) (hd : f4 sz dst = true)
  (hh : AOps P σ0 sz ops Q rest (St.mk (putE env dst (.c (.ptr (h, []) i.toNat 0))) σv)) : AOps P σ0 sz ops Q (⟨dst, .indexAddr t x y, ty, pos, after, none⟩ :: rest) (St.mk env σv) :=
 .indexAddrOwn hx hσ hy (by omega) hd (by rw [Nat.zero_add]; exact hh)
theorem pool_ex {α : Type} {σ : b8} {r size : Nat} {f : α → List I} {E : List α} {i : Int} (h : σ[r]? = some (pool size f E)) (hb : i.toNat < E.length) : ∃ e : α, σ[((r, [i.toNat]) : Id)]? = some (some (.cells size [(f e).map .imm])) :=
 ⟨E[i.toNat], by rw [l9 h, ah5 (List.getElem?_eq_getElem hb)]; rfl⟩
theorem S.nilCheckE {α : Type} {size r o : Nat} {f : α → List I} {E : List α} {i : Int} {x : Operand} (hx : ev env x = some (.c (.ptr (r, [i.toNat]) 0 o))) (hσ : σv[r]? = some (pool size f E)) (hb : i.toNat < E.length) (hd : f4 sz dst = true)
  (h : AOps P σ0 sz ops Q rest (St.mk (putE env dst (.c (.ptr (r, [i.toNat]) 0 o))) σv)) : AOps P σ0 sz ops Q (⟨dst, .nilCheck x, ty, pos, after, none⟩ :: rest) (St.mk env σv) := by
 obtain ⟨e, he⟩ := pool_ex hσ hb
 exact AOps.aj hx he hd h
theorem S.fieldE {α : Type} {size r g off ft size' bytes : Nat} {f : α → List I} {E : List α} {i : Int} {x : Operand} {t : TypeId} {z : Value} [hf : FieldC P t g off ft] [hs : TyS P ft size' bytes z] (hz : Nat.beq size' 0 = false)
  (hx : ev env x = some (.c (.ptr (r, [i.toNat]) 0 0))) (hσ : σv[r]? = some (pool size f E)) (hb : i.toNat < E.length) (hd : f4 sz dst = true)
  (h : AOps P σ0 sz ops Q rest (St.mk (putE env dst (.c (.ptr (r, [i.toNat]) 0 off))) σv)) : AOps P σ0 sz ops Q (⟨dst, .fieldAddr t x g, ty, pos, after, none⟩ :: rest) (St.mk env σv) := by
 obtain ⟨e, he⟩ := pool_ex hσ hb
 exact W.fieldAddr hz hx he hd h
def W7 {A B : Type} (l : List A) (l' : List B) : Option Unit := if l.length = l'.length then some () else none
theorem ab9 {A B : Type} {l : List A} {l' : List B} {u : Unit} (h : W7 l l' = some u) : l.length = l'.length := by
 unfold W7 at h
 split at h
 ·assumption
 ·cases h
theorem Sub.virtP (r : Nat) {b : Id} {n kb o : Nat} {cs cs' : List C} {σ1 : b8} (hb : σv[b]? = some (some (.cells kb [cs]))) (hc : cs[o]? = some (.imm (.val (.slice none 0 0)))) (hn : newF σv = some (n, [])) (h1 : n7 σv (.one (prow r [])) = some σ1)
  (hs : setF cs o (.own (n, []) 0 ([] : List Int).length) = some cs') (hσ' : putF σ1 b (some (.cells kb [cs'])) = some σ') : Sub σ0 ⟨env, σv⟩ ⟨env, σ'⟩ :=
 Sub.virtB (α := Int) 1 (fun _ => []) hb hc hn h1 hs hσ'
theorem AWP.virtP {c : Code} (r : Nat) {b : Id} {n kb o : Nat} {cs cs' : List C} {σ1 : b8} (hb : σv[b]? = some (some (.cells kb [cs]))) (hc : cs[o]? = some (.imm (.val (.slice none 0 0)))) (hn : newF σv = some (n, [])) (h1 : n7 σv (.one (prow r [])) = some σ1)
  (hs : setF cs o (.own (n, []) 0 ([] : List Int).length) = some cs') (hσ' : putF σ1 b (some (.cells kb [cs'])) = some σ') (h : AWP P σ0 sz c Q (St.mk env σ')) : AWP P σ0 sz c Q (St.mk env σv) := AWP.sub (Sub.virtP r hb hc hn h1 hs hσ') h
end
end Ab
end
section
namespace Ab
open Go
section
variable {K α : Type} [DecidableEq K]
def posM : List (K × List α) → K → Nat
 | [], _ => 0
 | p :: r, k => if k = p.1 then 0 else posM r k + 1
def rowM (m : List (K × List α)) (k : K) : List α := (mget m k).getD []
def rowC (r : Nat) (m : List (K × List α)) (k : K) : C := match mget m k with
 | some row => .own (r, [posM m k]) 0 row.length
 | none => .imm (.val (.slice none 0 0))
theorem I0 (k : K) : ∀ m : List (K × List α), (mget m k = none ∧ posM m k = m.length ∧ ∀ v, mset m k v = m ++ [(k, v)]) ∨ ∃ row, mget m k = some row ∧ m[posM m k]? = some (k, row) ∧ ∀ v, mset m k v = m.set (posM m k) (k, v)
 | [] => .inl ⟨rfl, rfl, fun v => rfl⟩
 | p :: m => by
  by_cases c : k = p.1
  ·exact .inr ⟨p.2, by simp [mget, c], by simp [posM, c], fun v => by simp [mset, posM, c]⟩
  ·rcases I0 k m with ⟨h1, h2, h3⟩ | ⟨row, h1, h2, h3⟩
   ·exact .inl ⟨by simp [mget, c, h1], by simp [posM, c, h2], fun v => by simp [mset, c, h3]⟩
   ·exact .inr ⟨row, by simp [mget, c, h1], by simpa [posM, c] using h2, fun v => by simp [mset, posM, c, h3]⟩
def G0 (r : Nat) (m : List (K × List α)) : List C := m.mapIdx fun i p => .own (r, [i]) 0 p.2.length
def mmap (r k : Nat) (fk : K → Value) (f : α → List I) (m : List (K × List α)) : Ent := .node (some (.obj (I2 fk (m.map (·.1))) (G0 r m))) (m.map fun p => .one (vec k f p.2))
def mmapD (r k : Nat) (fk : K → Value) (f : α → List I) (m : List (K × List α)) (key : K) : Ent := .node (some (.obj (I2 fk (m.map (·.1))) (G0 r m))) ((m.map fun p => .one (vec k f p.2)).set (posM m key) .dead)
def aa2 (r : Nat) (m : List (K × List α)) (key : K) (s n : Nat) : List C := if (mget m key).isSome = true then (G0 r m).set (posM m key) (.own (s, []) 0 n) else G0 r m ++ [.own (s, []) 0 n]
def mmapS (r k : Nat) (fk : K → Value) (f : α → List I) (m : List (K × List α)) (key : K) (s n : Nat) : Ent := .node (some (.obj (I2 fk ((mset m key []).map (·.1))) (aa2 r m key s n))) ((m.map fun p => .one (vec k f p.2)).set (posM m key) .dead)
variable {fk : K → Value} {f : α → List I} {m : List (K × List α)} {r k : Nat}
theorem heads_len : (G0 r m).length = m.length := by simp [G0]
theorem heads_get {i : Nat} {x : C} (h : (G0 r m)[i]? = some x) : ∃ p, m[i]? = some p ∧ x = .own (r, [i]) 0 p.2.length := by
 simp only [G0, List.getElem?_mapIdx, Option.map_eq_some_iff] at h
 obtain ⟨p, h1, h2⟩ := h
 exact ⟨p, h1, h2.symm⟩
theorem mm_sub {q : List Nat} {b : Blk} (h : (mmap r k fk f m).sub q = some b) : (q = [] ∧ b = .obj (I2 fk (m.map (·.1))) (G0 r m)) ∨ ∃ i p, q = [i] ∧ m[i]? = some p ∧ b = vec k f p.2 := by
 cases q with
 | nil => exact .inl ⟨rfl, by simpa [mmap, Ent.sub] using h.symm⟩
 | cons i q =>
  simp only [mmap, Ent.sub, List.getElem?_map] at h
  cases hi : m[i]? with
  | none => simp [hi] at h
  | some p =>
   rw [hi] at h
   cases q with
   | nil => simp only [Option.map_some, Ent.sub, Option.some.injEq] at h; exact .inr ⟨i, p, rfl, hi, h.symm⟩
   | cons => simp [Ent.sub] at h
theorem mm_main : (mmap r k fk f m).sub [] = some (.obj (I2 fk (m.map (·.1))) (G0 r m)) := rfl
theorem mm_row {i : Nat} {p : K × List α} (h : m[i]? = some p) : (mmap r k fk f m).sub [i] = some (vec k f p.2) := by simp [mmap, Ent.sub, h]
theorem heads_ok {n : Nat} (h : Nat.blt r n = true) : C.okL n (G0 r m) = true := by
 rw [D2, List.all_eq_true]
 intro x hx
 obtain ⟨i, hi⟩ := List.getElem?_of_mem hx
 obtain ⟨p, _, rfl⟩ := heads_get hi
 simpa [C.ok] using h
theorem heads_no {id : Id} (h : id.1 ≠ r) : C.noL id (G0 r m) = true := by
 rw [noL_eq, List.all_eq_true]
 intro x hx
 obtain ⟨i, hi⟩ := List.getElem?_of_mem hx
 obtain ⟨p, _, rfl⟩ := heads_get hi
 have : idb ((r, [i]) : Id) id = false := w7 (fun e => h (by rw [← e]))
 simp [C.no, this]
theorem mm_ok {n : Nat} (h : Nat.blt r n = true) : ∀ q b, (mmap r k fk f m).sub q = some b → b.ok n = true := fun q b hb => by
 rcases mm_sub hb with ⟨_, rfl⟩ | ⟨i, p, _, _, rfl⟩
 ·simpa [Blk.ok] using heads_ok h
 ·exact B1
theorem mm_no {id : Id} (h : id.1 ≠ r) : ∀ q b, (mmap r k fk f m).sub q = some b → b.no id = true := fun q b hb => by
 rcases mm_sub hb with ⟨_, rfl⟩ | ⟨i, p, _, _, rfl⟩
 ·simpa [Blk.no] using heads_no h
 ·exact Blk.im_no _ _ _
theorem n9.mmap {id n : Id} {mx : Nat} {σ : b8} (h : Nat.beq id.1 r = false) (hr : Nat.blt r mx = true) (hσ : σ[r]? = some (Ab.mmap r k fk f m)) : n9 id n σ mx r (Ab.mmap r k fk f m) := by
 have hne : id.1 ≠ r := fun e => by simp [e] at h
 show ∀ (p : List Nat) (b : Blk), (Ab.mmap r k fk f m).sub p = some b → _
 intro p b hb
 have hm : mv id n (r, p) = (r, p) := by
  have : (r, p) ≠ id := fun e => hne (by rw [← e])
  simp [mv, w7 this]
 rw [hm, l9 hσ, hb]
 exact ⟨mm_ok hr p b hb, by rw [Blk.ren_no _ (mm_no hne p b hb)]⟩
theorem ah9 {π : Id → Id} {r' : Nat} (h : ∀ q, π (r, q) = (r', q)) : C.renL π (G0 r m) = G0 r' m := by
 have renL_get : ∀ (L : List C) (i : Nat), (C.renL π L)[i]? = (L[i]?).map (C.ren π) := fun L => by
  induction L with
  | nil => intro i; simp [C.renL]
  | cons x L ih => intro i; cases i with
   | zero => simp [C.renL]
   | succ i => simpa [C.renL] using ih i
 apply List.ext_getElem?
 intro i
 rw [renL_get]
 simp only [G0, List.getElem?_mapIdx]
 cases m[i]? with
 | none => rfl
 | some p => simp [C.ren, h]
theorem EntR.mmap {r0 n mx i j : Nat} {σ : b8} (hj : (mvr r0 n (i, [])).1 = j) (hr : Nat.blt i mx = true) (hσ : σ[j]? = some (Ab.mmap j k fk f m)) : EntR r0 n σ mx i (Ab.mmap i k fk f m) := .any fun p b hb => by
 have e : ∀ q, mvr r0 n (i, q) = (j, q) := fun q => by rw [← hj]; rfl
 rw [e, l9 hσ]
 refine ⟨mm_ok hr p b hb, ?_⟩
 rcases mm_sub hb with ⟨rfl, rfl⟩ | ⟨q, p', rfl, hq, rfl⟩
 ·rw [mm_main]
  simp only [Blk.ren, ah9 e]
 ·rw [mm_row hq, x9]
theorem RenE.mmap {r' : Nat} {π : Id → Id} (h : ∀ q, π (r, q) = (r', q)) : RenE π r (Ab.mmap r k fk f m) r' (Ab.mmap r' k fk f m) := .any (fun p b hb => by
  rcases mm_sub hb with ⟨rfl, rfl⟩ | ⟨q, p', rfl, hq, rfl⟩
  ·rw [mm_main]; simp only [Blk.ren, ah9 h]
  ·rw [mm_row hq, x9]) (fun p b hb => by
  rcases mm_sub hb with ⟨rfl, rfl⟩ | ⟨q, p', rfl, hq, rfl⟩
  ·exact ⟨_, mm_main, by simp only [Blk.ren, ah9 h]⟩
  ·exact ⟨_, mm_row hq, x9.symm⟩)
theorem FrzB.mmap {id : Id} {X : C → C → Prop} (h : Nat.beq id.1 r = false) : FrzB id X (Ab.mmap r k fk f m) (Ab.mmap r k fk f m) := by
 have hne : id.1 ≠ r := fun e => by simp [e] at h
 show _ = _ ∧ _
 exact ⟨rfl, fun p b h => mm_no hne p b h⟩
end
section
variable {P : Program} {σ0 : b8} {sz : Nat} {Q : Post} {env env' : Env} {σv σ' : b8} {ops : Array Oper} {rest : List Oper} {dst : Option Nat} {ty : TypeId} {pos : String} {after : Array Edge}
variable {K α : Type} [DecidableEq K] {fk : K → Value} {d : TypeDesc} {f : α → List I} {m : List (K × List α)} {r k : Nat}
theorem find_pos (hk : KeyT d fk) (key : K) : ∀ (m : List (K × List α)) (l : List MapEntry) (i : Nat), l.map (·.key) = (m.map (·.1)).map fk →
  (mget m key = none ∧ Instr.findNow d (fk key) l i = some none) ∨ ∃ row e, mget m key = some row ∧ m[posM m key]? = some (key, row) ∧ l[posM m key]? = some e ∧ e.key = fk key ∧ Instr.findNow d (fk key) l i = some (some (i + posM m key, e.val))
 | [], [], i, _ => .inl ⟨rfl, rfl⟩
 | [], _ :: _, i, h => by simp at h
 | _ :: _, [], i, h => by simp at h
 | p :: m, e :: l, i, h => by
  simp only [List.map_cons, List.cons.injEq] at h
  obtain ⟨h1, h3⟩ := h
  obtain ⟨r, hr, hiff⟩ : ∃ r, Instr.sameNow d (fk key) e.key = some r ∧ (r = true ↔ fk key = e.key) := Go.MapKept.sameNow_of_keys (hk.key key) (by rw [h1]; exact hk.key p.1)
  by_cases c : key = p.1
  ·have : r = true := hiff.2 (by rw [h1, c])
   subst this
   exact .inr ⟨p.2, e, by simp [mget, c], by simp [posM, c], by simp [posM, c], by rw [h1, c], by subst c; simp [Instr.findNow, hr, posM]⟩
  ·have : r = false := by
    cases r with
    | false => rfl
    | true => exact absurd (hk.inj ((hiff.1 rfl).trans h1)) c
   subst this
   rcases find_pos hk key m l (i + 1) h3 with ⟨g1, g2⟩ | ⟨row, e', g1, g2, g3, g4, g5⟩
   ·exact .inl ⟨by simp [mget, c, g1], by simp [Instr.findNow, hr, g2]⟩
   ·exact .inr ⟨row, e', by simp [mget, c, g1], by simpa [posM, c] using g2, by simpa [posM, c] using g3, g4, by simp [Instr.findNow, hr, g5, posM, c]; omega⟩
theorem mm_rowAt (h : σv[r]? = some (mmap r k fk f m)) {key : K} {row : List α} (he : mget m key = some row) : σv[((r, [posM m key]) : Id)]? = some (some (vec k f row)) := by
 rcases I0 key m with ⟨h1, _⟩ | ⟨row', h1, h2, _⟩
 ·rw [h1] at he; cases he
 ·rw [h1] at he; cases he
  rw [l9 h, mm_row h2]
theorem mm_get (h : σv[r]? = some (mmap r k fk f m)) {key : K} {i : Int} {a : α} (ha : ix (rowM m key) i = some a) : σv[((r, [posM m key]) : Id)]? = some (some (vec k f (rowM m key))) := by
 unfold rowM at ha ⊢
 cases he : mget m key with
 | none => rw [he] at ha; simp [ix] at ha
 | some row => rw [Option.getD_some]; exact mm_rowAt h he
theorem snocF_all {β : Type} : ∀ (l : List β) (x : β), n7 l x = some (l ++ [x])
 | [], x => rfl
 | a :: l, x => by simp [n7, snocF_all l x]
theorem W.makeMapM {t : TypeId} (r k : Nat) (fk : K → Value) (f : α → List I) (hid : newF σv = some (r, [])) (hσ : n7 σv (mmap r k fk f ([] : List (K × List α))) = some σ') (hd : f4 sz dst = true)
  (h : AOps P σ0 sz ops Q rest (St.mk (putE env dst (.c (.map (r, [])))) σ')) : AOps P σ0 sz ops Q (⟨dst, .makeMap t none, ty, pos, after, none⟩ :: rest) (St.mk env σv) := by
 have h2 := v8 hid; have h3 := m7 hσ
 cases h2
 subst h3
 have heq : ∀ i : Id, (σv ++ [Ent.one (pmap 0 fk ([] : List (K × Int)))])[i]? = (σv ++ [mmap σv.length k fk f ([] : List (K × List α))])[i]? := fun i => by
  rcases Nat.lt_or_ge i.1 σv.length with hl | hl
  ·rw [b8.get_left hl, b8.get_left hl]
  ·rw [b8.get_right hl, b8.get_right hl]
   obtain ⟨i1, q⟩ := i
   rw [b8.at_eq, b8.at_eq]
   simp only [b8.at]
   cases i1 - σv.length with
   | zero => cases q <;> rfl
   | succ m => rfl
 exact W.makeMapP (K := K) 0 fk hid (snocF_all _ _) hd (AOps.sub (Sub.same (by simp) heq) h)
theorem S.lookupM {x y : Operand} {t kt vt : TypeId} {r : Nat} {m : List (K × List α)} {key : K} {size bytes : Nat} {zv : Value} [ht : TyD P t (.map kt vt)] [hkt : TyD P kt d] [hs : TyS P vt size bytes zv] (hk : KeyT d fk) (hz : zv = .slice none 0 0)
  (hx : ev env x = some (.c (.map (r, [])))) (hy : ev env y = some (.c (.imm (.val (fk key))))) (hσ : σv[r]? = some (mmap r k fk f m)) (hd : f4 sz dst = true)
  (h : AOps P σ0 sz ops Q rest (St.mk (putE env dst (.c (rowC r m key))) σv)) : AOps P σ0 sz ops Q (⟨dst, .lookup t x y false, ty, pos, after, none⟩ :: rest) (St.mk env σv) := by
 refine .valueW rfl hd _ _ (fun Γ φ a w hR => ?_) h
 have hmain : σv[((r, []) : Id)]? = some (some (.obj (I2 fk (m.map (·.1))) (G0 r m))) := by rw [l9 hσ]; rfl
 obtain ⟨b, base, hp, hv⟩ := ad6 (g8 hR hx) hmain
 obtain ⟨hv2, _⟩ := C3 (g8 hR hy)
 obtain ⟨b', o, us, g1, g2, ⟨es, c, rfl, g3, g4⟩, g5⟩ := hR.st.blk _ _ hmain
 rw [hp] at g1; cases g1
 unfold rowC
 rcases find_pos hk key m es.toList 0 g3 with ⟨q1, q2⟩ | ⟨row, e, q1, q0, q3, q4, q2⟩
 ·rw [q1]
  refine ⟨.slice none 0 0, w, φ, ?_, .c (.imm (.val rfl)), hR⟩
  simp [execOp, hv, hv2, Instr.lookup, run_underlying ht.h, Go.MapKept.run_getObj_map g2, Go.MapKept.run_checkKey hkt.h (hk.key key), Go.MapKept.run_findKey hkt.h q2, H0 (t := vt), hz, Result.andThen]
 ·rw [q1]
  obtain ⟨u, hu, hru⟩ := g5 (posM m key) (.own (r, [posM m key]) 0 row.length) (by simp [G0, List.getElem?_mapIdx, q0])
  have hue : u = e.val := by
   rw [← g4, List.getElem?_map, q3] at hu
   simpa using hu.symm
  subst hue
  refine ⟨e.val, w, φ, ?_, .c hru, hR⟩
  simp [execOp, hv, hv2, Instr.lookup, run_underlying ht.h, Go.MapKept.run_getObj_map g2, Go.MapKept.run_checkKey hkt.h (hk.key key), Go.MapKept.run_findKey hkt.h q2, Result.andThen]
theorem S.appendMM {new l' : List α} {x y : Operand} {t e : TypeId} {bytes : Nat} {n : Id} {z : Value} {v : T} {key : K} {σ1 : b8} [ht : TyD P t (.slice e)] [hs : TyS P e k bytes z]
  (ha : app bytes (rowM m key) new = some l') (hzk : (z.cells.size == k) = true) (hbp : Nat.blt 0 bytes = true) (hx : ev env x = some (.c (rowC r m key))) (hσ : σv[r]? = some (mmap r k fk f m)) (hy : ev env y = some v) (hsrc : SrcF σv k f v new) (hn : newF σv = some n) (h1 : setF σv r (mmapD r k fk f m key) = some σ1) (hσ' : n7 σ1 (.one (vec k f l')) = some σ') (hd : f4 sz dst = true)
  (h : AOps P σ0 sz ops Q rest (St.mk (putE env dst (.c (.own n 0 l'.length))) σ')) :
  AOps P σ0 sz ops Q (⟨dst, .call ⟨.builtin .append, #[x, y], #[t, t]⟩, ty, pos, after, none⟩ :: rest) (St.mk env σv) := by
 obtain ⟨hb, rfl⟩ := app_get ha
 have h2 := (D6 h1).1
 have h3 := v8 hn; have h4 := m7 hσ'
 subst h2 h3 h4
 unfold rowC at hx
 unfold rowM at hb h
 rcases I0 key m with ⟨q1, q2, _⟩ | ⟨row, q1, q2, _⟩
 ·rw [q1] at hx
  rw [q1, Option.getD_none, List.nil_append] at h
  rw [q1, Option.getD_none] at hb
  refine AOps.appendNil (new := (new.map f).map (·.map .imm)) hzk hbp hx hy hsrc.src (by simpa using hb) hd ?_
  rw [show ((new.map f).map (·.map C.imm)).length = new.length by simp]
  refine AOps.sub (s' := ⟨putE env dst (.c (.own (σv.length, []) 0 new.length)), σv.set r (mmapD r k fk f m key) ++ [.one (vec k f new)]⟩) (Sub.same (by simp) fun i => ?_) h
  have hset : ∀ i : Id, (σv.set r (mmapD r k fk f m key))[i]? = σv[i]? := fun i => by
   rw [set_ent hσ]
   split
   ·rename_i hi
    obtain ⟨i1, q⟩ := i
    simp only at hi
    subst hi
    rw [l9 hσ]
    congr 1
    simp only [mmapD, mmap]
    rw [List.set_eq_of_length_le (by rw [q2]; simp)]
   ·rfl
  rcases Nat.lt_or_ge i.1 σv.length with hl | hl
  ·rw [b8.get_left hl, b8.get_left (by simpa using hl), hset]
  ·rw [b8.get_right hl, b8.get_right (by simpa using hl), List.length_set]; rfl
 ·rw [q1] at hx
  rw [q1, Option.getD_some] at h
  rw [q1, Option.getD_some] at hb
  have hrow := mm_rowAt hσ q1
  refine AOps.append (new := (new.map f).map (·.map .imm)) hzk hbp hx hrow hy hsrc.src (by simpa using hb) hd ?_
  have e1 : (((((row.map f).map (·.map C.imm)).drop 0).take row.length) ++ (new.map f).map (·.map C.imm)) = ((row ++ new).map f).map (·.map C.imm) := by
   rw [List.drop_zero, List.take_of_length_le (by simp)]; simp
  have e2 : row.length + ((new.map f).map (·.map C.imm)).length = (row ++ new).length := by simp
  rw [e1, e2]
  refine AOps.sub (s' := ⟨putE env dst (.c (.own (σv.length, []) 0 (row ++ new).length)), σv.set r (mmapD r k fk f m key) ++ [.one (vec k f (row ++ new))]⟩) (Sub.same (by simp) fun i => ?_) h
  have hput : ∀ i : Id, (σv.put (r, [posM m key]) none)[i]? = (σv.set r (mmapD r k fk f m key))[i]? := fun i => by
   rw [set_ent hσ]
   by_cases hi : i = (r, [posM m key])
   ·subst hi
    rw [b8.get_put_eq hrow, if_pos rfl]
    have := (List.getElem?_eq_some_iff.1 q2).1
    simp [mmapD, Ent.sub, this]
   ·rw [b8.get_put_ne hi]
    by_cases hr : i.1 = r
    ·obtain ⟨i1, q⟩ := i
     simp only at hr
     subst hr
     rw [if_pos rfl, l9 hσ]
     congr 1
     cases q with
     | nil => rfl
     | cons a q =>
      simp only [mmap, mmapD, Ent.sub, List.getElem?_set, List.length_map, List.getElem?_map]
      by_cases hap : posM m key = a
      ·subst hap
       cases q with
       | nil => exact absurd rfl hi
       | cons b q =>
        rw [if_pos rfl, if_pos (List.getElem?_eq_some_iff.1 q2).1, q2]
        rfl
      ·rw [if_neg hap]
    ·rw [if_neg hr]
  rcases Nat.lt_or_ge i.1 σv.length with hl | hl
  ·rw [b8.get_left (by simpa using hl), b8.get_left (by simpa using hl), hput]
  ·rw [b8.get_right (by simpa using hl), b8.get_right (by simpa using hl), b8.length_put, List.length_set]; rfl
theorem S.updateMM {x y v : Operand} {t kt vt : TypeId} {s n : Nat} {key : K} [ht : TyD P t (.map kt vt)] [hkt : TyD P kt d] (hk : KeyT d fk)
  (hx : ev env x = some (.c (.map (r, [])))) (hy : ev env y = some (.c (.imm (.val (fk key))))) (hv : ev env v = some (.c (.own (s, []) 0 n))) (hσ : σv[r]? = some (mmapD r k fk f m key)) (hσ' : setF σv r (mmapS r k fk f m key s n) = some σ')
  (h : AOps P σ0 sz ops Q rest (St.mk env σ')) : AOps P σ0 sz ops Q (⟨none, .mapUpdate t x y v, ty, pos, after, none⟩ :: rest) (St.mk env σv) := by
 have hset := D6 hσ'
 have hmain : σv[((r, []) : Id)]? = some (some (.obj (I2 fk (m.map (·.1))) (G0 r m))) := by rw [l9 hσ]; rfl
 refine .skipW rfl rfl (σv.put (r, []) (some (.obj (I2 fk ((mset m key []).map (·.1))) (aa2 r m key s n)))) (fun Γ φ ac w hR => ?_) (AOps.sub (s' := ⟨env, σ'⟩) (Sub.same (by rw [hset.1]; simp) fun i => ?_) h)
 ·obtain ⟨b, base, hp, e1⟩ := ad6 (g8 hR hx) hmain
  obtain ⟨e2, _⟩ := C3 (g8 hR hy)
  have hrv := g8 hR hv
  generalize e3 : ac.eval v = u at hrv
  have hru : RelC w φ σv (Al Γ.N φ σv) (.own (s, []) 0 n) u := by cases hrv with | c h => exact h
  obtain ⟨b', o, us, g1, g2, ⟨es, c, rfl, g3, g4⟩, g5⟩ := hR.st.blk _ _ hmain
  rw [hp] at g1; cases g1
  have hlu : us.length = m.length := by rw [← g4]; have := congrArg List.length g3; simpa using this
  rcases find_pos hk key m es.toList 0 g3 with ⟨q1, q2⟩ | ⟨row, e, q1, q0, q3, q4, q2⟩
  ·have hms : mset m key ([] : List α) = m ++ [(key, [])] := by
    rcases I0 key m with ⟨_, _, h3⟩ | ⟨row, h1, _⟩
    ·exact h3 _
    ·rw [q1] at h1; cases h1
   have hW := Rs.writeB (q1 := I2 fk ((mset m key []).map (·.1))) (cs1 := aa2 r m key s n) (us1 := us ++ [u]) (o1 := .map (es.push { key := fk key, val := u, born := c }) (c + 1)) hR.toRs hmain hp g2
    ⟨_, _, rfl, by rw [hms]; simp [g3], by simp [g4]⟩ (fun i x hx => by
     simp only [aa2, q1, Option.isSome_none, Bool.false_eq_true, if_false] at hx
     rw [List.getElem?_append] at hx
     split at hx
     ·obtain ⟨u', h1, h2⟩ := g5 i x hx
      exact ⟨u', by rw [List.getElem?_append_left (List.getElem?_eq_some_iff.1 h1).1]; exact h1, h2⟩
     ·rename_i hge
      rw [heads_len] at hx hge
      have h0 : i = m.length := by
       have := (List.getElem?_eq_some_iff.1 hx).1
       simp at this; omega
      subst h0
      simp at hx
      subst hx
      exact ⟨u, by rw [← hlu]; simp, hru⟩)
   refine ⟨_, φ, ?_, hR.of hW.1 hW.2⟩
   simp [execOp, e1, e2, e3, Instr.mapUpdate, run_underlying ht.h, Go.MapKept.run_getObj_map g2, Go.MapKept.run_checkKey hkt.h (hk.key key), Go.MapKept.run_findKey hkt.h q2, Go.MapKept.run_setObj_map _ g2, Result.andThen]
  ·have hms : mset m key ([] : List α) = m.set (posM m key) (key, []) := by
    rcases I0 key m with ⟨h1, _⟩ | ⟨row, _, _, h3⟩
    ·rw [q1] at h1; cases h1
    ·exact h3 _
   have hj : es[posM m key]? = some e := by simpa using q3
   have hlt := (List.getElem?_eq_some_iff.1 q0).1
   have hW := Rs.writeB (q1 := I2 fk ((mset m key []).map (·.1))) (cs1 := aa2 r m key s n) (us1 := us.set (posM m key) u) (o1 := .map (es.modify (posM m key) fun e => { e with key := fk key, val := u }) c) hR.toRs hmain hp g2
    ⟨_, _, rfl, by
     rw [hms, Array.toList_modify]
     apply List.ext_getElem?
     intro i
     have hg := congrArg (fun l => l[i]?) g3
     simp only [List.getElem?_map, List.getElem?_modify, List.getElem?_set] at hg ⊢
     by_cases hi : posM m key = i
     ·subst hi
      simp [q3, hlt]
     ·simpa [hi] using hg, by
     rw [Array.toList_modify]
     apply List.ext_getElem?
     intro i
     have hg := congrArg (fun l => l[i]?) g4
     simp only [List.getElem?_map, List.getElem?_modify, List.getElem?_set] at hg ⊢
     by_cases hi : posM m key = i
     ·subst hi
      simp [q3, hlu, hlt]
     ·simpa [hi] using hg⟩ (fun i x hx => by
     simp only [aa2, q1, Option.isSome_some, if_true] at hx
     rw [List.getElem?_set] at hx
     by_cases hi : posM m key = i
     ·subst hi
      simp [heads_len, hlt] at hx
      subst hx
      exact ⟨u, by simp [hlu, hlt], hru⟩
     ·rw [if_neg hi] at hx
      obtain ⟨u', h1, h2⟩ := g5 i x hx
      exact ⟨u', by rw [List.getElem?_set, if_neg hi]; exact h1, h2⟩)
   refine ⟨_, φ, ?_, hR.of hW.1 hW.2⟩
   simp [execOp, e1, e2, e3, Instr.mapUpdate, run_underlying ht.h, Go.MapKept.run_getObj_map g2, Go.MapKept.run_checkKey hkt.h (hk.key key), Go.MapKept.run_findKey hkt.h q2, hj, q4, Go.MapKept.run_keyThatStays (hk.key key), Go.MapKept.run_setObj_map _ g2, Result.andThen]
 ·rw [setF_at hσ hσ']
  by_cases hi : i = (r, [])
  ·subst hi
   rw [b8.get_put_eq hmain, if_pos rfl]; rfl
  ·rw [b8.get_put_ne hi]
   by_cases hr : i.1 = r
   ·obtain ⟨i1, q⟩ := i
    simp only at hr
    subst hr
    rw [if_pos rfl, l9 hσ]
    cases q with
    | nil => exact absurd rfl hi
    | cons a q => rfl
   ·rw [if_neg hr]
theorem n9.putMM {l : List α} {mx s n : Nat} {key : K} {σ : b8} (hr : Nat.blt r mx = true) (hσ : σ[r]? = some (mmapS r k fk f m key s n)) (hn : n = l.length) (hs : σ[((s, []) : Id)]? = some (some (vec k f l))) : n9 (r, [posM m key]) (s, []) σ mx r (Ab.mmap r k fk f (mset m key l)) := by
 subst hn
 have hlt : ∀ q, q ≠ posM m key → mv (r, [posM m key]) (s, []) (r, [q]) = (r, [q]) := fun q hq => by
  have : ((r, [q]) : Id) ≠ (r, [posM m key]) := fun e => by cases e; exact hq rfl
  simp [mv, w7 this]
 have hself : mv (r, [posM m key]) (s, []) (r, [posM m key]) = (s, []) := by simp [mv, B7.2 rfl]
 have hroot : mv (r, [posM m key]) (s, []) (r, []) = (r, []) := aa0
 show ∀ (p : List Nat) (b : Blk), (Ab.mmap r k fk f (mset m key l)).sub p = some b → _
 intro p b hb
 refine ⟨mm_ok hr p b hb, ?_⟩
 rcases mm_sub hb with ⟨rfl, rfl⟩ | ⟨i, p', rfl, hi, rfl⟩
 ·rw [hroot, l9 hσ]
  show some (some (Blk.obj (I2 fk ((mset m key []).map (·.1))) (aa2 r m key s l.length))) = _
  congr 2
  simp only [Blk.ren]
  have hkeys : (mset m key l).map (·.1) = (mset m key []).map (·.1) := by
   rcases I0 key m with ⟨_, _, h3⟩ | ⟨_, _, _, h3⟩
   ·rw [h3, h3]; simp
   ·rw [h3, h3]; simp [List.map_set]
  rw [hkeys]
  congr 1
  have renL_get : ∀ (L : List C) (i : Nat), (C.renL (mv (r, [posM m key]) (s, [])) L)[i]? = (L[i]?).map (C.ren (mv (r, [posM m key]) (s, []))) := fun L => by
   induction L with
   | nil => intro i; simp [C.renL]
   | cons x L ih => intro i; cases i with
    | zero => simp [C.renL]
    | succ i => simpa [C.renL] using ih i
  apply List.ext_getElem?
  intro i
  rw [renL_get]
  simp only [aa2, G0]
  rcases I0 key m with ⟨h1, h2, h3⟩ | ⟨row, h1, h2, h3⟩
  ·rw [h1, h3]
   simp only [Option.isSome_none, Bool.false_eq_true, if_false, List.mapIdx_append, List.length_map]
   rcases Nat.lt_or_ge i m.length with hl | hl
   ·rw [List.getElem?_append_left (by simpa using hl), List.getElem?_append_left (by simpa using hl), List.getElem?_mapIdx]
    cases hm : m[i]? with
    | none => rfl
    | some p => simp [C.ren, hlt i (by omega)]
   ·rw [List.getElem?_append_right (by simpa using hl), List.getElem?_append_right (by simpa using hl)]
    simp only [List.length_mapIdx]
    cases hd : i - m.length with
    | zero =>
     have : i = m.length := by omega
     simp [C.ren, h2, mv, B7.2 rfl]
    | succ j => simp
  ·have hl := (List.getElem?_eq_some_iff.1 h2).1
   rw [h1, h3]
   simp only [Option.isSome_some, if_true]
   by_cases hi : posM m key = i
   ·subst hi
    simp [List.getElem?_mapIdx, List.getElem?_set, hl, C.ren, hself]
   ·rw [List.getElem?_set, if_neg hi, List.getElem?_mapIdx, List.getElem?_mapIdx, List.getElem?_set, if_neg hi]
    cases hm : m[i]? with
    | none => rfl
    | some p => simp [C.ren, hlt i (fun e => hi e.symm)]
 ·rw [x9]
  rcases I0 key m with ⟨h1, h2, h3⟩ | ⟨row, h1, h2, h3⟩
  ·rw [h3, List.getElem?_append] at hi
   split at hi
   ·rename_i hl
    rw [hlt i (by omega), l9 hσ]
    simp only [mmapS, Ent.sub, List.getElem?_set, List.getElem?_map]
    rw [if_neg (by omega), hi]; rfl
   ·rename_i hl
    have : i = m.length := by
     have := (List.getElem?_eq_some_iff.1 hi).1
     simp at this; omega
    subst this
    simp at hi
    subst hi
    rw [← h2, hself, hs]
  ·have hl := (List.getElem?_eq_some_iff.1 h2).1
   rw [h3, List.getElem?_set] at hi
   by_cases e : posM m key = i
   ·subst e
    rw [if_pos rfl, if_pos hl] at hi
    cases hi
    rw [hself, hs]
   ·rw [if_neg e] at hi
    rw [hlt i (fun x => e x.symm), l9 hσ]
    simp only [mmapS, Ent.sub, List.getElem?_set, List.getElem?_map]
    rw [if_neg e, hi]; rfl
theorem S.lenMM {x : Operand} {t e : TypeId} {key : K} [ht : TyD P t (.slice e)] (hx : ev env x = some (.c (rowC r m key))) (hσ : σv[r]? = some (mmap r k fk f m)) (hd : f4 sz dst = true)
  (h : (rowM m key).length ≤ 9223372036854775807 → AOps P σ0 sz ops Q rest (St.mk (putE env dst (.c (int ((rowM m key).length : Int)))) σv)) : AOps P σ0 sz ops Q (⟨dst, .call ⟨.builtin .len, #[x], #[t]⟩, ty, pos, after, none⟩ :: rest) (St.mk env σv) := by
 unfold rowC at hx
 unfold rowM at h
 rcases I0 key m with ⟨q1, _⟩ | ⟨row, q1, _⟩
 ·rw [q1] at hx
  rw [q1] at h
  exact AOps.lenNil hx hd (h (by simp))
 ·rw [q1] at hx
  rw [q1] at h
  exact AOps.lenOwnB hx (mm_rowAt hσ q1) hd h
theorem Y8 {n : Nat} {key : K} (h : Nat.blt r n = true) : (T.c (rowC r m key)).ok n = true := by
 simp only [T.ok]
 unfold rowC
 split
 ·simpa [C.ok] using h
 ·rfl
theorem rowC_mv {π : Id → Id} {o : Option T} {key : K} (hπ : ∀ i, π (r, [i]) = (r, [i])) (e : o = some (.c (rowC r m key))) : o = some ((T.c (rowC r m key)).ren π) := by
 rw [e]
 unfold rowC
 split
 ·simp only [T.ren, C.ren, hπ]
 ·rfl
theorem S.idxMM {x y : Operand} {t e : TypeId} {bytes : Nat} {z : Value} {kk : IntKind} {i : Int} {a : α} {key : K} [ht : TyD P t (.slice e)] [hs : TyS P e k bytes z]
  (ha : ix (rowM m key) i = some a) (hx : ev env x = some (.c (rowC r m key))) (hσ : σv[r]? = some (mmap r k fk f m)) (hy : ev env y = some (.c (.imm (.val (.int kk i))))) (hd : f4 sz dst = true)
  (h : AOps P σ0 sz ops Q rest (St.mk (putE env dst (.c (.ptr (r, [posM m key]) i.toNat 0))) σv)) : AOps P σ0 sz ops Q (⟨dst, .indexAddr t x y, ty, pos, after, none⟩ :: rest) (St.mk env σv) := by
 have hrow := mm_get hσ ha
 unfold rowC at hx
 unfold rowM at ha hrow
 cases he : mget m key with
 | none => rw [he] at ha; simp [ix] at ha
 | some row =>
  rw [he] at hx ha hrow
  simp only [Option.getD_some] at ha hrow
  exact .indexAddrOwn hx hrow hy (by have := I7 ha; have := f8 ha; omega) hd (by rw [Nat.zero_add]; exact h)
end
end Ab
end
section
namespace Ab
open Go
section
variable {P : Program} {σ0 : b8} {sz : Nat} {Q : Post} {env : Env} {σv σ' : b8} {ops : Array Oper} {rest : List Oper} {dst : Option Nat} {ty : TypeId} {pos : String} {after : Array Edge}
theorem AOps.eqlNil {x y : Operand} {t t' e : TypeId} {k : Nat} {es : List (List I)} [ht : TyD P t (.slice e)] (hx : ev env x = some (.c (.imm (.sl k es)))) (hy : ev env y = some (.c (.imm (.val (.slice none 0 0))))) (hd : f4 sz dst = true)
  (h1 : es = [] → AOps P σ0 sz ops Q rest (St.mk (putE env dst (.c (bool true))) σv)) (h2 : AOps P σ0 sz ops Q rest (St.mk (putE env dst (.c (bool false))) σv)) :
  AOps P σ0 sz ops Q (⟨dst, .binOp .eql t x y t', ty, pos, after, none⟩ :: rest) (St.mk env σv) := fun Γ φ a w hΓ hR ro => by
  have hrel := g8 hR hx
  have hyv := D1 hR hy
  generalize hu : a.eval x = u at hrel
  cases hrel with | c hrel => cases hrel with | imm hrel =>
  cases hrel with
  | slNil =>
   have hg : (eqGuard .eql t x y (.slice none 0 0) (.slice none 0 0)).run P w = .ok () w := rfl
   have hr : (binOp .eql t (.slice none 0 0) (.slice none 0 0)).run P w = .ok (.bool true) w := by
    show (do pure (Value.bool (← Op.equal t (.slice none 0 0) (.slice none 0 0)))).run P w = _
    simp [run_equal_slice_nil w t e none 0 0 ht.h]
   have hrun : (execOp a.eval ⟨dst, .binOp .eql t x y t', ty, pos, after, none⟩).run P w = .ok (.value (.bool true)) w := by
    simp [execOp, hu, hyv, hg, hr]
   exact N8 rfl (val_in hrun (h1 rfl Γ φ _ w hΓ (hR.put hd (.c (.imm (.val rfl)))) ro))
  | @sl _ _ ad cap us _ _ _ _ _ =>
   have hg : (eqGuard .eql t x y (.slice (some ad) es.length cap) (.slice none 0 0)).run P w = .ok () w := rfl
   have hr : (binOp .eql t (.slice (some ad) es.length cap) (.slice none 0 0)).run P w = .ok (.bool false) w := by
    show (do pure (Value.bool (← Op.equal t (.slice (some ad) es.length cap) (.slice none 0 0)))).run P w = _
    simp [run_equal_slice_nil w t e (some ad) es.length cap ht.h]
   have hrun : (execOp a.eval ⟨dst, .binOp .eql t x y t', ty, pos, after, none⟩).run P w = .ok (.value (.bool false)) w := by
    simp [execOp, hu, hyv, hg, hr]
   exact N8 rfl (val_in hrun (h2 Γ φ _ w hΓ (hR.put hd (.c (.imm (.val rfl)))) ro))
end
end Ab
end
section
namespace Ab
open Go Go.Proofs
open Try
def k6 (s : List Int) : Option (List Int) := app 8 [] s
theorem h9 {s r : List Int} (h : k6 s = some r) : n5 prog 70 [.c (row 1 intI s)] 1 (List.map intI r) := by
 unfold k6 at h
 unfold n5
 refine FnOk.enter (rs := [.t 2]) func70 rfl ntmps70 results70 rfl ⟨trivial, trivial⟩ (by kernel_rfl) rfl ?_
 refine AWP.q ?_
 refine AWP.u ?_
 refine AOps.v rfl rfl ?_
 refine AOps.nil ?_
 refine b6 ?_
 refine AWP.q ?_
 refine AWP.q ?_
 refine AWP.u ?_
 refine AOps.j rfl rfl ?_
 refine AOps.eqlNil rfl rfl rfl (fun he => ?_) ?_
 ·have hs : s = [] := by simpa using he
  subst hs
  have hr : r = [] := by
   have := app_get h
   simpa using this.2
  subst hr
  refine AOps.nil ?_
  refine b6 ?_
  refine AWP.condT rfl ?_
  refine AWP.q ?_
  refine AWP.u ?_
  refine AOps.v rfl rfl ?_
  refine AOps.nil ?_
  refine b6 ?_
  refine AWP.virtV 1 intI 2 rfl rfl rfl ?_
  refine AWP.ret ?_
  refine e6 ?_
  exact Done.ret rfl (Fresh.mk rfl rfl)
 ·refine AOps.nil ?_
  refine b6 ?_
  refine AWP.condF rfl ?_
  refine AWP.skip ?_
  refine b6 ?_
  refine AWP.q ?_
  refine AWP.u ?_
  refine S.lit (f := intI) (l := []) (ess := []) rfl rfl rfl rfl rfl rfl rfl trivial rfl rfl rfl ?_
  refine AOps.j rfl rfl ?_
  refine S.append (f := intI) h rfl rfl rfl rfl rfl rfl .row rfl rfl rfl rfl ?_
  refine AOps.v rfl rfl ?_
  refine AOps.nil ?_
  refine b6 ?_
  refine AWP.ret ?_
  exact Done.ret rfl (Fresh.mk rfl rfl)
end Ab
end
section
namespace Ab
open Go Go.Sort
abbrev U32 : Type := { x : Int // 0 ≤ x ∧ x < 4294967296 }
noncomputable def sortFU (cmp : Int → Int → Option Int) (l : List Int) : Option (List Int) := open Classical in
 if h : ∀ x ∈ l, 0 ≤ x ∧ x < 4294967296 then (aa6 (α := U32) (fun a b => cmp a.1 b.1) (l.attach.map fun x => ⟨x.1, h x.1 x.2⟩)).map fun m => m.map (·.1) else none
theorem sortFU_get {cmp : Int → Int → Option Int} {l l' : List Int} (h : sortFU cmp l = some l') : ∃ (k m : List U32), l = k.map (·.1) ∧ l' = m.map (·.1) ∧ aa6 (fun a b => cmp a.1 b.1) k = some m := by
 unfold sortFU at h
 split at h
 ·rename_i hr
  obtain ⟨m, h1, rfl⟩ := Option.map_eq_some_iff.1 h
  exact ⟨_, m, by simp, rfl, h1⟩
 ·cases h
theorem sortFU_len {cmp : Int → Int → Option Int} {l l' : List Int} (h : sortFU cmp l = some l') : l.length = l'.length := by
 obtain ⟨k, m, rfl, rfl, h3⟩ := sortFU_get h
 simpa using sortFL_len h3
section
variable {P : Program} {σ0 : b8} {sz : Nat} {Q : Post} {env : Env} {σv σ' : b8} {ops : Array Oper} {rest : List Oper} {dst : Option Nat} {ty : TypeId} {pos : String} {after : Array Edge}
theorem vec_u32 (m : List U32) : vec 1 (fun a : Int => [I.val (.int .u32 a)]) (m.map (·.1)) = vec 1 (fun a : U32 => [I.val (.int .u32 a.1)]) m := by
 simp [vec, Function.comp_def]
theorem S.sortFU {cmp : Int → Int → Option Int} {x : Operand} {al : List Operand} {ats : Array TypeId} {fs g : FuncId} {id : Id} {n : Nat} {l l' : List Int} (hs : sortFU cmp l = some l')
  (hcmp : ∀ {a b r}, cmp a b = some r → e8 P g [.c (.imm (.val (.int .u32 a))), .c (.imm (.val (.int .u32 b)))] (.c (int r))) (hf : SortFOk P fs) (hgn : ac2 P g) (hx : ev env x = some (.c (.fn fs []))) (ha : evs env al = some [.c (.own id 0 n), .c (.fn g [])]) (hn : n = l.length) (hσ : σv[id]? = some (some (vec 1 (fun a : Int => [I.val (.int .u32 a)]) l)))
  (hd : f4 sz dst = true) (hσ' : putF σv id (some (vec 1 (fun a : Int => [I.val (.int .u32 a)]) l')) = some σ') (h : AOps P σ0 sz ops Q rest (St.mk (putE env dst (.tup [])) σ')) :
  AOps P σ0 sz ops Q (⟨dst, .call ⟨.value x, al.toArray, ats⟩, ty, pos, after, none⟩ :: rest) (St.mk env σv) := by
 obtain ⟨k, m, rfl, rfl, h3⟩ := sortFU_get hs
 rw [vec_u32] at hσ hσ'
 exact S.sortF (α := U32) (fun a => .val (.int .u32 a.1)) h3 rfl (fun {a b r} h => hcmp h) hf hgn hx ha (by rw [hn]; simp) hσ hd hσ' h
end
end Ab
end
section
set_option linter.all false
namespace Ab
open Go Go.Proofs Go.RowKit Go.Lib
open Try
def spl (arr : Array Value) (o : Nat) (cs : List Value) : Array Value := (arr.toList.take o ++ cs ++ arr.toList.drop (o + cs.length)).toArray
theorem spl_size {arr : Array Value} {o : Nat} {cs : List Value} (h : o + cs.length ≤ arr.size) : (spl arr o cs).size = arr.size := by simp [spl]; omega
theorem spl_get {arr : Array Value} {o : Nat} {cs : List Value} (h : o + cs.length ≤ arr.size) (i : Nat) : (spl arr o cs)[i]? = if o ≤ i ∧ i < o + cs.length then cs[i - o]? else arr[i]? := by
 have := I4 arr.toList cs o i (by simpa using h)
 simpa [spl] using this
theorem cell_at {w : World} {b : Nat} {arr : Array Value} {ety : TypeId} (hb : w.heap[b]? = some (.cells arr ety (0, 0))) {o : Nat} (ho : o < arr.size) : (w.cell? ⟨b, o, none⟩).isSome = true ∧ w.frozen? ⟨b, o, none⟩ = false := by
 constructor
 ·rw [G6 hb]; simp [ho]
 ·simp [World.frozen?, hb]
theorem setCells_row {P : Program} {w : World} {b o : Nat} {arr : Array Value} {ety : TypeId} {cs : List Value} (hb : w.heap[b]? = some (.cells arr ety (0, 0))) (hf : o + cs.length ≤ arr.size) (h1 : ∀ v ∈ cs, v.oneCell' = true) : w.setCells b o cs = w.setRow b (spl arr o cs) := by
 have e1 := run_storeCells_at P b o ety cs 0 arr w hb (by simpa using hf) h1
 have e2 := run_storeCells_cells (P := P) b o cs 0 w (fun j hj => (cell_at hb (by omega)).1) (fun j hj => (cell_at hb (by omega)).2) h1
 rw [e2] at e1
 simp only [Nat.add_zero] at e1
 exact (Result.ok.inj e1).2
section
set_option maxHeartbeats 4000000
set_option maxRecDepth 100000
abbrev delF : Nat := 50
abbrev opT : Nat := 64
abbrev opsT : Nat := 23
abbrev zOp : List Value := [.slice none 0 0, .slice none 0 0, .slice none 0 0, .int .i64 0]
theorem del_in (b off n c i : Nat) (arr : Array Value) (ety : TypeId) (cs : List Value) (w : World) (hi : i < n) (hnc : n ≤ c) (hc63 : c ≤ 9223372036854775807)
  (hb : w.heap[b]? = some (.cells arr ety (0, 0))) (hfit : off + n * 4 ≤ arr.size) (hcl : cs.length = (n - (i + 1)) * 4) (hcs : ∀ j v, cs[j]? = some v → w.cell? (⟨b, off + (i + 1) * 4 + j, none⟩) = some v) (h1c : ∀ v ∈ cs, v.oneCell' = true) :
  Calls prog delF #[.slice (some ⟨b, off, none⟩) n c, .int .i64 i, .int .i64 ((i : Int) + 1)] w fun e w' =>
   e = .returned (.slice (some ⟨b, off, none⟩) (n - 1) c) ∧ w' = w.drew.setRow b (spl (spl arr (off + i * 4) cs) (off + (n - 1) * 4) zOp) := by
 have mixed : prog.follows .mixedOrders = true := by kernel_rfl
 have u26 := run_underlying underlying23
 obtain ⟨inf, hi1, hi2, hi3, hi4⟩ := (inferInstance : TyS prog opT 4 80 _).h
 have hdrew : w.drew.heap[b]? = some (.cells arr ety (0, 0)) := hb
 obtain ⟨W1, hW1⟩ : ∃ W1, W1 = w.drew.setCells b (off + i * 4) cs := ⟨_, rfl⟩
 have hW1' : W1 = w.drew.setRow b (spl arr (off + i * 4) cs) := by rw [hW1, setCells_row (P := prog) hdrew (by omega) h1c]
 have hn1 : i + (n - (i + 1)) = n - 1 := by omega
 have hcl2 : ∀ ty cc, (Builtin.clear_ #[23] ty #[.slice (some ⟨b, off + (n - 1) * 4, none⟩) (n - (n - 1)) cc]).run prog W1 = .ok (.tuple #[]) (w.drew.setRow b (spl (spl arr (off + i * 4) cs) (off + (n - 1) * 4) zOp)) := fun ty cc => by
  have hz := H0 (P := prog) (t := opT) W1
  have hst := run_storeCells_at prog b (off + (n - 1) * 4) ety zOp 0 (spl arr (off + i * 4) cs) W1 (by rw [hW1']; exact setRow_heap w.drew b arr _ ety (0, 0) hdrew) (by rw [spl_size (by omega)]; simp; omega) (by intro v hv; simp at hv; rcases hv with rfl | rfl <;> rfl)
  rw [show n - (n - 1) = 1 by omega]
  have hzc : (Builtin.zeroCells (Value.agg #[.slice none 0 0, .slice none 0 0, .slice none 0 0, .int .i64 0]).cells 1).toList = zOp := by simp [Builtin.zeroCells, Value.cells, show List.range 4 = [0, 1, 2, 3] from rfl]
  have hrow : W1.setRow b ((spl arr (off + i * 4) cs).toList.take (off + (n - 1) * 4 + 0) ++ zOp ++ (spl arr (off + i * 4) cs).toList.drop (off + (n - 1) * 4 + 0 + zOp.length)).toArray = w.drew.setRow b (spl (spl arr (off + i * 4) cs) (off + (n - 1) * 4) zOp) := by
   rw [hW1', setRow_setRow]; rfl
  rw [hrow] at hst
  simp [Builtin.clear_, run_underlying underlying23, hz, hzc, hst]
 subst hW1
 simp only [hW1'] at hcl2
 have s3 : ∀ j, j < cs.length → (w.drew.cell? ⟨b, off + i * 4 + j, none⟩).isSome = true ∧ w.drew.frozen? ⟨b, off + i * 4 + j, none⟩ = false := fun j hj => cell_at hdrew (by omega)
 have hne : ¬ ((i : Int) = (i : Int) + 1) := by omega
 have hb1 : (0 : Int) ≤ (i : Int) + 1 := by omega
 have hb2 : (i : Int) + 1 ≤ (n : Int) := by omega
 have hb3 : (n : Int) ≤ (c : Int) := by omega
 have htn : ((i : Int) + 1).toNat = i + 1 := by omega
 have hnn : (n : Int) - 1 = ((n - 1 : Nat) : Int) := by omega
 have hic : i ≤ c := by omega
 have hjc : i + 1 ≤ c := by omega
 obtain ⟨A, hA, hsrc⟩ : ∃ A : Addr, (if c = i + 1 then some (⟨b, off, none⟩ : Addr) else some ⟨b, off + (i + 1) * 4, none⟩) = some A ∧ ∀ j u, cs[j]? = some u → w.drew.cell? (A.add j) = some u := by
  by_cases h : c = i + 1
  ·refine ⟨⟨b, off, none⟩, by simp [h], fun t u hu => ?_⟩
   have h0 : cs.length = 0 := by rw [hcl]; omega
   rw [List.length_eq_zero_iff.1 h0] at hu
   simp at hu
  ·exact ⟨⟨b, off + (i + 1) * 4, none⟩, by simp [h], fun t u hu => by rw [Addr.add_lit]; exact hcs t u hu⟩
 go_enter func50, ntmps50
 go_wp2_with fail
 go_region_law_o (refine step_append_room rfl (.tmp 22) (.tmp 25) opsT rfl opT inf 4 underlying23 hi1 hi2 b off i c (by simp [Act.eval, Act.put]) A (n - (i + 1)) (c - (i + 1)) cs (by simp [Act.eval, Act.put, hA]) hcl hsrc h1c (by omega) s3 ?_)
 go_wp2_with (simp only [hcl2])
 go_ret
 exact ⟨rfl, rfl⟩
end
structure Rw (w : World) (φ : Phi) (σ : b8) (A : Nat → Prop) (k : Nat) (es : List (List C)) (us : List Value) : Prop where
 len : us.length = es.length * k
 hk : ∀ (j : Nat) (e : List C), es[j]? = some e → e.length = k
 rel : ∀ (j : Nat) (e : List C) (o : Nat) (x : C), es[j]? = some e → e[o]? = some x → ∃ u, us[j * k + o]? = some u ∧ RelC w φ σ A x u
theorem Shows.rw {w : World} {φ : Phi} {σ : b8} {A : Nat → Prop} {k : Nat} {es : List (List C)} {b : Option Addr} {us : List Value} (h : Shows w φ σ A k es b us) : Rw w φ σ A k es us := ⟨h.len, h.hk, h.rel⟩
section
variable {w : World} {φ : Phi} {σ : b8} {A : Nat → Prop} {k : Nat} {es es2 : List (List C)} {us us2 : List Value}
theorem Rw.append (h : Rw w φ σ A k es us) (g : Rw w φ σ A k es2 us2) : Rw w φ σ A k (es ++ es2) (us ++ us2) := by
 refine ⟨by rw [List.length_append, List.length_append, h.len, g.len, Nat.add_mul], fun j e he => ?_, fun j e o x he hx => ?_⟩
 ·rw [List.getElem?_append] at he
  split at he
  ·exact h.hk j e he
  ·exact g.hk _ e he
 ·rw [List.getElem?_append] at he
  split at he
  ·obtain ⟨u, hu, hr⟩ := h.rel j e o x he hx
   exact ⟨u, by rw [List.getElem?_append_left (List.getElem?_eq_some_iff.1 hu).1]; exact hu, hr⟩
  ·rename_i hj
   obtain ⟨u, hu, hr⟩ := g.rel _ e o x he hx
   have hl := h.len
   have hm : es.length * k ≤ j * k := Nat.mul_le_mul_right k (by omega)
   refine ⟨u, ?_, hr⟩
   rw [List.getElem?_append_right (by omega), hl]
   rw [Nat.sub_mul] at hu
   rw [← hu]; congr 1; omega
theorem Rw.take (h : Rw w φ σ A k es us) (i : Nat) (hi : i ≤ es.length) : Rw w φ σ A k (es.take i) (us.take (i * k)) := by
 have hl := h.len
 have hm : i * k ≤ es.length * k := Nat.mul_le_mul_right k hi
 refine ⟨by rw [List.length_take, List.length_take, Nat.min_eq_left hi, Nat.min_eq_left (by omega)], fun j e he => ?_, fun j e o x he hx => ?_⟩
 ·rw [List.getElem?_take] at he
  split at he
  ·exact h.hk j e he
  ·cases he
 ·rw [List.getElem?_take] at he
  split at he
  ·rename_i hj
   obtain ⟨u, hu, hr⟩ := h.rel j e o x he hx
   have := h.hk j e he
   have := (List.getElem?_eq_some_iff.1 hx).1
   have hm2 : (j + 1) * k ≤ i * k := Nat.mul_le_mul_right k hj
   rw [Nat.add_mul] at hm2
   exact ⟨u, by rw [List.getElem?_take, if_pos (by omega)]; exact hu, hr⟩
  ·cases he
theorem Rw.drop (h : Rw w φ σ A k es us) (i : Nat) (hi : i ≤ es.length) : Rw w φ σ A k (es.drop i) (us.drop (i * k)) := by
 have hl := h.len
 refine ⟨by rw [List.length_drop, List.length_drop, hl, Nat.sub_mul], fun j e he => ?_, fun j e o x he hx => ?_⟩
 ·rw [List.getElem?_drop] at he
  exact h.hk _ e he
 ·rw [List.getElem?_drop] at he
  obtain ⟨u, hu, hr⟩ := h.rel _ e o x he hx
  refine ⟨u, ?_, hr⟩
  rw [List.getElem?_drop, ← hu, Nat.add_mul, Nat.add_assoc]
end
theorem del_lists {α : Type} {f : α → List I} {l : List α} {i : Nat} : (((l.map f).map (·.map C.imm)).take i ++ ((l.map f).map (·.map C.imm)).drop (i + 1)) = ((l.take i ++ l.drop (i + 1)).map f).map (·.map C.imm) := by
 simp [List.map_take, List.map_drop]
set_option maxRecDepth 100000 in
theorem del_fn {α : Type} {f : α → List I} {σ : b8} {id : Id} {l : List α} {i : Int} (hσ : σ[id]? = some (some (vec 4 f l))) (h0 : 0 ≤ i) (h1 : i < l.length) :
  FnOk prog delF [.c (.own id 0 l.length), .c (int i), .c (int (i + 1))] σ fun r σ' => r = .c (.own (σ.length, []) 0 (l.take i.toNat ++ l.drop (i.toNat + 1)).length) ∧ σ' = σ.put id none ++ [.one (vec 4 f (l.take i.toNat ++ l.drop (i.toNat + 1)))] := by
 refine ⟨⟨_, func50, rfl, rfl⟩, fun Γ vs hΓ hG hlen hrel => ?_⟩
 subst hΓ
 match vs, hlen with
 | [u, iv, v], _ =>
 have hu := K0 (hrel 0 _ u rfl rfl) hσ
 have hiv : iv = .int .i64 i := by
  have h := hrel 1 _ iv rfl rfl
  cases h with | c h => cases h with | imm h => cases h with | val => rfl
 have hvv : v = .int .i64 (i + 1) := by
  have h := hrel 2 _ v rfl rfl
  cases h with | c h => cases h with | imm h => cases h with | val => rfl
 subst hiv hvv
 obtain ⟨ni, rfl⟩ : ∃ ni : Nat, i = ni := ⟨i.toNat, by omega⟩
 have hR : R Γ 3 ⟨[(0, .c (.own id 0 l.length)), (1, .c (int ni)), (2, .c (int ((ni : Int) + 1)))], Γ.σ0⟩ Γ.φ0 ⟨#[u, .int .i64 ni, .int .i64 ((ni : Int) + 1)], []⟩ Γ.w0 :=
  {toRs := Rs.refl hG, defers := .nil, asize := rfl, env := fun t x hx => by
    simp only [lookup] at hx
    split at hx
    ·rename_i e; cases hx
     have := Nat.eq_of_beq_eq_true e; subst this
     exact ⟨u, rfl, hrel 0 _ u rfl rfl⟩
    ·split at hx
     ·rename_i e; cases hx
      have := Nat.eq_of_beq_eq_true e; subst this
      exact ⟨_, rfl, hrel 1 _ _ rfl rfl⟩
     ·split at hx
      ·rename_i e; cases hx
       have := Nat.eq_of_beq_eq_true e; subst this
       exact ⟨_, rfl, hrel 2 _ _ rfl rfl⟩
      ·cases hx }
 have vlen : ∀ {m : List α}, ((m.map f).map (·.map C.imm)).length = m.length := by simp
 have nlen : (l.take ni ++ l.drop (ni + 1)).length = l.length - 1 := by simp; omega
 simp only [Int.toNat_natCast] at *
 rw [nlen]
 have hi : ni < l.length := by omega
 obtain ⟨b0, cap0, us0, hx1, hx2, hx3⟩ := ah1 hR hσ hu
 rcases hu with ⟨_, _, _, h4⟩ | ⟨b, base, cap, arr, ety, ad, hp, hvv, had, hcap, hmax, hjn, hbk, hsz⟩
 ·omega
 rw [hx1] at hvv; cases hvv
 have := had (by omega); subst this
 simp only [Nat.zero_mul, Nat.add_zero, Nat.zero_add, vlen, List.drop_zero] at *
 have r1 : Rw Γ.w0 Γ.φ0 Γ.σ0 (Al Γ.N Γ.φ0 Γ.σ0) 4 ((l.map f).map (·.map C.imm)) us0 := by
  have := hx3.rw
  rwa [List.take_of_length_le (by simp)] at this
 have r3 := (r1.take ni (by simp; omega)).append (r1.drop (ni + 1) (by simp; omega))
 rw [del_lists] at r3
 have u0l : us0.length = l.length * 4 := by rw [r1.len]; simp
 have cellA : ∀ j v, us0[j]? = some v → Γ.w0.cell? ⟨b, base + j, none⟩ = some v := fun j v hj => by
  have := hx3.cell _ rfl j v hj
  rwa [Addr.add_lit] at this
 have one1 : ∀ v ∈ us0, v.oneCell' = true := hx3.one
 have hdl : (us0.drop ((ni + 1) * 4)).length = (l.length - (ni + 1)) * 4 := by rw [List.length_drop, u0l, Nat.sub_mul]
 have htl : (us0.take (ni * 4)).length = ni * 4 := by rw [List.length_take]; omega
 have cellD : ∀ j v, (us0.drop ((ni + 1) * 4))[j]? = some v → Γ.w0.cell? ⟨b, base + (ni + 1) * 4 + j, none⟩ = some v := fun j v hj => by
  rw [List.getElem?_drop] at hj
  rw [Nat.add_assoc]; exact cellA _ v hj
 rw [hx1]
 have hc := del_in b base l.length cap0 ni arr ety (us0.drop ((ni + 1) * 4)) Γ.w0 hi hcap (by unfold maxLen at hmax; omega) hbk (by omega) hdl cellD (fun v hv => one1 v (List.mem_of_mem_drop hv))
 refine hc.mono ?_
 rintro e w2 ⟨rfl, rfl⟩
 have hK0 := Kept.drew Γ.w0 Γ.φ0 Γ.σ0 (Al Γ.N Γ.φ0 Γ.σ0)
 have s1 : (spl arr (base + ni * 4) (us0.drop ((ni + 1) * 4))).size = arr.size := spl_size (by omega)
 have zl : zOp.length = 4 := rfl
 have s2 : (spl (spl arr (base + ni * 4) (us0.drop ((ni + 1) * 4))) (base + (l.length - 1) * 4) zOp).size = arr.size := by rw [spl_size (by omega), s1]
 have hO := Rs.reown (k := 4) (base' := base) (es' := ((l.take ni ++ l.drop (ni + 1)).map f).map (·.map C.imm)) (arr' := spl (spl arr (base + ni * 4) (us0.drop ((ni + 1) * 4))) (base + (l.length - 1) * 4) zOp) hR.toRs.drew hσ hp hbk (r3.hk) (by rw [s2]; simp only [List.length_map, nlen]; omega) (fun j e o y he hy => by
  obtain ⟨uu, hu, hr⟩ := r3.rel j e o y he hy
  refine ⟨uu, ?_, hr.mono hK0⟩
  have hlt := (List.getElem?_eq_some_iff.1 hu).1
  simp only [List.length_append, htl, hdl] at hlt
  rw [spl_get (by omega), if_neg (by omega), spl_get (by omega)]
  by_cases c1 : j * 4 + o < ni * 4
  ·rw [if_neg (by omega)]
   rw [List.getElem?_append_left (by omega), List.getElem?_take, if_pos c1] at hu
   have := cellA _ _ hu
   rw [G6 hbk] at this
   simpa using this
  ·rw [if_pos (by omega)]
   rw [List.getElem?_append_right (by omega), htl] at hu
   rw [← hu]; congr 1; omega)
 refine ⟨_, _, _, _, rfl, ⟨rfl, rfl⟩, ?_, hO.2⟩
 refine Q9 (k := 4) (es := ((l.take ni ++ l.drop (ni + 1)).map f).map (·.map C.imm)) (by rw [← b8.length_put Γ.σ0 id none]; exact b8.get_last _ _) rfl (.inr ⟨b, base, cap0, _, ety, ⟨b, base, none⟩, by simp, rfl, fun _ => by simp, by omega, hmax, by simp only [List.length_map, nlen]; omega, setRow_heap Γ.w0.drew b arr _ ety (0, 0) hbk, by rw [s2]; omega⟩)
end Ab
end
section
namespace Ab
open Go Go.Proofs
open Try
def delL {α : Type} (l : List α) (i j : Int) : Option (List α) := if 0 ≤ i ∧ i < l.length ∧ j = i + 1 then some (l.take i.toNat ++ l.drop (i.toNat + 1)) else none
section
variable {σ0 : b8} {sz : Nat} {Q : Post} {env : Env} {σv σ' : b8} {ops : Array Oper} {rest : List Oper} {dst : Option Nat} {ty : TypeId} {pos : String} {after : Array Edge}
theorem S.delete {α : Type} {f : α → List I} {x : Operand} {al : List Operand} {ats : Array TypeId} {id n' : Id} {n : Nat} {i j : Int} {l l' : List α} {σ1 : b8} (hl : delL l i j = some l') (hx : ev env x = some (.c (.fn delF [])))
  (ha : evs env al = some [.c (.own id 0 n), .c (int i), .c (int j)]) (hn : n = l.length) (hσ : σv[id]? = some (some (vec 4 f l)))
  (hd : f4 sz dst = true) (hid : newF σv = some n') (h1 : putF σv id none = some σ1) (hσ' : n7 σ1 (.one (vec 4 f l')) = some σ') (h : AOps prog σ0 sz ops Q rest (St.mk (putE env dst (.c (.own n' 0 l'.length))) σ')) :
  AOps prog σ0 sz ops Q (⟨dst, .call ⟨.value x, al.toArray, ats⟩, ty, pos, after, none⟩ :: rest) (St.mk env σv) := by
 have h2 := u8 h1
 have h3 := v8 hid; have h4 := m7 hσ'
 subst hn h2 h3 h4
 unfold delL at hl
 split at hl
 ·rename_i c
  cases hl
  obtain ⟨c1, c2, rfl⟩ := c
  refine AOps.callS hx ha hd (del_fn hσ c1 c2) ?_
  rintro r σ2 ⟨rfl, rfl⟩
  cases dst <;> exact h
 ·cases hl
end
end Ab
end
section
namespace Ab
open Go
section
variable {α β : Type} {pre post : α → List I} {g : α → List β} {kb k r : Nat} {fb : β → List I} {M : List α}
def oc (pre post : α → List I) (c : C) (a : α) : List C := (pre a).map .imm ++ c :: (post a).map .imm
def ohdr (pre post : α → List I) (g : α → List β) (r : Nat) (M : List α) : List (List C) := M.mapIdx fun i a => oc pre post (.own (r, [i]) 0 (g a).length) a
def omat (r k : Nat) (pre post : α → List I) (g : α → List β) (kb : Nat) (fb : β → List I) (M : List α) : Ent := .node (some (.cells k (ohdr pre post g r M))) (M.map fun a => .one (vec kb fb (g a)))
def odat (pre post : α → List I) (g : α → List β) (kb : Nat) (fb : β → List I) (a : α) : List I := pre a ++ .sl kb ((g a).map fb) :: post a
theorem ac3 {a : α} : oc pre post (.imm (.sl kb ((g a).map fb))) a = (odat pre post g kb fb a).map .imm := by simp [oc, odat]
theorem oc_ren {π : Id → Id} {c : C} {a : α} : C.renL π (oc pre post c a) = oc pre post (c.ren π) a := by
 have h : ∀ l : List I, C.renL π (l.map .imm) = l.map .imm := fun l => by
  induction l with
  | nil => rfl
  | cons x l ih => simp [C.renL, C.ren, ih]
 have h2 : ∀ (l : List I) (m : List C), C.renL π (l.map .imm ++ m) = l.map .imm ++ C.renL π m := fun l m => by
  induction l with
  | nil => rfl
  | cons x l ih => simp [C.renL, C.ren, ih]
 simp only [oc, h2, C.renL, h]
theorem oc_all (p : C → Bool) (hp : ∀ x : I, p (.imm x) = true) {c : C} {a : α} : (oc pre post c a).all p = p c := by
 have h : ∀ l : List I, (l.map C.imm).all p = true := fun l => by simp [List.all_eq_true, hp]
 simp only [oc, List.all_append, List.all_cons, h, Bool.true_and, Bool.and_true]
theorem oc_ok {n : Nat} {c : C} {a : α} : C.okL n (oc pre post c a) = c.ok n := by
 rw [D2]; exact oc_all _ (fun _ => rfl)
theorem oc_no {id : Id} {c : C} {a : α} : C.noL id (oc pre post c a) = c.no id := by
 rw [noL_eq]; exact oc_all _ (fun _ => rfl)
theorem oc_frz {id : Id} {q : Nat} {es : List (List I)} {c : C} {a : α} : C.frzL id q es (oc pre post c a) = oc pre post (c.frz id q es) a := by
 have h : ∀ l : List I, C.frzL id q es (l.map .imm) = l.map .imm := fun l => by
  induction l with
  | nil => rfl
  | cons x l ih => simp [C.frzL, C.frz, ih]
 have h2 : ∀ (l : List I) (m : List C), C.frzL id q es (l.map .imm ++ m) = l.map .imm ++ C.frzL id q es m := fun l m => by
  induction l with
  | nil => rfl
  | cons x l ih => simp [C.frzL, C.frz, ih]
 simp only [oc, h2, C.frzL, h]
theorem ohdr_len : (ohdr pre post g r M).length = M.length := by simp [ohdr]
theorem ohdr_get {i : Nat} {e : List C} (h : (ohdr pre post g r M)[i]? = some e) : ∃ a, M[i]? = some a ∧ e = oc pre post (.own (r, [i]) 0 (g a).length) a := by
 simp only [ohdr, List.getElem?_mapIdx, Option.map_eq_some_iff] at h
 obtain ⟨a, h1, h2⟩ := h
 exact ⟨a, h1, h2.symm⟩
theorem om_sub {q : List Nat} {b : Blk} (h : (omat r k pre post g kb fb M).sub q = some b) : (q = [] ∧ b = .cells k (ohdr pre post g r M)) ∨ ∃ i a, q = [i] ∧ M[i]? = some a ∧ b = vec kb fb (g a) := by
 cases q with
 | nil => exact .inl ⟨rfl, by simpa [omat, Ent.sub] using h.symm⟩
 | cons i q =>
  simp only [omat, Ent.sub, List.getElem?_map] at h
  cases hi : M[i]? with
  | none => simp [hi] at h
  | some p =>
   rw [hi] at h
   cases q with
   | nil => simp only [Option.map_some, Ent.sub, Option.some.injEq] at h; exact .inr ⟨i, p, rfl, hi, h.symm⟩
   | cons => simp [Ent.sub] at h
theorem om_main : (omat r k pre post g kb fb M).sub [] = some (.cells k (ohdr pre post g r M)) := rfl
theorem om_row {i : Nat} {a : α} (h : M[i]? = some a) : (omat r k pre post g kb fb M).sub [i] = some (vec kb fb (g a)) := by simp [omat, Ent.sub, h]
theorem om_ok {n : Nat} (h : Nat.blt r n = true) : ∀ q b, (omat r k pre post g kb fb M).sub q = some b → b.ok n = true := fun q b hb => by
 rcases om_sub hb with ⟨_, rfl⟩ | ⟨i, p, _, _, rfl⟩
 ·simp only [Blk.ok, List.all_eq_true]
  intro e he
  obtain ⟨i, hi⟩ := List.getElem?_of_mem he
  obtain ⟨a, _, rfl⟩ := ohdr_get hi
  rw [oc_ok]; simpa [C.ok] using h
 ·exact B1
theorem om_no {id : Id} (h : id.1 ≠ r) : ∀ q b, (omat r k pre post g kb fb M).sub q = some b → b.no id = true := fun q b hb => by
 rcases om_sub hb with ⟨_, rfl⟩ | ⟨i, p, _, _, rfl⟩
 ·simp only [Blk.no, List.all_eq_true]
  intro e he
  obtain ⟨i, hi⟩ := List.getElem?_of_mem he
  obtain ⟨a, _, rfl⟩ := ohdr_get hi
  have : idb ((r, [i]) : Id) id = false := w7 (fun e => h (by rw [← e]))
  rw [oc_no]; simp [C.no, this]
 ·exact Blk.im_no _ _ _
theorem ohdr_ren {π : Id → Id} {r' : Nat} (h : ∀ q, π (r, q) = (r', q)) : (Blk.cells k (ohdr pre post g r M)).ren π = .cells k (ohdr pre post g r' M) := by
 simp only [Blk.ren]
 congr 1
 apply List.ext_getElem?
 intro j
 simp only [ohdr, List.getElem?_map, List.getElem?_mapIdx]
 cases M[j]? with
 | none => rfl
 | some a => simp [oc_ren, C.ren, h]
theorem n9.omat {id n : Id} {mx : Nat} {σ : b8} (h : Nat.beq id.1 r = false) (hr : Nat.blt r mx = true) (hσ : σ[r]? = some (Ab.omat r k pre post g kb fb M)) : n9 id n σ mx r (Ab.omat r k pre post g kb fb M) := by
 have hne : id.1 ≠ r := fun e => by simp [e] at h
 show ∀ (p : List Nat) (b : Blk), (Ab.omat r k pre post g kb fb M).sub p = some b → _
 intro p b hb
 have hm : mv id n (r, p) = (r, p) := by
  have : (r, p) ≠ id := fun e => hne (by rw [← e])
  simp [mv, w7 this]
 rw [hm, l9 hσ, hb]
 exact ⟨om_ok hr p b hb, by rw [Blk.ren_no _ (om_no hne p b hb)]⟩
theorem EntR.omat {r0 n mx i j : Nat} {σ : b8} (hj : (mvr r0 n (i, [])).1 = j) (hr : Nat.blt i mx = true) (hσ : σ[j]? = some (Ab.omat j k pre post g kb fb M)) : EntR r0 n σ mx i (Ab.omat i k pre post g kb fb M) := .any fun p b hb => by
 have e : ∀ q, mvr r0 n (i, q) = (j, q) := fun q => by rw [← hj]; rfl
 rw [e, l9 hσ]
 refine ⟨om_ok hr p b hb, ?_⟩
 rcases om_sub hb with ⟨rfl, rfl⟩ | ⟨q, p', rfl, hq, rfl⟩
 ·rw [om_main, ohdr_ren e]
 ·rw [om_row hq, x9]
theorem RenE.omat {r' : Nat} {π : Id → Id} (h : ∀ q, π (r, q) = (r', q)) : RenE π r (Ab.omat r k pre post g kb fb M) r' (Ab.omat r' k pre post g kb fb M) := .any (fun p b hb => by
  rcases om_sub hb with ⟨rfl, rfl⟩ | ⟨q, p', rfl, hq, rfl⟩
  ·rw [om_main, ohdr_ren h]
  ·rw [om_row hq, x9]) (fun p b hb => by
  rcases om_sub hb with ⟨rfl, rfl⟩ | ⟨q, p', rfl, hq, rfl⟩
  ·exact ⟨_, om_main, (ohdr_ren h).symm⟩
  ·exact ⟨_, om_row hq, x9.symm⟩)
theorem FrzB.omat {id : Id} {X : C → C → Prop} (h : Nat.beq id.1 r = false) : FrzB id X (Ab.omat r k pre post g kb fb M) (Ab.omat r k pre post g kb fb M) := by
 have hne : id.1 ≠ r := fun e => by simp [e] at h
 show _ = _ ∧ _
 exact ⟨rfl, fun p b h => om_no hne p b h⟩
end
section
variable {P : Program} {σ0 : b8} {sz : Nat} {Q : Post} {env env' : Env} {σv σ' : b8} {ops : Array Oper} {rest : List Oper} {dst : Option Nat} {ty : TypeId} {pos : String} {after : Array Edge}
variable {α β : Type} {pre post : α → List I} {g : α → List β} {kb k r : Nat} {fb : β → List I} {M : List α}
theorem Sub.virtBO {b : Id} {n kk o : Nat} {cs cs' : List C} {σ1 σ3 σ4 : b8} (k : Nat) (pre post : α → List I) (g : α → List β) (kb : Nat) (fb : β → List I) (hb : σv[b]? = some (some (.cells kk [cs]))) (hc : cs[o]? = some (.imm (.val (.slice none 0 0)))) (hn : newF σv = some (n, [])) (h1 : n7 σv (omat n k pre post g kb fb []) = some σ1)
  (hs : setF cs o (.own (n, []) 0 ([] : List α).length) = some cs') (hσ' : putF σ1 b (some (.cells kk [cs'])) = some σ') (h3 : n7 σv (.one (vec k (fun _ : α => ([] : List I)) ([] : List α))) = some σ3) (h4 : putF σ3 b (some (.cells kk [cs'])) = some σ4) : Sub σ0 ⟨env, σv⟩ ⟨env, σ'⟩ := by
 have g1 := v8 hn; have g2 := m7 h1; have g4 := u8 hσ'
 cases g1
 subst g2 g4
 have e3 := m7 h3; have e4 := u8 h4
 subst e3 e4
 have hbl := b8.lt_of hb
 have hb3 : (σv ++ [Ent.one (vec k (fun _ : α => ([] : List I)) ([] : List α))])[b]? = some (some (.cells kk [cs])) := by rw [b8.get_left hbl]; exact hb
 refine (Sub.virtB (α := α) k (fun _ => []) hb hc hn h3 hs h4).trans (Sub.same (by simp) fun i => ?_)
 have hbm : (σv ++ [omat σv.length k pre post g kb fb ([] : List α)])[b]? = some (some (.cells kk [cs])) := by rw [b8.get_left hbl]; exact hb
 by_cases hi : i = b
 ·subst hi
  rw [b8.get_put_eq hb3, b8.get_put_eq hbm]
 ·rw [b8.get_put_ne hi, b8.get_put_ne hi]
  rcases Nat.lt_or_ge i.1 σv.length with hl | hl
  ·rw [b8.get_left hl, b8.get_left hl]
  ·rw [b8.get_right hl, b8.get_right hl]
   obtain ⟨i1, q⟩ := i
   rw [b8.at_eq, b8.at_eq]
   simp only [b8.at]
   cases i1 - σv.length with
   | zero => cases q <;> rfl
   | succ m => rfl
theorem AWP.virtBO {c : Code} {b : Id} {n kk o : Nat} {cs cs' : List C} {σ1 σ3 σ4 : b8} (k : Nat) (pre post : α → List I) (g : α → List β) (kb : Nat) (fb : β → List I) (hb : σv[b]? = some (some (.cells kk [cs]))) (hc : cs[o]? = some (.imm (.val (.slice none 0 0)))) (hn : newF σv = some (n, [])) (h1 : n7 σv (omat n k pre post g kb fb []) = some σ1)
  (hs : setF cs o (.own (n, []) 0 ([] : List α).length) = some cs') (hσ' : putF σ1 b (some (.cells kk [cs'])) = some σ') (h3 : n7 σv (.one (vec k (fun _ : α => ([] : List I)) ([] : List α))) = some σ3) (h4 : putF σ3 b (some (.cells kk [cs'])) = some σ4) (h : AWP P σ0 sz c Q ⟨env, σ'⟩) : AWP P σ0 sz c Q ⟨env, σv⟩ := AWP.sub (Sub.virtBO k pre post g kb fb hb hc hn h1 hs hσ' h3 h4) h
theorem om_head (h : σv[r]? = some (omat r k pre post g kb fb M)) : σv[((r, []) : Id)]? = some (some (.cells k (ohdr pre post g r M))) := by rw [l9 h]; rfl
theorem S.appendO {x y : Operand} {t e : TypeId} {bytes m n s t0 q : Nat} {z : Value} {a : α} {M' : List α} {σ1 σ2 : b8} [ht : TyD P t (.slice e)] [hts : TyS P e k bytes z]
  (ha : app bytes M [a] = some M') (hzk : (z.cells.size == k) = true) (hbp : Nat.blt 0 bytes = true) (hx : ev env x = some (.c (.own (r, []) 0 m))) (hm : m = M.length) (hσ : σv[r]? = some (omat r k pre post g kb fb M))
  (hy : ev env y = some (.c (.own (t0, []) 0 1))) (ht0 : σv[((t0, []) : Id)]? = some (some (.cells k [oc pre post (.own (s, []) 0 q) a]))) (hq : q = (g a).length) (hs : σv[((s, []) : Id)]? = some (some (vec kb fb (g a)))) (hsr : Nat.beq s r = false)
  (hn : newF σv = some (n, [])) (h1 : setF σv r .dead = some σ1) (h2 : setF σ1 s .dead = some σ2) (hσ' : n7 σ2 (omat n k pre post g kb fb M') = some σ') (hd : f4 sz dst = true) (h0 : Nat.ble σ0.length n = true)
  (h : AOps P σ0 sz ops Q rest (St.mk (putE env dst (.c (.own (n, []) 0 M'.length))) σ')) :
  AOps P σ0 sz ops Q (⟨dst, .call ⟨.builtin .append, #[x, y], #[t, t]⟩, ty, pos, after, none⟩ :: rest) (St.mk env σv) := by
 have h2' := (D6 h1).1; have h2s := (D6 h2).1; have h3 := v8 hn; have h4 := m7 hσ'
 cases h3
 subst h2' h2s h4 hm hq
 obtain ⟨hb, rfl⟩ := app_get ha
 have hsr' : s ≠ r := fun e => by simp [e] at hsr
 have hrl := (List.getElem?_eq_some_iff.1 hσ).1
 have hsl : s < σv.length := b8.lt_of hs
 have h0' := Nat.le_of_ble_eq_true h0
 intro Γ0 φ0 a0 w0 hΓ0 hR0
 have hsrc : Src σv k (.c (.own (t0, []) 0 1)) [oc pre post (.own (s, []) 0 (g a).length) a] := .own (j := 0) (n := 1) ht0
 refine AOps.append hzk hbp hx (om_head hσ) hy hsrc (by simpa using hb) hd ?_ Γ0 φ0 a0 w0 hΓ0 hR0
 have e1 : ((ohdr pre post g r M).drop 0).take M.length = ohdr pre post g r M := by rw [List.drop_zero, List.take_of_length_le (by simp [ohdr_len])]
 rw [e1]
 generalize hX : σv.put (r, []) none ++ [Ent.one (.cells k (ohdr pre post g r M ++ [oc pre post (.own (s, []) 0 (g a).length) a]))] = σX
 have e5 : (St.mk env σX).put dst (.c (.own (σv.length, []) 0 (M.length + [oc pre post (.own (s, []) 0 (g a).length) a].length))) = ⟨putE env dst (.c (.own (σv.length, []) 0 (M ++ [a]).length)), σX⟩ := by
  rw [show M.length + [oc pre post (.own (s, []) 0 (g a).length) a].length = (M ++ [a]).length by simp]
  cases dst <;> rfl
 rw [e5]
 have xn : σX[((σv.length, []) : Id)]? = some (some (.cells k (ohdr pre post g r M ++ [oc pre post (.own (s, []) 0 (g a).length) a]))) := by
  rw [← hX, b8.get_right (by simp)]; simp [b8.at_eq, b8.at, Ent.sub]
 have xo : ∀ i : Id, i.1 < σv.length → i ≠ (r, []) → σX[i]? = σv[i]? := fun i hi hne => by
  rw [← hX, b8.get_left (by simpa using hi), b8.get_put_ne hne]
 generalize hπ : (fun i : Id => if i.1 = σv.length then (if i.2 = [] then (σv.length, []) else if i.2 = [M.length] then (s, []) else (r, i.2)) else i) = π
 have π0 : ∀ i : Id, i.1 ≠ σv.length → π i = i := fun i hi => by rw [← hπ]; simp [hi]
 have πn : π (σv.length, []) = (σv.length, []) := by rw [← hπ]; simp
 have πv : π (σv.length, [M.length]) = (s, []) := by rw [← hπ]; simp
 have πr : ∀ q, q < M.length → π (σv.length, [q]) = (r, [q]) := fun q hq => by rw [← hπ]; simp; omega
 have hMlen : (M ++ [a]).length = M.length + 1 := by simp
 have dead : ∀ (i : Id) b, ((σv.set r .dead).set s .dead)[i]? = some (some b) → i.1 ≠ r ∧ i.1 ≠ s ∧ σv[i]? = some (some b) := fun i b hi => by
  obtain ⟨i1, q⟩ := i
  rw [b8.at_eq] at hi
  simp only [b8.at, List.getElem?_set, List.length_set] at hi
  by_cases e1 : s = i1
  ·subst e1; simp [hsl, Ent.sub] at hi
  ·rw [if_neg e1] at hi
   by_cases e2 : r = i1
   ·subst e2; simp [hrl, Ent.sub] at hi
   ·rw [if_neg e2] at hi
    exact ⟨fun e => e2 e.symm, fun e => e1 e.symm, by rw [b8.at_eq]; exact hi⟩
 have cases3 : ∀ (i : Id) b, ((σv.set r .dead).set s .dead ++ [omat σv.length k pre post g kb fb (M ++ [a])])[i]? = some (some b) →
   (i.1 < σv.length ∧ i.1 ≠ r ∧ i.1 ≠ s ∧ σv[i]? = some (some b)) ∨ (i = (σv.length, []) ∧ b = .cells k (ohdr pre post g σv.length (M ++ [a]))) ∨ (∃ q c, i = (σv.length, [q]) ∧ (M ++ [a])[q]? = some c ∧ b = vec kb fb (g c)) := fun i b hi => by
  rcases Nat.lt_or_ge i.1 σv.length with hl | hl
  ·rw [b8.get_left (by simpa using hl)] at hi
   obtain ⟨g1, g2, g3⟩ := dead i b hi
   exact .inl ⟨hl, g1, g2, g3⟩
  ·rw [b8.get_right (by simpa using hl)] at hi
   obtain ⟨i1, q⟩ := i
   simp only [List.length_set] at hi hl
   have hz : i1 = σv.length := by
    have := b8.lt_of hi
    simp at this; simp at hl; omega
   subst hz
   rw [Nat.sub_self, l9 (e := omat σv.length k pre post g kb fb (M ++ [a])) rfl] at hi
   simp only [Option.some.injEq] at hi
   rcases om_sub hi with ⟨rfl, rfl⟩ | ⟨q', c, rfl, hc, rfl⟩
   ·exact .inr (.inl ⟨rfl, rfl⟩)
   ·exact .inr (.inr ⟨q', c, rfl, hc, rfl⟩)
 refine AOps.sub (s' := ⟨putE env dst (.c (.own (σv.length, []) 0 (M ++ [a]).length)), (σv.set r .dead).set s .dead ++ [omat σv.length k pre post g kb fb (M ++ [a])]⟩) ?_ h
 have hlen' : ((σv.set r .dead).set s .dead ++ [omat σv.length k pre post g kb fb (M ++ [a])]).length = σv.length + 1 := by simp
 have hqb : ∀ {q : Nat} {c : α}, (M ++ [a])[q]? = some c → q < M.length + 1 := fun hc => by rw [← hMlen]; exact (List.getElem?_eq_some_iff.1 hc).1
 refine Sub.mk π (fun i hi => π0 i (by omega)) (by rw [hlen']; omega) (fun i j b b' hi hj he => ?_) (fun i b hi => ?_) (fun t v ht => ?_)
 ·rcases cases3 i b hi with ⟨g1, g2, g2s, _⟩ | ⟨rfl, _⟩ | ⟨q, row, rfl, g1, _⟩ <;> rcases cases3 j b' hj with ⟨k1, k2, k2s, _⟩ | ⟨rfl, _⟩ | ⟨q', row', rfl, k1, _⟩
  ·rwa [π0 i (by omega), π0 j (by omega)] at he
  ·rw [π0 i (by omega), πn] at he; subst he; simp at g1
  ·rw [π0 i (by omega)] at he
   have hq := hqb k1
   by_cases e : q' = M.length
   ·subst e; rw [πv] at he; subst he; exact absurd rfl g2s
   ·rw [πr q' (by omega)] at he; subst he; exact absurd rfl g2
  ·rw [π0 j (by omega), πn] at he; subst he; simp at k1
  ·rfl
  ·have hq := hqb k1
   by_cases e : q' = M.length
   ·subst e; rw [πn, πv] at he; simp at he; omega
   ·rw [πn, πr q' (by omega)] at he; simp at he
  ·rw [π0 j (by omega)] at he
   have hq := hqb g1
   by_cases e : q = M.length
   ·subst e; rw [πv] at he; subst he; exact absurd rfl k2s
   ·rw [πr q (by omega)] at he; subst he; exact absurd rfl k2
  ·have hq := hqb g1
   by_cases e : q = M.length
   ·subst e; rw [πn, πv] at he; simp at he; omega
   ·rw [πn, πr q (by omega)] at he; simp at he
  ·have hq := hqb g1
   have hq' := hqb k1
   by_cases e : q = M.length <;> by_cases e' : q' = M.length
   ·rw [e, e']
   ·rw [e, πv, πr q' (by omega)] at he; simp at he
   ·rw [e', πv, πr q (by omega)] at he; simp at he
   ·rw [πr q (by omega), πr q' (by omega)] at he
    simp at he; rw [he]
 ·dsimp only
  rw [hlen']
  rcases cases3 i b hi with ⟨g1, g2, g2s, g3⟩ | ⟨rfl, rfl⟩ | ⟨q, c, rfl, g1, rfl⟩
  ·have hok := hR0.st.okB g3
   have hren : b.ren π = b := Blk.ren_ok (m := σv.length) (fun i hi => π0 i (by omega)) b hok
   refine ⟨Blk.ok_mono (Nat.le_succ _) b hok, ?_⟩
   rw [π0 i (by omega), hren, xo i g1 (fun e => g2 (by rw [e]))]
   exact g3
  ·refine ⟨om_ok (r := σv.length) (kb := kb) (fb := fb) (by simp) [] _ om_main, ?_⟩
   rw [πn, xn]
   congr 2
   simp only [Blk.ren]
   congr 1
   apply List.ext_getElem?
   intro q
   rw [List.getElem?_map]
   simp only [ohdr, List.getElem?_mapIdx, Option.map_map, List.getElem?_append, List.length_mapIdx]
   by_cases hq : q < M.length
   ·rw [if_pos hq, if_pos hq]
    cases hM : M[q]? with
    | none => rfl
    | some row => simp [oc_ren, C.ren, πr q hq]
   ·rw [if_neg hq, if_neg hq]
    by_cases hq2 : q = M.length
    ·subst hq2; simp [oc_ren, C.ren, πv]
    ·cases hz : q - M.length with
     | zero => omega
     | succ x => simp
  ·have hq := hqb g1
   refine ⟨B1, ?_⟩
   rw [x9]
   by_cases e : q = M.length
   ·subst e
    rw [πv, xo (s, []) hsl (fun e => hsr' (by cases e; rfl)), hs]
    rw [List.getElem?_append_right (Nat.le_refl _), Nat.sub_self] at g1
    cases g1; rfl
   ·rw [πr q (by omega), xo (r, [q]) hrl (by simp)]
    rw [List.getElem?_append_left (by omega)] at g1
    rw [l9 hσ, om_row g1]
 ·dsimp only at ht ⊢
  rw [hlen']
  have old : ∀ v, lookup t env = some v → v.ok (σv.length + 1) = true ∧ lookup t env = some (v.ren π) := fun v hv => by
   obtain ⟨u, _, hr⟩ := hR0.env t v hv
   have hok := hr.ok
   exact ⟨T.ok_mono (Nat.le_succ _) v hok, by rw [T.ren_ok (m := σv.length) (fun i hi => π0 i (by omega)) v hok]; exact hv⟩
  cases hdst : dst with
  | none => rw [hdst] at ht; exact old v ht
  | some d =>
   rw [hdst] at ht
   simp only [putE, lookup] at ht ⊢
   split at ht
   ·cases ht
    refine ⟨by simp [T.ok, C.ok], ?_⟩
    simp [T.ren, C.ren, πn]
   ·exact old v ht
/-! ### Rows cease to change -/
theorem blt_dec (a b : Nat) : Nat.blt a b = decide (a < b) := by rw [Bool.eq_iff_iff, Nat.blt_eq]; simp
theorem beq_dec (a b : Nat) : Nat.beq a b = decide (a = b) := by rw [Bool.eq_iff_iff, Nat.beq_eq]; simp
def ohdrF (pre post : α → List I) (g : α → List β) (kb : Nat) (fb : β → List I) (r : Nat) (M : List α) (p : Nat → Bool) : List (List C) := M.mapIdx fun i a => oc pre post (match p i with | true => .imm (.sl kb ((g a).map fb)) | false => .own (r, [i]) 0 (g a).length) a
def omF (r k : Nat) (pre post : α → List I) (g : α → List β) (kb : Nat) (fb : β → List I) (M : List α) (p : Nat → Bool) : Ent := .node (some (.cells k (ohdrF pre post g kb fb r M p))) (M.mapIdx fun i a => match p i with | true => .dead | false => .one (vec kb fb (g a)))
theorem omF_zero : omF r k pre post g kb fb M (fun _ => false) = omat r k pre post g kb fb M := by
 simp only [omF, omat, ohdrF, ohdr]
 congr 1
 apply List.ext_getElem?
 intro i
 simp [List.getElem?_mapIdx]
theorem omF_congr {p p' : Nat → Bool} (h : ∀ i, i < M.length → p i = p' i) : omF r k pre post g kb fb M p = omF r k pre post g kb fb M p' := by
 have e1 : ohdrF pre post g kb fb r M p = ohdrF pre post g kb fb r M p' := by
  apply List.ext_getElem?
  intro i
  simp only [ohdrF, List.getElem?_mapIdx]
  cases hi : M[i]? with
  | none => rfl
  | some a => simp only [Option.map_some, h i (List.getElem?_eq_some_iff.1 hi).1]
 have e2 : (M.mapIdx fun i a => match p i with | true => Ent.dead | false => .one (vec kb fb (g a))) = M.mapIdx fun i a => match p' i with | true => Ent.dead | false => .one (vec kb fb (g a)) := by
  apply List.ext_getElem?
  intro i
  simp only [List.getElem?_mapIdx]
  cases hi : M[i]? with
  | none => rfl
  | some a => simp only [Option.map_some, h i (List.getElem?_eq_some_iff.1 hi).1]
 simp only [omF, e1, e2]
theorem omF_frz {p : Nat → Bool} {q : Nat} {a : α} (hq : M[q]? = some a) : Blk.frz (r, [q]) kb ((g a).map fb) (.cells k (ohdrF pre post g kb fb r M p)) = .cells k (ohdrF pre post g kb fb r M fun i => p i || Nat.beq i q) := by
 simp only [Blk.frz]
 congr 1
 apply List.ext_getElem?
 intro j
 simp only [ohdrF, List.getElem?_map, List.getElem?_mapIdx, Option.map_map]
 cases hj : M[j]? with
 | none => rfl
 | some rj =>
  simp only [Option.map_some, Function.comp_apply, Option.some.injEq, oc_frz]
  congr 1
  cases hp : p j with
  | true => rfl
  | false =>
   by_cases h2 : j = q
   ·subst h2
    rw [hq] at hj; cases hj
    simp [C.frz, B7.2 rfl, List.take_of_length_le]
   ·have : idb (r, [j]) (r, [q]) = false := w7 (by simp; exact h2)
    have h3 : Nat.beq j q = false := by cases e : Nat.beq j q with | false => rfl | true => exact absurd (Nat.eq_of_beq_eq_true e) h2
    simp [C.frz, this, h3]
theorem Sub.omFrz {p : Nat → Bool} {q : Nat} {a : α} (h0 : Nat.ble σ0.length r = true) (hσ : σv[r]? = some (omF r k pre post g kb fb M p)) (hq : M[q]? = some a) (hp : p q = false) (hno : T7 r σv) (he : Y5 r env = true) : Sub σ0 ⟨env, σv⟩ ⟨env, σv.set r (omF r k pre post g kb fb M fun i => p i || Nat.beq i q)⟩ := by
 have hrl : r < σv.length := (List.getElem?_eq_some_iff.1 hσ).1
 have hrow : σv[((r, [q]) : Id)]? = some (some (Blk.im kb ((g a).map fb))) := by
  rw [l9 hσ]
  simp [omF, Ent.sub, List.getElem?_mapIdx, hq, hp]
 have hfz := Sub.frz (σ0 := σ0) (s := ⟨env, σv⟩) (r, [q]) kb ((g a).map fb) (Nat.le_of_ble_eq_true h0) hrow
 refine hfz.trans ((Sub.same (σ2 := σv.set r (omF r k pre post g kb fb M fun i => p i || Nat.beq i q)) (by simp [St.frz]) fun i => ?_).trans (Sub.look fun t v ht => ?_))
 ·simp only [St.frz]
  rw [b8.get_map, set_ent hσ]
  by_cases hi : i = (r, [q])
  ·subst hi
   rw [b8.get_put_eq hrow, if_pos rfl]
   simp [omF, Ent.sub, List.getElem?_mapIdx, hq]
  ·rw [b8.get_put_ne hi]
   by_cases hir : i.1 = r
   ·obtain ⟨i1, l⟩ := i
    simp only at hir
    subst hir
    rw [if_pos rfl, l9 hσ]
    simp only [Option.map_some, Option.some.injEq]
    cases l with
    | nil => simp only [omF, Ent.sub, Option.map_some, omF_frz hq]
    | cons c l =>
     simp only [omF, Ent.sub, List.getElem?_mapIdx]
     cases hc : M[c]? with
     | none => rfl
     | some row =>
      simp only [Option.map_some]
      cases hpc : p c with
      | true => simp only [Bool.true_or]; cases l <;> rfl
      | false =>
       by_cases h2 : c = q
       ·subst h2
        cases l with
        | nil => exact absurd rfl hi
        | cons => simp [Ent.sub]
       ·have h3 : Nat.beq c q = false := by cases e : Nat.beq c q with | false => rfl | true => exact absurd (Nat.eq_of_beq_eq_true e) h2
        simp only [h3, Bool.or_false]
        cases l with
        | nil => simp only [Ent.sub, Option.map_some, Blk.frz_no _ (Blk.im_no _ _ _)]
        | cons => rfl
   ·rw [if_neg hir]
    cases hx : σv[i]? with
    | none => rfl
    | some o =>
     cases o with
     | none => rfl
     | some b => simp only [Option.map_some, Blk.frz_no _ (hno i b hir hx q)]
 ·simp only [St.frz]
  rw [W6 (fun v => v.frz (r, [q]) kb ((g a).map fb)), ht]
  simp only [Option.map_some, T.frz_no v (rowlessT_no (ak4 he t v ht))]
theorem T7.set {e : Ent} (h : T7 r σv) : T7 r (σv.set r e) := fun i b hi hb q => by
 refine h i b hi ?_ q
 obtain ⟨i1, l⟩ := i
 rw [b8.at_eq] at hb ⊢
 simp only [b8.at, List.getElem?_set] at hb ⊢
 rwa [if_neg (fun e => hi e.symm)] at hb
theorem Sub.omFrzTo (i : Nat) (h0 : Nat.ble σ0.length r = true) (hσ : σv[r]? = some (omat r k pre post g kb fb M)) (hno : T7 r σv) (he : Y5 r env = true) : ∀ q, q ≤ M.length → Sub σ0 ⟨env, σv⟩ ⟨env, σv.set r (omF r k pre post g kb fb M fun j => Nat.blt j q && !(Nat.beq j i))⟩
 | 0, _ => by
  have e : omF r k pre post g kb fb M (fun j => Nat.blt j 0 && !(Nat.beq j i)) = omat r k pre post g kb fb M := by
   rw [← omF_zero]; exact omF_congr fun j _ => by simp
  rw [e]
  exact Sub.same (by simp) fun i => by
   rw [set_ent hσ]
   split
   ·rename_i hi
    obtain ⟨i1, p⟩ := i
    simp only at hi; subst hi
    rw [l9 hσ]
   ·rfl
 | q + 1, hq => by
  refine (Sub.omFrzTo i h0 hσ hno he q (by omega)).trans ?_
  have hrl : r < σv.length := (List.getElem?_eq_some_iff.1 hσ).1
  have hqM : M[q]? = some M[q] := List.getElem?_eq_getElem (by omega)
  have hcur : (σv.set r (omF r k pre post g kb fb M fun j => Nat.blt j q && !(Nat.beq j i)))[r]? = some (omF r k pre post g kb fb M fun j => Nat.blt j q && !(Nat.beq j i)) := by rw [List.getElem?_set]; simp [hrl]
  by_cases hqi : q = i
  ·subst hqi
   have e : omF r k pre post g kb fb M (fun j => Nat.blt j (q + 1) && !(Nat.beq j q)) = omF r k pre post g kb fb M fun j => Nat.blt j q && !(Nat.beq j q) := omF_congr fun j _ => by
    simp only [blt_dec, beq_dec]; rw [Bool.eq_iff_iff]; simp only [Bool.and_eq_true, Bool.or_eq_true, Bool.not_eq_true', decide_eq_true_eq, decide_eq_false_iff_not]; omega
   rw [e]
   exact Sub.same rfl fun _ => rfl
  ·have := Sub.omFrz (env := env) h0 hcur hqM (by simp) hno.set he
   rw [List.set_set] at this
   have e : omF r k pre post g kb fb M (fun j => (Nat.blt j q && !(Nat.beq j i)) || Nat.beq j q) = omF r k pre post g kb fb M fun j => Nat.blt j (q + 1) && !(Nat.beq j i) := omF_congr fun j _ => by
    simp only [blt_dec, beq_dec]; rw [Bool.eq_iff_iff]; simp only [Bool.and_eq_true, Bool.or_eq_true, Bool.not_eq_true', decide_eq_true_eq, decide_eq_false_iff_not]; omega
   rwa [e] at this
abbrev vecP (pre post : α → List I) (g : α → List β) (kb : Nat) (fb : β → List I) (k : Nat) (M : List α) (i : Nat) (n : Id) (m : Nat) (a : α) : Blk := .cells k (((M.map (odat pre post g kb fb)).map (·.map C.imm)).set i (oc pre post (.own n 0 m) a))
theorem ohdrF_to {i : Nat} {a : α} (hi : M[i]? = some a) : ohdrF pre post g kb fb r M (fun j => Nat.blt j M.length && !(Nat.beq j i)) = ((M.map (odat pre post g kb fb)).map (·.map C.imm)).set i (oc pre post (.own (r, [i]) 0 (g a).length) a) := by
 apply List.ext_getElem?
 intro j
 simp only [ohdrF, List.getElem?_mapIdx, List.getElem?_set, List.length_map, List.getElem?_map]
 cases hj : M[j]? with
 | none =>
  have := List.getElem?_eq_none_iff.1 hj
  have hl := (List.getElem?_eq_some_iff.1 hi).1
  rw [if_neg (by omega)]; rfl
 | some b =>
  have hl := (List.getElem?_eq_some_iff.1 hj).1
  by_cases e : i = j
  ·subst e
   rw [hi] at hj; cases hj
   simp [beq_dec, hl]
  ·rw [if_neg e]
   have : (Nat.blt j M.length && !(Nat.beq j i)) = true := by simp only [blt_dec, beq_dec]; simp; omega
   simp only [Option.map_some, this, ac3]
theorem Sub.splitO {i n : Nat} {a : α} {σ1 : b8} (h0 : Nat.ble σ0.length r = true) (hσ : σv[r]? = some (omat r k pre post g kb fb M)) (hi : M[i]? = some a) (hno : T7 r σv) (he : Y5 r env = true) (hn : newF σv = some (n, [])) (h1 : setF σv r (.one (vecP pre post g kb fb k M i (n, []) (g a).length a)) = some σ1) (hσ' : n7 σ1 (.one (vec kb fb (g a))) = some σ') : Sub σ0 ⟨env, σv⟩ ⟨env, σ'⟩ := by
 have g1 := v8 hn; have g2 := (D6 h1).1; have g3 := m7 hσ'
 cases g1
 subst g2 g3
 intro Γ0 sz0 φ0 a0 w0 hΓ0 hR0
 have hrl : r < σv.length := (List.getElem?_eq_some_iff.1 hσ).1
 have h0' := Nat.le_of_ble_eq_true h0
 have hil := (List.getElem?_eq_some_iff.1 hi).1
 have hF := Sub.omFrzTo (env := env) i h0 hσ hno he M.length (Nat.le_refl _)
 generalize hX : σv.set r (omF r k pre post g kb fb M fun j => Nat.blt j M.length && !(Nat.beq j i)) = σX at hF
 have hXl : σX.length = σv.length := by rw [← hX]; simp
 have hcur : σX[r]? = some (omF r k pre post g kb fb M fun j => Nat.blt j M.length && !(Nat.beq j i)) := by rw [← hX, List.getElem?_set]; simp [hrl]
 have xr : σX[((r, []) : Id)]? = some (some (.cells k (((M.map (odat pre post g kb fb)).map (·.map C.imm)).set i (oc pre post (.own (r, [i]) 0 (g a).length) a)))) := by
  rw [l9 hcur]; simp only [omF, Ent.sub, ohdrF_to hi]
 have xi : σX[((r, [i]) : Id)]? = some (some (vec kb fb (g a))) := by
  rw [l9 hcur]; simp [omF, Ent.sub, List.getElem?_mapIdx, hi, beq_dec]
 have xo : ∀ q : Id, q.1 ≠ r → σX[q]? = σv[q]? := fun q hq => by
  rw [← hX]
  obtain ⟨q1, l⟩ := q
  rw [b8.at_eq, b8.at_eq]
  simp only [b8.at, List.getElem?_set]
  rw [if_neg (fun e => hq e.symm)]
 refine (hF.trans ?_) Γ0 sz0 φ0 a0 w0 hΓ0 hR0
 generalize hπ : (fun q : Id => if q = (σv.length, []) then ((r, [i]) : Id) else q) = π
 have π0 : ∀ q : Id, q ≠ (σv.length, []) → π q = q := fun q hq => by rw [← hπ]; simp [hq]
 have πn : π (σv.length, []) = (r, [i]) := by rw [← hπ]; simp
 have cases3 : ∀ (q : Id) b, (σv.set r (.one (vecP pre post g kb fb k M i (σv.length, []) (g a).length a)) ++ [Ent.one (vec kb fb (g a))])[q]? = some (some b) →
   (q.1 < σv.length ∧ q.1 ≠ r ∧ σv[q]? = some (some b)) ∨ (q = (r, []) ∧ b = vecP pre post g kb fb k M i (σv.length, []) (g a).length a) ∨ (q = (σv.length, []) ∧ b = vec kb fb (g a)) := fun q b hq => by
  obtain ⟨q1, l⟩ := q
  rcases Nat.lt_or_ge q1 σv.length with hl | hl
  ·rw [b8.get_left (by simpa using hl), b8.at_eq] at hq
   simp only [b8.at, List.getElem?_set] at hq
   by_cases e : r = q1
   ·subst e
    rw [if_pos rfl, if_pos hrl] at hq
    simp only [Option.some.injEq] at hq
    cases l with
    | nil => simp only [Ent.sub, Option.some.injEq] at hq; exact .inr (.inl ⟨rfl, hq.symm⟩)
    | cons => simp [Ent.sub] at hq
   ·rw [if_neg e] at hq
    exact .inl ⟨hl, fun e' => e e'.symm, by rw [b8.at_eq]; exact hq⟩
  ·rw [b8.get_right (by simpa using hl)] at hq
   have hz : q1 = σv.length := by
    have := b8.lt_of hq
    simp at this; omega
   subst hz
   rw [b8.at_eq] at hq
   simp only [List.length_set, Nat.sub_self, b8.at, List.getElem?_cons_zero, Option.some.injEq] at hq
   cases l with
   | nil => simp only [Ent.sub, Option.some.injEq] at hq; exact .inr (.inr ⟨rfl, hq.symm⟩)
   | cons => simp [Ent.sub] at hq
 have hlen' : (σv.set r (.one (vecP pre post g kb fb k M i (σv.length, []) (g a).length a)) ++ [Ent.one (vec kb fb (g a))]).length = σv.length + 1 := by simp
 refine Sub.mk π (fun q hq => π0 q (fun e => by subst e; simp at hq; omega)) (by rw [hlen']; omega) (fun q j b b' hq hj hE => ?_) (fun q b hq => ?_) (fun t v ht => ?_)
 ·rcases cases3 q b hq with ⟨g1, g2, _⟩ | ⟨rfl, _⟩ | ⟨rfl, _⟩ <;> rcases cases3 j b' hj with ⟨k1, k2, _⟩ | ⟨rfl, _⟩ | ⟨rfl, _⟩
  ·rwa [π0 q (fun e => by subst e; simp at g1), π0 j (fun e => by subst e; simp at k1)] at hE
  ·rw [π0 q (fun e => by subst e; simp at g1), π0 _ (fun e => by cases e; omega)] at hE; exact hE
  ·rw [π0 q (fun e => by subst e; simp at g1), πn] at hE; subst hE; exact absurd rfl g2
  ·rw [π0 j (fun e => by subst e; simp at k1), π0 _ (fun e => by cases e; omega)] at hE; exact hE
  ·rfl
  ·rw [π0 (r, []) (fun e => by cases e; omega), πn] at hE; cases hE
  ·rw [π0 j (fun e => by subst e; simp at k1), πn] at hE; subst hE; exact absurd rfl k2
  ·rw [π0 (r, []) (fun e => by cases e; omega), πn] at hE; cases hE
  ·rfl
 ·dsimp only
  rw [hlen']
  rcases cases3 q b hq with ⟨g1, g2, g3⟩ | ⟨rfl, rfl⟩ | ⟨rfl, rfl⟩
  ·have hok := hR0.st.okB g3
   have hren : b.ren π = b := Blk.ren_ok (m := σv.length) (fun i hi => π0 i (fun e => by subst e; simp at hi)) b hok
   exact ⟨Blk.ok_mono (Nat.le_succ _) b hok, by rw [π0 q (fun e => by subst e; simp at g1), hren, xo q g2, g3]⟩
  ·refine ⟨?_, ?_⟩
   ·simp only [vecP, Blk.ok, List.all_eq_true]
    intro e he
    rcases mem_set he with h | rfl
    ·simp only [List.map_map, List.mem_map, Function.comp_apply] at h
     obtain ⟨b, _, rfl⟩ := h
     rw [← ac3, oc_ok]; rfl
    ·rw [oc_ok]; simp [C.ok]
   ·rw [π0 (r, []) (fun e => by cases e; omega), xr]
    have eL : ((M.map (odat pre post g kb fb)).map (·.map C.imm)).map (C.renL π) = (M.map (odat pre post g kb fb)).map (·.map C.imm) := by
     apply List.ext_getElem?
     intro j
     simp only [List.getElem?_map, Option.map_map]
     cases M[j]? with
     | none => rfl
     | some b => simp only [Option.map_some, Function.comp_apply]; rw [← ac3, oc_ren]; rfl
    simp only [vecP, Blk.ren, List.map_set, eL, oc_ren, C.ren, πn]
  ·exact ⟨B1, by rw [πn, xi, x9]⟩
 ·dsimp only at ht ⊢
  rw [hlen']
  obtain ⟨u, _, hr⟩ := hR0.env t v ht
  have hok := hr.ok
  exact ⟨T.ok_mono (Nat.le_succ _) v hok, by rw [T.ren_ok (m := σv.length) (fun i hi => π0 i (fun e => by subst e; simp at hi)) v hok]; exact ht⟩
theorem vp_frz {i m : Nat} {n : Id} {a a' : α} {l : List β} (hm : m = l.length) (ha : odat pre post g kb fb a' = pre a ++ .sl kb (l.map fb) :: post a) : ∀ p, ((Ent.one (vecP pre post g kb fb k M i n m a)).sub p).map (Blk.frz n kb (l.map fb)) = (Ent.one (vec k (odat pre post g kb fb) (M.set i a'))).sub p := fun p => by
 subst hm
 cases p with
 | cons => rfl
 | nil =>
  have eL : ((M.map (odat pre post g kb fb)).map (·.map C.imm)).map (C.frzL n kb (l.map fb)) = (M.map (odat pre post g kb fb)).map (·.map C.imm) := by
   apply List.ext_getElem?
   intro j
   simp only [List.getElem?_map, Option.map_map]
   cases M[j]? with
   | none => rfl
   | some b => simp only [Option.map_some, Function.comp_apply]; rw [← ac3, oc_frz]; rfl
  simp only [Ent.sub, Option.map_some, vecP, vec, Blk.im, Blk.frz, List.map_set, eL, oc_frz, ha]
  simp [oc, C.frz, B7.2 rfl, List.take_of_length_le]
/-! ### The block with one cell owned elsewhere: looked at, written -/
theorem S.idxVP {x y : Operand} {t e : TypeId} {bytes q m : Nat} {z : Value} {kk : IntKind} {i : Int} {a b : α} {n : Id} [ht : TyD P t (.slice e)] [hs : TyS P e k bytes z]
  (hi : ix M i = some b) (hx : ev env x = some (.c (.own (r, []) 0 q))) (hn : q = M.length) (hσ : σv[((r, []) : Id)]? = some (some (vecP pre post g kb fb k M i.toNat n m a))) (hy : ev env y = some (.c (.imm (.val (.int kk i))))) (hd : f4 sz dst = true)
  (h : AOps P σ0 sz ops Q rest (St.mk (putE env dst (.c (.ptr (r, []) i.toNat 0))) σv)) : AOps P σ0 sz ops Q (⟨dst, .indexAddr t x y, ty, pos, after, none⟩ :: rest) (St.mk env σv) :=
 .indexAddrOwn hx hσ hy (by have := I7 hi; have := f8 hi; subst hn; omega) hd (by rw [Nat.zero_add]; exact h)
theorem S.loadVP {x : Operand} {t : TypeId} {d : TypeDesc} {i : Int} {o m : Nat} {a b : α} {n : Id} [ht : TyD P t d] (hi : ix M i = some b) (hx : ev env x = some (.c (.ptr (r, []) i.toNat o))) (hσ : σv[((r, []) : Id)]? = some (some (vecP pre post g kb fb k M i.toNat n m a))) (ho : (pre a).length = o) (ha : y4 d = false) (hd : f4 sz dst = true)
  (h : AOps P σ0 sz ops Q rest (St.mk (putE env dst (.c (.own n 0 m))) σv)) : AOps P σ0 sz ops Q (⟨dst, .load t x, ty, pos, after, none⟩ :: rest) (St.mk env σv) :=
 AOps.E (e := oc pre post (.own n 0 m) a) ha hx hσ (by have := f8 hi; simp [this]) (by subst ho; simp [oc]) hd h
theorem S.storeVP {x y : Operand} {t : TypeId} {bytes m m' o : Nat} {i : Int} {z : Value} {a b : α} {n n' : Id} [hs : TyS P t 1 bytes z] (hi : ix M i = some b) (hx : ev env x = some (.c (.ptr (r, []) i.toNat o))) (hy : ev env y = some (.c (.own n' 0 m')))
  (hσ : σv[((r, []) : Id)]? = some (some (vecP pre post g kb fb k M i.toNat n m a))) (ho : (pre a).length = o) (hσ' : putF σv (r, []) (some (vecP pre post g kb fb k M i.toNat n' m' a)) = some σ') (h : AOps P σ0 sz ops Q rest (St.mk env σ')) : AOps P σ0 sz ops Q (⟨none, .store t x y, ty, pos, after, none⟩ :: rest) (St.mk env σv) := by
 have h2 := u8 hσ'
 subst h2
 refine AOps.store (e := oc pre post (.own n 0 m) a) hx hy hσ (by have := f8 hi; simp [this]) (by subst ho; simp [oc]) ?_
 have e : (((M.map (odat pre post g kb fb)).map (·.map C.imm)).set i.toNat (oc pre post (.own n 0 m) a)).set i.toNat ((oc pre post (.own n 0 m) a).set o (.own n' 0 m')) = ((M.map (odat pre post g kb fb)).map (·.map C.imm)).set i.toNat (oc pre post (.own n' 0 m') a) := by
  rw [List.set_set]
  congr 1
  subst ho
  simp only [oc]
  rw [List.set_append_right _ _ (by simp)]
  simp
 rw [e]
 exact h
theorem vp_elem {i m : Nat} {n : Id} {a : α} {e : List C} (h : e ∈ ((M.map (odat pre post g kb fb)).map (·.map C.imm)).set i (oc pre post (.own n 0 m) a)) : (∃ b : α, e = oc pre post (.imm (.sl kb ((g b).map fb))) b) ∨ e = oc pre post (.own n 0 m) a := by
 rcases mem_set h with h | h
 ·simp only [List.map_map, List.mem_map, Function.comp_apply] at h
  obtain ⟨b, _, rfl⟩ := h
  exact .inl ⟨b, ac3.symm⟩
 ·exact .inr h
theorem vp_ok {i m N : Nat} {n : Id} {a : α} (h : Nat.blt n.1 N = true) : (vecP pre post g kb fb k M i n m a).ok N = true := by
 simp only [vecP, Blk.ok, List.all_eq_true]
 intro e he
 rcases vp_elem he with ⟨b, rfl⟩ | rfl
 ·rw [oc_ok]; rfl
 ·rw [oc_ok]; simpa [C.ok] using h
theorem vp_ren {i m : Nat} {n : Id} {a : α} {π : Id → Id} : (vecP pre post g kb fb k M i n m a).ren π = vecP pre post g kb fb k M i (π n) m a := by
 have eL : ((M.map (odat pre post g kb fb)).map (·.map C.imm)).map (C.renL π) = (M.map (odat pre post g kb fb)).map (·.map C.imm) := by
  apply List.ext_getElem?
  intro j
  simp only [List.getElem?_map, Option.map_map]
  cases M[j]? with
  | none => rfl
  | some b => simp only [Option.map_some, Function.comp_apply]; rw [← ac3, oc_ren]; rfl
 simp only [vecP, Blk.ren, List.map_set, eL, oc_ren, C.ren]
theorem vp_mv {i m : Nat} {n n' j : Id} {a : α} {π : Id → Id} (hπ : π n = n') (h : σv[j]? = some (some (vecP pre post g kb fb k M i n' m a))) : σv[j]? = some (some ((vecP pre post g kb fb k M i n m a).ren π)) := by rw [vp_ren, hπ]; exact h
end
end Ab
end
section
namespace Ab
open Go Go.Proofs
set_option linter.all false
abbrev q7 (l : List Int) : List I := [.sl 1 (l.map intI)]
structure f5 where
  pre : List Int
  add : List Int
  del : List Int
  cost : Int
abbrev i3 (v : f5) : List I := [.sl 1 (List.map intI v.pre), .sl 1 (List.map intI v.add), .sl 1 (List.map intI v.del), .val (.int .i64 v.cost)]
structure d9 where
  facts : Int
  init : List Int
  goal : List Int
  operators : List f5
abbrev eTTask (v : d9) : List I := [.val (.int .i64 v.facts), .sl 1 (List.map intI v.init), .sl 1 (List.map intI v.goal), .sl 4 (List.map i3 v.operators)]
structure i9 where
  code : Int
  index : Int
structure ab2 where
  fx : Int
  fy : Int
  signed : Bool
  code : Int
structure Truntime_boundsError where
  fx : Int
  fy : Int
  signed : Bool
  code : Int
structure ab3 where
  facts : Int
  init : List Int
  goal : List Int
  operators : List f5
structure TCode_int_Index_int where
  code : Int
  index : Int
structure al4 where
  pre : List Int
  add : List Int
  del : List Int
  cost : Int
structure q9 where
  ffrom : Int
  cost : Int
abbrev i7 (v : q9) : List I := [.val (.int .u32 v.ffrom), .val (.int .i64 v.cost)]
structure Tspace_Step_uint32 where
  op : Int
  cost : Int
  to : Int
structure TOp_int_Cost_int_To_uint32 where
  op : Int
  cost : Int
  to : Int
structure Tfrom_uint32_cost_int where
  ffrom : Int
  cost : Int
structure i6 where
  pre : Int
  add : Int
  del : Int
  cost : Int
abbrev d7 (v : i6) : List I := [.val (.int .u32 v.pre), .val (.int .u32 v.add), .val (.int .u32 v.del), .val (.int .i64 v.cost)]
structure ag9 where
  start : Int
  goal : Int
  ops : List i6
structure Tspace_Words where
  start : Int
  goal : Int
  ops : List i6
structure ag5 where
  pre : Int
  add : Int
  del : Int
  cost : Int
structure aj2 where
  item : Int
  key : Int
  time : Int
  fat : Int
structure d4 where
  item : Int
  key : Int
  time : Int
  fat : Int
abbrev b9 (v : d4) : List I := [.val (.int .u32 v.item), .val (.int .i64 v.key), .val (.int .i64 v.time), .val (.int .i64 v.fat)]
abbrev preOp (o : f5) : List I := [.sl 1 (o.pre.map intI)]
abbrev postOp (o : f5) : List I := [.sl 1 (o.del.map intI), .val (.int .i64 o.cost)]
abbrev omOp (r : Nat) (M : List f5) : Ent := omat r 4 preOp postOp f5.add 1 intI M
abbrev vpOp (M : List f5) (i n m : Nat) (a : f5) : Blk := vecP preOp postOp f5.add 1 intI 4 M i (n, []) m a
def O5 (l : List Int) (nv : Int) : Int → Unit → Option (Unit ⊕ Bool) := fun t3 _ => Option.bind (ix l t3) fun a12 => Option.bind (if a12 < 0 then some true else if nv ≤ a12 then some true else if 0 < t3 then Option.bind (ix l (t3 - 1)) fun a29 => some (decide (a12 ≤ a29)) else some false) fun t4 => if t4 = true then some (.inr false) else some (.inl ())
def B4 (l : List Int) (nv : Int) : Option Bool := (Option.bind (rngX 0 (l.length : Int) (O5 l nv) ()) fun | .inl _ => some true | .inr x => some x)
def B9 (xv : Int) : Option Bool := some (!(decide (xv = xv)))
def Q0 (xv : Int) (yv : Int) : Option Bool := Option.bind (Option.bind (B9 xv) fun a6 => if a6 = true then Option.bind (B9 yv) fun a9 => if (!a9) = true then some true else some (decide (xv < yv)) else some (decide (xv < yv))) fun t3 => some t3
def G9 (xv : Int) : Option Bool := some (!(decide (xv = xv)))
def v6 (xv : List Int) (target : Int) : (Int × Int) → Option ((Int × Int) ⊕ Int) := fun (iv3, j4) => if iv3 < j4 then Option.bind (ix xv (w64 (shrW .u64 ((IntKind.u64).wrap (w64 (iv3 + j4))) 1))) fun a24 => Option.bind (Q0 a24 target) fun a27 => if a27 = true then some (.inl (w64 ((w64 (shrW .u64 ((IntKind.u64).wrap (w64 (iv3 + j4))) 1)) + 1), j4)) else some (.inl (iv3, w64 (shrW .u64 ((IntKind.u64).wrap (w64 (iv3 + j4))) 1))) else some (.inr iv3)
noncomputable def o8 (xv : List Int) (target : Int) : Option (Int × Bool) := Option.bind (Loop (v6 xv target) (0, (xv.length : Int))) fun iv5 => Option.bind (if iv5 < (xv.length : Int) then Option.bind (ix xv iv5) fun a38 => if a38 = target then some true else Option.bind (ix xv iv5) fun a45 => Option.bind (G9 a45) fun a47 => if a47 = true then Option.bind (G9 target) fun a50 => some a50 else some false else some false) fun t8 => some (iv5, t8)
noncomputable def Q7 (xv : Int) (c2 : List Int) : Option Bool := Option.bind (o8 c2 xv) fun a9 => some a9.2
def y8 (sv : List Int) (fv : Int → Option Bool) : Int → Unit → Option (Unit ⊕ Int) := fun t3 _ => Option.bind (ix sv t3) fun a14 => Option.bind (fv a14) fun a16 => if a16 = true then some (.inr t3) else some (.inl ())
def B0 (sv : List Int) (fv : Int → Option Bool) : Option Int := (Option.bind (rngX 0 (sv.length : Int) (y8 sv fv) ()) fun | .inl _ => some (-1) | .inr x => some x)
def u3 (sv : List Int) (fv : Int → Option Bool) : Option Bool := Option.bind (B0 sv fv) fun a7 => some (decide (0 ≤ a7))
noncomputable def Q4 (av : List Int) (bv : List Int) : Option Bool := Option.bind (u3 av (fun y1 => Q7 y1 bv)) fun a7 => some a7
noncomputable def I3 (ov : f5) (facts : Int) : Option Int := Option.bind (Option.bind (B4 ov.pre facts) fun a9 => if (!a9) = true then some true else Option.bind (B4 ov.add facts) fun a15 => if (!a15) = true then some true else Option.bind (B4 ov.del facts) fun a22 => if (!a22) = true then some true else Option.bind (Q4 ov.add ov.del) fun a30 => some a30) fun t3 => if t3 = true then some 5 else if ((decide (ov.cost < 0)) || (decide (100 < ov.cost))) = true then some 3 else some 0
noncomputable def D4 (t : d9) : Int → Unit → Option (Unit ⊕ i9) := fun t6 _ => Option.bind (ix t.operators t6) fun a44 => Option.bind (I3 a44 t.facts) fun a49 => if a49 = 0 then some (.inl ()) else some (.inr (⟨a49, t6⟩ : i9))
noncomputable def p9 (t : d9) : Option i9 := if ((decide (t.facts < 0)) || (decide (24 < t.facts))) = true then some (⟨3, -1⟩ : i9) else Option.bind (B4 t.init t.facts) fun a21 => if (!a21) = true then some (⟨5, -2⟩ : i9) else Option.bind (B4 t.goal t.facts) fun a29 => if (!a29) = true then some (⟨5, -3⟩ : i9) else if 40 < (t.operators.length : Int) then some (⟨2, -1⟩ : i9) else (Option.bind (rngX 0 (t.operators.length : Int) (D4 t) ()) fun | .inl _ => some (⟨0, 0⟩ : i9) | .inr x => some x)
noncomputable def C5 (t : d9) (op : Int) : Option i9 := Option.bind (p9 t) fun a7 => if (!((decide (a7.code = 0)) && (decide (a7.index = 0)))) = true then some a7 else if ((decide (op < 0)) || (decide ((t.operators.length : Int) ≤ op))) = true then some (⟨3, -6⟩ : i9) else some (⟨0, 0⟩ : i9)
noncomputable def x6 (t : d9) (op : Int) : Option i9 := Option.bind (p9 t) fun a7 => if (!((decide (a7.code = 0)) && (decide (a7.index = 0)))) = true then some a7 else if ((decide (op < 0)) || (decide ((t.operators.length : Int) ≤ op))) = true then some (⟨3, -6⟩ : i9) else some (⟨0, 0⟩ : i9)
abbrev aa5 (t : d9) : b8 := []
noncomputable def D0 (t : d9) : Int → (List f5) → Option (List f5) := fun t56 c55 => Option.bind (ix t.operators t56) fun a20 => Option.bind (k6 a20.pre) fun a26 => Option.bind (k6 a20.add) fun a29 => Option.bind (k6 a20.del) fun a32 => Option.bind (app 80 c55 [(⟨a26, a29, a32, a20.cost⟩ : f5)]) fun a37 => some a37
noncomputable def D9 (t : d9) : Option ((List Int) × (List Int) × (List f5)) := Option.bind (k6 t.init) fun a10 => Option.bind (k6 t.goal) fun a13 => (Option.bind (forR 0 (t.operators.length : Int) (D0 t) ([] : List f5)) fun c55 => some (a10, a13, c55))
noncomputable def D7 (t : d9) (op : Int) : Option (d9 × i9) := Option.bind (x6 t op) fun a10 => if (!((decide (a10.code = 0)) && (decide (a10.index = 0)))) = true then some ((⟨0, [], [], []⟩ : d9), a10) else if t.facts = 24 then some ((⟨0, [], [], []⟩ : d9), (⟨10, -8⟩ : i9)) else Option.bind (D9 t) fun a22 => Option.bind (ix a22.2.2 op) fun ao5 => Option.bind (app 8 a22.2.1 [t.facts]) fun a28 => Option.bind (app 8 ao5.add [t.facts]) fun a42 => some ((⟨w64 (t.facts + 1), a22.1, a28, a22.2.2.set op.toNat (⟨ao5.pre, a42, ao5.del, ao5.cost⟩ : f5)⟩ : d9), (⟨0, 0⟩ : i9))
def S8 (sv : List Int) : Int → Int → Option Int := fun t3 w2 => Option.bind (ix sv t3) fun a10 => Option.bind (chk0 a10) fun u14 => some (Go.bits .or .u32 w2 (shlW .u32 1 a10))
def F8 (sv : List Int) : Option Int := (Option.bind (forR 0 (sv.length : Int) (S8 sv) 0) fun w2 => some w2)
def Q5 (w : Int) : Int → (List Int) → Option (List Int) := fun t3 c2 => Option.bind (if Go.bits .and .u32 (shrW .u32 w t3) 1 = 1 then Option.bind (app 8 c2 [t3]) fun a16 => some a16 else some c2) fun c4 => some c4
def N4 (w : Int) : Option (List Int) := (Option.bind (forR 0 32 (Q5 w) []) fun c2 => some c2)
def I6 (xv : Int) (yv : Int) : Option Int := Option.bind (B9 xv) fun a8 => Option.bind (B9 yv) fun a10 => if a8 = true then if a10 = true then some 0 else some (-1) else if a10 = true then some 1 else if xv < yv then some (-1) else if yv < xv then some 1 else some 0
def A5 (s11 : List Int) (s22 : List Int) : Int → Unit → Option (Unit ⊕ Int) := fun t3 _ => Option.bind (ix s11 t3) fun a14 => if (s22.length : Int) ≤ t3 then some (.inr 1) else Option.bind (ix s22 t3) fun a22 => Option.bind (I6 a14 a22) fun a26 => if a26 = 0 then some (.inl ()) else some (.inr a26)
def u6 (s11 : List Int) (s22 : List Int) : Option Int := (Option.bind (rngX 0 (s11.length : Int) (A5 s11 s22) ()) fun | .inl _ => if (s11.length : Int) < (s22.length : Int) then some (-1) else some 0 | .inr x => some x)
def E7 (av : Int) (bv : Int) : Option Int := Option.bind (N4 av) fun a6 => Option.bind (N4 bv) fun a8 => Option.bind (u6 a6 a8) fun a9 => some a9
abbrev ai9 (t : d9) : b8 := []
def S7 (t : d9) : Int → (List i6) → Option (List i6) := fun t56 c55 => Option.bind (ix t.operators t56) fun a19 => Option.bind (F8 a19.pre) fun a28 => Option.bind (F8 a19.add) fun a31 => Option.bind (F8 a19.del) fun a34 => Option.bind (app 24 c55 [(⟨a28, a31, a34, a19.cost⟩ : i6)]) fun a39 => some a39
def X5 (t : d9) : Option (Int × Int × (List i6)) := Option.bind (F8 t.init) fun a8 => Option.bind (F8 t.goal) fun a11 => (Option.bind (forR 0 (t.operators.length : Int) (S7 t) []) fun c55 => some (a8, a11, c55))
abbrev af5 (start : Int) (goal : Int) (l : List i6) : b8 := [.one (.cells 3 [[.imm (.val (.int .u32 start)), .imm (.val (.int .u32 goal)), .own 1 0 l.length]]), .one (vec 4 d7 l)]
def u9 (start : Int) (goal : Int) (l : List i6) : Option Unit := some ()
abbrev af8 (sv : Int) (start : Int) (goal : Int) (l : List i6) : b8 := [.one (.cells 3 [[.imm (.val (.int .u32 start)), .imm (.val (.int .u32 goal)), .own 1 0 l.length]]), .one (vec 4 d7 l)]
def z6 (sv : Int) (start : Int) (goal : Int) (l : List i6) : Option Unit := some ()
abbrev J7 (start : Int) (goal : Int) (l : List i6) : b8 := [.one (.cells 3 [[.imm (.val (.int .u32 start)), .imm (.val (.int .u32 goal)), .own 1 0 l.length]]), .one (vec 4 d7 l)]
def E5 (l : List i6) (a26 : Int) (u32 : Unit) : Int → ((List (Int × Unit)) × (List Int)) → Option ((List (Int × Unit)) × (List Int)) := fun t66 (c64, c65) => Option.bind (ix l t66) fun ai14 => if Go.bits .and .u32 a26 ai14.pre = ai14.pre then if (!(Option.isSome (mget c64 (Go.bits .or .u32 (Go.bits .andNot .u32 a26 ai14.del) ai14.add)))) = true then Option.bind (app 4 c65 [Go.bits .or .u32 (Go.bits .andNot .u32 a26 ai14.del) ai14.add]) fun ab58 => some (mset c64 (Go.bits .or .u32 (Go.bits .andNot .u32 a26 ai14.del) ai14.add) (), ab58) else some (c64, c65) else some (c64, c65)
def E8 (l : List i6) (c56 : List Int) (c57 : List (Int × Unit)) (a26 : Int) (u32 : Unit) : Option ((List (Int × Unit)) × (List Int)) := (Option.bind (forR 0 (l.length : Int) (E5 l a26 u32) (c57, o4 c56 0 ((c56.length : Int) - 1))) fun ⟨c64, c65⟩ => some (c64, c65))
def E6 (start : Int) (goal : Int) (l : List i6) : ((List Int) × (List (Int × Unit)) × (List Int)) → Option (((List Int) × (List (Int × Unit)) × (List Int)) ⊕ ((List Int) ⊕ ((List Int) × Bool))) := fun (c56, c57, c58) => if 0 < (c56.length : Int) then Option.bind (ix c56 ((c56.length : Int) - 1)) fun a26 => Option.bind (cutV (c56.length : Int) 0 ((c56.length : Int) - 1)) fun u32 => Option.bind (app 4 c58 [a26]) fun a36 => Option.bind (z6 a26 start goal l) fun a39 => Option.bind (E8 l c56 c57 a26 u32) fun ⟨c62, c63⟩ => if 2000 < (c62.length : Int) then some (.inr (.inr ([], false))) else some (.inl (c63, c62, a36)) else some (.inr (.inl c58))
noncomputable def D5 (start : Int) (goal : Int) (l : List i6) : Option ((List Int) × Bool) := Option.bind (u9 start goal l) fun a12 => Option.bind (u9 start goal l) fun a16 => Option.bind (Loop (E6 start goal l) ([start], mset ([] : List (Int × Unit)) start (), [])) fun | .inl c59 => some (c59, true) | .inr x => some x
abbrev ak2 (t : d9) : b8 := []
noncomputable def A9 (t : d9) : Option ((Int × Int) ⊕ (Int × Int × (List i6) × (List Int))) := Option.bind (p9 t) fun a10 => if (!((decide (a10.code = 0)) && (decide (a10.index = 0)))) = true then some (.inl (a10.code, a10.index)) else Option.bind (X5 t) fun a16 => Option.bind (D5 a16.1 a16.2.1 a16.2.2) fun a20 => if (!a20.2) = true then some (.inl (10, -7)) else Option.bind (sortFU E7 a20.1) fun a27 => some (.inr (a16.1, a16.2.1, a16.2.2, a27))
abbrev ad9 : b8 := []
def E4 : Option Unit := some ()
abbrev af6 (sv : Int) (start : Int) (goal : Int) (l : List i6) : b8 := [.one (.cells 3 [[.imm (.val (.int .u32 start)), .imm (.val (.int .u32 goal)), .own 1 0 l.length]]), .one (vec 4 d7 l)]
def H3 (sv : Int) (start : Int) (goal : Int) (l : List i6) : Option Unit := some ()
abbrev X6 (l : List Int) (l2 : List d4) : b8 := [.one (prow 1 l), pool 4 b9 l2]
def m6 (l : List Int) (l2 : List d4) : Option Unit := some ()
abbrev W2 (iv : Int) (kv : Int) (l : List Int) (l4 : List d4) : b8 := [.one (prow 1 l), pool 4 b9 l4]
def l0 (iv : Int) (kv : Int) (l : List Int) (l4 : List d4) : Option Bool := Option.bind (ix l iv) fun a9 => Option.bind (ix l4 a9) fun en56 => Option.bind (ix l kv) fun a16 => Option.bind (ix l4 a16) fun en57 => some ((decide (en56.key < en57.key)) || ((decide (en56.key = en57.key)) && (decide (en56.time < en57.time))))
abbrev V9 (iv : Int) (kv : Int) (l : List Int) (l4 : List d4) : b8 := [.one (prow 1 l), pool 4 b9 l4]
def l7 (iv : Int) (kv : Int) (l : List Int) (l4 : List d4) : Option ((List Int) × (List d4)) := Option.bind (ix l kv) fun a12 => Option.bind (ix l iv) fun a16 => Option.bind (ix ((l.set iv.toNat a12).set kv.toNat a16) iv) fun ha57 => Option.bind (ix ((l.set iv.toNat a12).set kv.toNat a16) kv) fun ha58 => Option.bind (ix l4 ha57) fun en59 => Option.bind (ix (l4.set ha57.toNat (⟨en59.item, en59.key, en59.time, iv⟩ : d4)) ha58) fun en60 => some ((l.set iv.toNat a12).set kv.toNat a16, (l4.set ha57.toNat (⟨en59.item, en59.key, en59.time, iv⟩ : d4)).set ha58.toNat (⟨en60.item, en60.key, en60.time, kv⟩ : d4))
abbrev P0 (i01 : Int) (nv : Int) (time : Int) (l : List Int) (l5 : List (Int × Int)) (l6 : List d4) : b8 := [.one (.cells 3 [[.own 1 0 l.length, .map 2, int time]]), .one (prow 3 l), .one (pmap 3 (Value.int .u32) l5), pool 4 b9 l6]
def s6 (nv : Int) : ((List Int) × (List d4) × Int) → Option (((List Int) × (List d4) × Int) ⊕ ((List Int) × (List d4) × Int)) := fun (c60, c61, iv62) => if ((decide (nv ≤ w64 ((w64 (2 * iv62)) + 1))) || (decide (w64 ((w64 (2 * iv62)) + 1) < 0))) = true then some (.inr (c60, c61, iv62)) else Option.bind (Option.bind (if w64 ((w64 ((w64 (2 * iv62)) + 1)) + 1) < nv then Option.bind (l0 (w64 ((w64 ((w64 (2 * iv62)) + 1)) + 1)) (w64 ((w64 (2 * iv62)) + 1)) c60 c61) fun a32 => some a32 else some false) fun t69 => if t69 = true then some (w64 ((w64 ((w64 (2 * iv62)) + 1)) + 1)) else some (w64 ((w64 (2 * iv62)) + 1))) fun j67 => Option.bind (l0 j67 iv62 c60 c61) fun a38 => if (!a38) = true then some (.inr (c60, c61, iv62)) else Option.bind (l7 iv62 j67 c60 c61) fun a43 => Option.bind (W7 c60 a43.1) fun u74 => some (.inl (a43.1, a43.2, j67))
noncomputable def w4 (i01 : Int) (nv : Int) (time : Int) (l : List Int) (l5 : List (Int × Int)) (l6 : List d4) : Option ((List Int) × (List d4) × Bool) := Option.bind (Loop (s6 nv) (l, l6, i01)) fun ⟨c63, c64, iv65⟩ => some (c63, c64, decide (i01 < iv65))
abbrev S2 (j : Int) (time : Int) (l : List Int) (l4 : List (Int × Int)) (l5 : List d4) : b8 := [.one (.cells 3 [[.own 1 0 l.length, .map 2, int time]]), .one (prow 3 l), .one (pmap 3 (Value.int .u32) l4), pool 4 b9 l5]
def C7 : ((List Int) × (List d4) × Int) → Option (((List Int) × (List d4) × Int) ⊕ ((List Int) × (List d4))) := fun (c58, c59, j60) => Option.bind (chkN 2) fun u7 => Option.bind (if w64 ((w64 (j60 - 1)).tdiv 2) = j60 then some true else Option.bind (l0 j60 (w64 ((w64 (j60 - 1)).tdiv 2)) c58 c59) fun a15 => some (!a15)) fun t63 => if t63 = true then some (.inr (c58, c59)) else Option.bind (l7 (w64 ((w64 (j60 - 1)).tdiv 2)) j60 c58 c59) fun a21 => Option.bind (W7 c58 a21.1) fun u67 => some (.inl (a21.1, a21.2, w64 ((w64 (j60 - 1)).tdiv 2)))
noncomputable def y9 (j : Int) (time : Int) (l : List Int) (l4 : List (Int × Int)) (l5 : List d4) : Option ((List Int) × (List d4)) := Option.bind (Loop C7 (l, l5, j)) fun ⟨c61, c62⟩ => some (c61, c62)
abbrev ae2 (iv : Int) (time : Int) (l : List Int) (l4 : List (Int × Int)) (l5 : List d4) : b8 := [.one (.cells 3 [[.own 1 0 l.length, .map 2, int time]]), .one (prow 3 l), .one (pmap 3 (Value.int .u32) l4), pool 4 b9 l5]
noncomputable def x5 (iv : Int) (time : Int) (l : List Int) (l4 : List (Int × Int)) (l5 : List d4) : Option ((List Int) × (List d4)) := Option.bind (m6 l l5) fun a7 => Option.bind (w4 iv (l.length : Int) time l l4 l5) fun a8 => if (!a8.2.2) = true then Option.bind (y9 iv time a8.1 l4 a8.2.1) fun a12 => some (a12.1, a12.2) else some (a8.1, a8.2.1)
abbrev T4 (xv : Int) (time : Int) (l : List d4) (l4 : List Int) (l5 : List (Int × Int)) : b8 := [.one (.cells 3 [[.own 2 0 l4.length, .map 3, int time]]), pool 4 b9 l, .one (prow 1 l4), .one (pmap 1 (Value.int .u32) l5)]
def w6 (xv : Int) (time : Int) (l : List d4) (l4 : List Int) (l5 : List (Int × Int)) : Option ((List d4) × (List Int)) := Option.bind (ix l xv) fun en58 => Option.bind (app 8 l4 [xv]) fun a20 => some (l.set xv.toNat (⟨en58.item, en58.key, en58.time, (l4.length : Int)⟩ : d4), a20)
abbrev ad8 (xv : Int) (time : Int) (l : List d4) (l4 : List Int) (l5 : List (Int × Int)) : b8 := [.one (.cells 3 [[.own 2 0 l4.length, .map 3, int time]]), pool 4 b9 l, .one (prow 1 l4), .one (pmap 1 (Value.int .u32) l5)]
noncomputable def v7 (xv : Int) (time : Int) (l : List d4) (l4 : List Int) (l5 : List (Int × Int)) : Option ((List d4) × (List Int)) := Option.bind (w6 xv time l l4 l5) fun a6 => Option.bind (m6 a6.2 a6.1) fun a9 => Option.bind (y9 (w64 ((a6.2.length : Int) - 1)) time a6.2 l5 a6.1) fun a11 => some (a11.2, a11.1)
abbrev W0 (item : Int) (key : Int) (time : Int) (l : List Int) (l5 : List (Int × Int)) (l6 : List d4) : b8 := [.one (.cells 3 [[.own 1 0 l.length, .map 2, int time]]), .one (prow 3 l), .one (pmap 3 (Value.int .u32) l5), pool 4 b9 l6]
noncomputable def m9 (item : Int) (key : Int) (time : Int) (l : List Int) (l5 : List (Int × Int)) (l6 : List d4) : Option ((List (Int × Int)) × (List Int) × (List d4)) := if (Option.isSome (mget l5 item)) = true then Option.bind (mget l5 item) fun ap61 => Option.bind (ix l6 ap61) fun en62 => Option.bind (x5 en62.fat (w64 (time + 1)) l l5 ((l6.set ap61.toNat (⟨en62.item, key, en62.time, en62.fat⟩ : d4)).set ap61.toNat (⟨en62.item, key, w64 (time + 1), en62.fat⟩ : d4))) fun a45 => some (l5, a45.1, a45.2) else Option.bind (chkH l6.length (List.map (·.2) l5)) fun u63 => Option.bind (chkH l6.length l) fun u64 => Option.bind (v7 (l6.length : Int) (w64 (time + 1)) (l6 ++ [(⟨item, key, w64 (time + 1), 0⟩ : d4)]) l (mset l5 item (l6.length : Int))) fun a66 => some (mset l5 item (l6.length : Int), a66.2, a66.1)
abbrev X4 (time : Int) (l : List Int) (l3 : List (Int × Int)) (l4 : List d4) : b8 := [.one (.cells 3 [[.own 1 0 l.length, .map 2, int time]]), .one (prow 3 l), .one (pmap 3 (Value.int .u32) l3), pool 4 b9 l4]
def y6 (time : Int) (l : List Int) (l3 : List (Int × Int)) (l4 : List d4) : Option Unit := some ()
abbrev U1 (iv : Int) (kv : Int) (l : List Int) (l4 : List d4) : b8 := [.one (prow 1 l), pool 4 b9 l4]
def r9 (iv : Int) (kv : Int) (l : List Int) (l4 : List d4) : Option ((List Int) × (List d4)) := Option.bind (ix l kv) fun a12 => Option.bind (ix l iv) fun a16 => Option.bind (ix ((l.set iv.toNat a12).set kv.toNat a16) iv) fun ha57 => Option.bind (ix ((l.set iv.toNat a12).set kv.toNat a16) kv) fun ha58 => Option.bind (ix l4 ha57) fun en59 => Option.bind (ix (l4.set ha57.toNat (⟨en59.item, en59.key, en59.time, iv⟩ : d4)) ha58) fun en60 => some ((l.set iv.toNat a12).set kv.toNat a16, (l4.set ha57.toNat (⟨en59.item, en59.key, en59.time, iv⟩ : d4)).set ha58.toNat (⟨en60.item, en60.key, en60.time, kv⟩ : d4))
abbrev T5 (iv : Int) (kv : Int) (l : List Int) (l4 : List d4) : b8 := [.one (prow 1 l), pool 4 b9 l4]
def C0 (iv : Int) (kv : Int) (l : List Int) (l4 : List d4) : Option Bool := Option.bind (ix l iv) fun a9 => Option.bind (ix l4 a9) fun en56 => Option.bind (ix l kv) fun a16 => Option.bind (ix l4 a16) fun en57 => some ((decide (en56.key < en57.key)) || ((decide (en56.key = en57.key)) && (decide (en56.time < en57.time))))
abbrev O2 (i01 : Int) (nv : Int) (time : Int) (l : List Int) (l5 : List (Int × Int)) (l6 : List d4) : b8 := [.one (.cells 3 [[.own 1 0 l.length, .map 2, int time]]), .one (prow 3 l), .one (pmap 3 (Value.int .u32) l5), pool 4 b9 l6]
def O3 (nv : Int) : ((List Int) × (List d4) × Int) → Option (((List Int) × (List d4) × Int) ⊕ ((List Int) × (List d4) × Int)) := fun (c60, c61, iv62) => if ((decide (nv ≤ w64 ((w64 (2 * iv62)) + 1))) || (decide (w64 ((w64 (2 * iv62)) + 1) < 0))) = true then some (.inr (c60, c61, iv62)) else Option.bind (Option.bind (if w64 ((w64 ((w64 (2 * iv62)) + 1)) + 1) < nv then Option.bind (l0 (w64 ((w64 ((w64 (2 * iv62)) + 1)) + 1)) (w64 ((w64 (2 * iv62)) + 1)) c60 c61) fun a32 => some a32 else some false) fun t69 => if t69 = true then some (w64 ((w64 ((w64 (2 * iv62)) + 1)) + 1)) else some (w64 ((w64 (2 * iv62)) + 1))) fun j67 => Option.bind (C0 j67 iv62 c60 c61) fun a38 => if (!a38) = true then some (.inr (c60, c61, iv62)) else Option.bind (r9 iv62 j67 c60 c61) fun a43 => Option.bind (W7 c60 a43.1) fun u74 => some (.inl (a43.1, a43.2, j67))
noncomputable def C8 (i01 : Int) (nv : Int) (time : Int) (l : List Int) (l5 : List (Int × Int)) (l6 : List d4) : Option ((List Int) × (List d4) × Bool) := Option.bind (Loop (O3 nv) (l, l6, i01)) fun ⟨c63, c64, iv65⟩ => some (c63, c64, decide (i01 < iv65))
abbrev V6 (time : Int) (l : List Int) (l3 : List (Int × Int)) (l4 : List d4) : b8 := [.one (.cells 3 [[.own 1 0 l.length, .map 2, int time]]), .one (prow 3 l), .one (pmap 3 (Value.int .u32) l3), pool 4 b9 l4]
def x8 (time : Int) (l : List Int) (l3 : List (Int × Int)) (l4 : List d4) : Option ((List Int) × Int) := Option.bind (ix l ((l.length : Int) - 1)) fun a12 => Option.bind (subL l 0 ((l.length : Int) - 1)) fun a19 => some (a19, a12)
abbrev ae1 (time : Int) (l : List Int) (l3 : List (Int × Int)) (l4 : List d4) : b8 := [.one (.cells 3 [[.own 1 0 l.length, .map 2, int time]]), .one (prow 3 l), .one (pmap 3 (Value.int .u32) l3), pool 4 b9 l4]
noncomputable def B3 (time : Int) (l : List Int) (l3 : List (Int × Int)) (l4 : List d4) : Option ((List d4) × (List Int) × Int) := Option.bind (m6 l l4) fun a5 => Option.bind (r9 0 (w64 ((l.length : Int) - 1)) l l4) fun a9 => Option.bind (W7 l a9.1) fun u58 => Option.bind (C8 0 (w64 ((l.length : Int) - 1)) time a9.1 l3 a9.2) fun a12 => Option.bind (x8 time a12.1 l3 a12.2.1) fun a14 => some (a12.2.1, a14.1, a14.2)
abbrev T9 (time : Int) (l : List Int) (l3 : List (Int × Int)) (l4 : List d4) : b8 := [.one (.cells 3 [[.own 1 0 l.length, .map 2, int time]]), .one (prow 3 l), .one (pmap 3 (Value.int .u32) l3), pool 4 b9 l4]
noncomputable def r8 (time : Int) (l : List Int) (l3 : List (Int × Int)) (l4 : List d4) : Option ((List (Int × Int)) × (List d4) × (List Int) × Int × Int × Bool) := if (l.length : Int) = 0 then some (l3, l4, l, 0, 0, false) else Option.bind (B3 time l l3 l4) fun a17 => Option.bind (ix a17.1 a17.2.2) fun en62 => some (mdel l3 en62.item, a17.1, a17.2.1, en62.item, en62.key, true)
abbrev V7 (item : Int) (key : Int) (time : Int) (l : List Int) (l5 : List (Int × Int)) (l6 : List d4) : b8 := [.one (.cells 3 [[.own 1 0 l.length, .map 2, int time]]), .one (prow 3 l), .one (pmap 3 (Value.int .u32) l5), pool 4 b9 l6]
noncomputable def x7 (item : Int) (key : Int) (time : Int) (l : List Int) (l5 : List (Int × Int)) (l6 : List d4) : Option ((List (Int × Int)) × (List Int) × (List d4)) := if (Option.isSome (mget l5 item)) = true then Option.bind (mget l5 item) fun ap61 => Option.bind (ix l6 ap61) fun en62 => Option.bind (x5 en62.fat (w64 (time + 1)) l l5 ((l6.set ap61.toNat (⟨en62.item, key, en62.time, en62.fat⟩ : d4)).set ap61.toNat (⟨en62.item, key, w64 (time + 1), en62.fat⟩ : d4))) fun a45 => some (l5, a45.1, a45.2) else Option.bind (chkH l6.length (List.map (·.2) l5)) fun u63 => Option.bind (chkH l6.length l) fun u64 => Option.bind (v7 (l6.length : Int) (w64 (time + 1)) (l6 ++ [(⟨item, key, w64 (time + 1), 0⟩ : d4)]) l (mset l5 item (l6.length : Int))) fun a66 => some (mset l5 item (l6.length : Int), a66.2, a66.1)
abbrev J6 (l : List Int) (start : Int) (goal : Int) (l4 : List i6) : b8 := [.one (.cells 3 [[.imm (.val (.int .u32 start)), .imm (.val (.int .u32 goal)), .own 1 0 l4.length]]), .one (vec 4 d7 l4)]
def J4 (l4 : List i6) (a23 : Int) : Int → (List (Int × List q9)) → Option (List (Int × List q9)) := fun t73 c72 => Option.bind (ix l4 t73) fun ai14 => if Go.bits .and .u32 a23 ai14.pre = ai14.pre then Option.bind (app 16 (rowM c72 (Go.bits .or .u32 (Go.bits .andNot .u32 a23 ai14.del) ai14.add)) [(⟨a23, ai14.cost⟩ : q9)]) fun ab51 => some (mset c72 (Go.bits .or .u32 (Go.bits .andNot .u32 a23 ai14.del) ai14.add) ab51) else some c72
def J5 (l4 : List i6) (c56 : List (Int × List q9)) (a23 : Int) : Option (List (Int × List q9)) := (Option.bind (forR 0 (l4.length : Int) (J4 l4 a23) c56) fun c72 => some c72)
noncomputable def F3 (l : List Int) (start : Int) (goal : Int) (l4 : List i6) : Int → ((List (Int × List q9)) × (List (Int × Int)) × (List (Int × Int)) × (List d4) × Int × (List Int)) → Option ((List (Int × List q9)) × (List (Int × Int)) × (List (Int × Int)) × (List d4) × Int × (List Int)) := fun t62 (c56, c57, c58, c59, c60, c61) => Option.bind (ix l t62) fun a23 => Option.bind (Option.bind (H3 a23 start goal l4) fun a29 => if Go.bits .and .u32 a23 goal = goal then Option.bind (m9 a23 0 c60 c61 c58 c59) fun a34 => some (mset (mset c57 a23 1000000000) a23 0, a34.1, w64 (c60 + 1), a34.2.1, a34.2.2) else some (mset c57 a23 1000000000, c58, c60, c61, c59)) fun ⟨c63, c64, c65, c66, c67⟩ => Option.bind (z6 a23 start goal l4) fun a37 => Option.bind (J5 l4 c56 a23) fun c71 => some (c71, c63, c64, c67, c65, c66)
noncomputable def F4 (c56 : List (Int × List q9)) (a58 : (List (Int × Int)) × (List d4) × (List Int) × Int × Int × Bool) : Int → ((List (Int × Int)) × (List (Int × Int)) × (List d4) × Int × (List Int)) → Option ((List (Int × Int)) × (List (Int × Int)) × (List d4) × Int × (List Int)) := fun t87 (c82, c83, c84, c85, c86) => Option.bind (Option.bind (ix (rowM c56 a58.2.2.2.1) t87) fun a68 => if w64 (a58.2.2.2.2.1 + a68.cost) < Option.getD (mget c82 a68.ffrom) 0 then Option.bind (x7 a68.ffrom (w64 (a58.2.2.2.2.1 + a68.cost)) c85 c86 c83 c84) fun a93 => some (mset c82 a68.ffrom (w64 (a58.2.2.2.2.1 + a68.cost)), a93.1, w64 (c85 + 1), a93.2.1, a93.2.2) else some (c82, c83, c85, c86, c84)) fun ⟨c88, c89, c90, c91, c92⟩ => some (c88, c89, c92, c90, c91)
noncomputable def F1 (c56 : List (Int × List q9)) : ((List (Int × Int)) × (List (Int × Int)) × (List d4) × Int × (List Int)) → Option (((List (Int × Int)) × (List (Int × Int)) × (List d4) × Int × (List Int)) ⊕ (List (Int × Int))) := fun (c75, c76, c77, c78, c79) => Option.bind (y6 c78 c79 c76 c77) fun a54 => if 0 < (c79.length : Int) then Option.bind (r8 c78 c79 c76 c77) fun a58 => (Option.bind (forR 0 ((rowM c56 a58.2.2.2.1).length : Int) (F4 c56 a58) (c75, a58.1, a58.2.1, c78, a58.2.2.1)) fun ⟨c82, c83, c84, c85, c86⟩ => some (.inl (c82, c83, c84, c85, c86))) else some (.inr c75)
noncomputable def K1 (l : List Int) (start : Int) (goal : Int) (l4 : List i6) : Option (List (Int × Int)) := Option.bind (E4) fun a18 => (Option.bind (forR 0 (l.length : Int) (F3 l start goal l4) (([] : List (Int × List q9)), ([] : List (Int × Int)), ([] : List (Int × Int)), ([] : List d4), 0, ([] : List Int))) fun ⟨c56, c57, c58, c59, c60, c61⟩ => Option.bind (Loop (F1 c56) (c57, c58, c59, c60, c61)) fun c80 => some c80)
noncomputable def A0 (t : d9) : Option (Int × i9) := Option.bind (A9 t) fun | .inl fk2 => if (!((decide (fk2.1 = 0)) && (decide (fk2.2 = 0)))) = true then some (0, (⟨fk2.1, fk2.2⟩ : i9)) else none | .inr fk2 => if (!((decide (0 = 0)) && (decide (0 = 0)))) = true then some (0, (⟨0, 0⟩ : i9)) else Option.bind (K1 fk2.2.2.2 fk2.1 fk2.2.1 fk2.2.2.1) fun a19 => Option.bind (u9 fk2.1 fk2.2.1 fk2.2.2.1) fun a21 => some (Option.getD (mget a19 fk2.1) 0, (⟨0, 0⟩ : i9))
noncomputable def F0 (t : d9) (op : Int) : Option (Int × i9) := Option.bind (C5 t op) fun a11 => if (!((decide (a11.code = 0)) && (decide (a11.index = 0)))) = true then some (0, a11) else Option.bind (D7 t op) fun a19 => if (!((decide (a19.2.code = 0)) && (decide (a19.2.index = 0)))) = true then some (0, a19.2) else Option.bind (A0 a19.1) fun a27 => some (a27.1, a27.2)
abbrev Y2 (t : d9) : b8 := []
noncomputable def Y3 (t : d9) : Int → (List f5) → Option (List f5) := fun t56 c55 => Option.bind (ix t.operators t56) fun a20 => Option.bind (k6 a20.pre) fun a26 => Option.bind (k6 a20.add) fun a29 => Option.bind (k6 a20.del) fun a32 => Option.bind (app 80 c55 [(⟨a26, a29, a32, a20.cost⟩ : f5)]) fun a37 => some a37
noncomputable def L6 (t : d9) : Option ((List Int) × (List Int) × (List f5)) := Option.bind (k6 t.init) fun a10 => Option.bind (k6 t.goal) fun a13 => (Option.bind (forR 0 (t.operators.length : Int) (Y3 t) []) fun c55 => some (a10, a13, c55))
noncomputable def K4 (t : d9) (op : Int) : Option (d9 × i9) := Option.bind (x6 t op) fun a10 => if (!((decide (a10.code = 0)) && (decide (a10.index = 0)))) = true then some ((⟨0, [], [], []⟩ : d9), a10) else Option.bind (L6 t) fun a17 => Option.bind (delL a17.2.2 op (w64 (op + 1))) fun a23 => some ((⟨t.facts, a17.1, a17.2.1, a23⟩ : d9), (⟨0, 0⟩ : i9))
noncomputable def w8 (t : d9) (op : Int) : Option (Int × i9) := Option.bind (C5 t op) fun a11 => if (!((decide (a11.code = 0)) && (decide (a11.index = 0)))) = true then some (0, a11) else Option.bind (K4 t op) fun a19 => if (!((decide (a19.2.code = 0)) && (decide (a19.2.index = 0)))) = true then some (0, a19.2) else Option.bind (A0 a19.1) fun a27 => some (a27.1, a27.2)
def U8 (nv : Int) (low : Int) (high : Int) : Option Bool := some ((decide (low ≤ nv)) && (decide (nv ≤ high)))
def K2 (code : Int) (index : Int) : Option i9 := some (⟨code, index⟩ : i9)
def S9 (l : List Int) (nv : Int) : Int → Unit → Option (Unit ⊕ Bool) := fun iv3 _ => Option.bind (Option.bind (ix l iv3) fun a14 => Option.bind (U8 a14 0 (w64 (nv - 1))) fun a18 => if (!a18) = true then some true else if 0 < iv3 then Option.bind (ix l iv3) fun a26 => Option.bind (ix l (iv3 - 1)) fun a31 => some (decide (a26 ≤ a31)) else some false) fun t4 => if t4 = true then some (.inr false) else some (.inl ())
def F6 (l : List Int) (nv : Int) : Option Bool := (Option.bind (rngX 0 (l.length : Int) (S9 l nv) ()) fun | .inl _ => some true | .inr x => some x)
def af7 (l : List Int) (nv : Int) : Int → Unit → Option (Unit ⊕ Bool) := fun iv3 _ => Option.bind (ix l iv3) fun a14 => if a14 = nv then some (.inr true) else some (.inl ())
def J3 (l : List Int) (nv : Int) : Option Bool := (Option.bind (rngX 0 (l.length : Int) (af7 l nv) ()) fun | .inl _ => some false | .inr x => some x)
def U2 (av : List Int) (bv : List Int) : Int → Unit → Option (Unit ⊕ Bool) := fun iv3 _ => Option.bind (ix av iv3) fun a15 => Option.bind (J3 bv a15) fun a17 => if a17 = true then some (.inr false) else some (.inl ())
def N1 (av : List Int) (bv : List Int) : Option Bool := (Option.bind (rngX 0 (av.length : Int) (U2 av bv) ()) fun | .inl _ => some true | .inr x => some x)
def B5 (t : d9) : Int → Unit → Option (Unit ⊕ i9) := fun iv6 _ => Option.bind (ix t.operators iv6) fun a39 => Option.bind (Option.bind (F6 a39.pre t.facts) fun a45 => if (!a45) = true then some true else Option.bind (F6 a39.add t.facts) fun a52 => if (!a52) = true then some true else Option.bind (F6 a39.del t.facts) fun a60 => if (!a60) = true then some true else Option.bind (N1 a39.add a39.del) fun a68 => some (!a68)) fun t7 => if t7 = true then Option.bind (K2 5 iv6) fun a72 => some (.inr a72) else Option.bind (U8 a39.cost 0 100) fun a75 => if (!a75) = true then Option.bind (K2 3 iv6) fun a78 => some (.inr a78) else some (.inl ())
def G7 (t : d9) : Option i9 := Option.bind (U8 t.facts 0 24) fun a7 => if (!a7) = true then Option.bind (K2 3 (-1)) fun a9 => some a9 else Option.bind (F6 t.init t.facts) fun a14 => if (!a14) = true then Option.bind (K2 5 (-2)) fun a16 => some a16 else Option.bind (F6 t.goal t.facts) fun a21 => if (!a21) = true then Option.bind (K2 5 (-3)) fun a23 => some a23 else if 40 < (t.operators.length : Int) then Option.bind (K2 2 (-1)) fun a28 => some a28 else (Option.bind (rngX 0 (t.operators.length : Int) (B5 t) ()) fun | .inl _ => some (⟨0, 0⟩ : i9) | .inr x => some x)
def X0 (t : d9) (op : Int) : Option i9 := Option.bind (G7 t) fun a7 => Option.bind (Option.bind (if a7.code = 0 then Option.bind (U8 op 0 ((t.operators.length : Int) - 1)) fun a17 => some (!a17) else some false) fun t6 => if t6 = true then Option.bind (K2 3 (-6)) fun a20 => some (a20.code, a20.index) else some (a7.code, a7.index)) fun ⟨c3, c4⟩ => some (⟨c3, c4⟩ : i9)
def V1 : Option d9 := some (⟨2, [0], [1], [(⟨[0], [1], [0], 1⟩ : f5), (⟨[], [1], [], 3⟩ : f5)]⟩ : d9)
def T0 (cost : Int) (least : Int) : Option Int := if cost = 1000000000 then some 1000000000 else some (w64 (cost - least))
noncomputable def Q6 (t : d9) (op : Int) : Option (Int × Int × i9) := Option.bind (C5 t op) fun a13 => if (!((decide (a13.code = 0)) && (decide (a13.index = 0)))) = true then some (0, 0, a13) else Option.bind (A0 t) fun a20 => if (!((decide (a20.2.code = 0)) && (decide (a20.2.index = 0)))) = true then some (0, 0, a20.2) else Option.bind (F0 t op) fun a30 => if (!((decide (a30.2.code = 0)) && (decide (a30.2.index = 0)))) = true then some (0, 0, a30.2) else Option.bind (w8 t op) fun a40 => if (!((decide (a40.2.code = 0)) && (decide (a40.2.index = 0)))) = true then some (0, 0, a40.2) else if a20.1 = 1000000000 then some (0, 0, (⟨15, -1⟩ : i9)) else Option.bind (T0 a30.1 a20.1) fun a54 => Option.bind (T0 a40.1 a20.1) fun a57 => some (a54, a57, a40.2)
noncomputable def G2 : Option Bool := Option.bind (V1) fun a9 => Option.bind (F0 a9 1) fun a10 => Option.bind (V1) fun a14 => Option.bind (w8 a14 0) fun a15 => Option.bind (V1) fun a19 => Option.bind (Q6 a19 0) fun a20 => some (((((((decide (a10.2.code = 0)) && (decide (a15.2.code = 0))) && (decide (a20.2.2.code = 0))) && (decide (a10.1 = 3))) && (decide (a15.1 = 3))) && (decide (a20.1 = 0))) && (decide (a20.2.1 = 2)))
def W9 (sv : List Int) : Int → Int → Option Int := fun iv3 w2 => Option.bind (ix sv iv3) fun a14 => Option.bind (chk0 ((IntKind.u64).wrap a14)) fun u17 => some (w64 (w2 + (shlW .i64 1 ((IntKind.u64).wrap a14))))
def I1 (sv : List Int) : Option Int := (Option.bind (forR 0 (sv.length : Int) (W9 sv) 0) fun w2 => some w2)
def Y4 (part : List Int) (l : List Int) : Int → Unit → Option (Unit ⊕ Bool) := fun iv3 _ => Option.bind (ix part iv3) fun a15 => Option.bind (J3 l a15) fun a17 => if (!a17) = true then some (.inr false) else some (.inl ())
def N6 (part : List Int) (l : List Int) : Option Bool := (Option.bind (rngX 0 (part.length : Int) (Y4 part l) ()) fun | .inl _ => some true | .inr x => some x)
def J8 (t : d9) (sv : List Int) (op : Int) : Option Bool := Option.bind (ix t.operators op) fun a10 => Option.bind (N6 a10.pre sv) fun a14 => some a14
def ab1 (t : d9) (sv : List Int) (op : Int) : Int → (List Int) → Option (List Int) := fun p5 c4 => Option.bind (Option.bind (Option.bind (ix t.operators op) fun a18 => Option.bind (J3 a18.add p5) fun a22 => if a22 = true then some true else Option.bind (J3 sv p5) fun a26 => if a26 = true then Option.bind (ix t.operators op) fun a31 => Option.bind (J3 a31.del p5) fun a35 => some (!a35) else some false) fun t8 => if t8 = true then Option.bind (app 8 c4 [p5]) fun a42 => some a42 else some c4) fun c6 => some c6
def R2 (t : d9) (sv : List Int) (op : Int) : Option (List Int) := if t.facts ≤ 9223372036854775807 then (Option.bind (forR 0 t.facts (ab1 t sv op) []) fun c4 => some c4) else none
def C1 : ((List (List Int)) × (List Int)) → Option (((List (List Int)) × (List Int)) ⊕ ((List (List Int)) × Bool)) := fun (c11, c12) => some (.inl (c11, c12))
def z7 (t : d9) (iv5 : Int) : Int → ((List (List Int)) × (List Int)) → Option (((List (List Int)) × (List Int)) ⊕ ((List (List Int)) × Bool)) := fun op10 (c8, c9) => Option.bind (ix c8 iv5) fun a32 => Option.bind (J8 t a32 op10) fun a35 => if (!a35) = true then C1 (c8, c9) else Option.bind (ix c8 iv5) fun a40 => Option.bind (R2 t a40 op10) fun a43 => Option.bind (I1 a43) fun a46 => Option.bind (J3 c9 a46) fun a47 => if a47 = true then C1 (c8, c9) else if (c8.length : Int) = 2000 then some (.inr ([], false)) else Option.bind (app 24 c8 [a43]) fun a54 => Option.bind (I1 a43) fun a57 => Option.bind (app 8 c9 [a57]) fun a59 => C1 (a54, a59)
def H4 (t : d9) : ((List (List Int)) × (List Int) × Int) → Option (((List (List Int)) × (List Int) × Int) ⊕ ((List (List Int)) ⊕ ((List (List Int)) × Bool))) := fun (c3, c4, iv5) => if iv5 < (c3.length : Int) then (Option.bind (rngX 0 (t.operators.length : Int) (z7 t iv5) (c3, c4)) fun | .inl (c8, c9) => some (.inl (c8, c9, w64 (iv5 + 1))) | .inr x => some (.inr (.inr x))) else some (.inr (.inl c3))
noncomputable def L9 (t : d9) (sv : List Int) : Option ((List (List Int)) × Bool) := Option.bind (I1 sv) fun a14 => Option.bind (Loop (H4 t) ([sv], [a14], 0)) fun | .inl c6 => some (c6, true) | .inr x => some x
noncomputable def K5 (t : d9) : Option ((List (List Int)) × Bool) := Option.bind (L9 t t.init) fun a7 => some (a7.1, a7.2)
def P1 (t : d9) (op : Int) : Option d9 := Option.bind (subL t.operators 0 op) fun a11 => Option.bind (app 80 ([] : List f5) a11) fun a12 => Option.bind (subL t.operators (w64 (op + 1)) (t.operators.length : Int)) fun a17 => Option.bind (app 80 a12 a17) fun a18 => some (⟨t.facts, t.init, t.goal, a18⟩ : d9)
def M7 (t : d9) (l : List (List Int)) : Int → ((List Int) × (List Int)) → Option ((List Int) × (List Int)) := fun iv5 (c3, c4) => Option.bind (Option.bind (ix l iv5) fun a26 => Option.bind (I1 a26) fun a28 => Option.bind (app 8 c4 [a28]) fun a30 => Option.bind (ix l iv5) fun a35 => Option.bind (N6 t.goal a35) fun a37 => if a37 = true then Option.bind (app 8 c3 [0]) fun a40 => some (a30, a40) else Option.bind (app 8 c3 [1000000000]) fun a43 => some (a30, a43)) fun ⟨c6, c7⟩ => some (c7, c6)
def H7 (t : d9) (c4 : List Int) (iv13 : Int) (op17 : Int) (a71 : Int) : Int → ((List Int) × (List Int) × (List Int)) → Option ((List Int) × (List Int) × (List Int)) := fun kv26 (c23, c24, c25) => Option.bind (Option.bind (ix c4 kv26) fun a80 => if a80 = a71 then Option.bind (app 8 c23 [iv13]) fun a87 => Option.bind (app 8 c24 [kv26]) fun a91 => Option.bind (ix t.operators op17) fun a96 => Option.bind (app 8 c25 [a96.cost]) fun a100 => some (a87, a91, a100) else some (c23, c24, c25)) fun ⟨c27, c28, c29⟩ => some (c27, c28, c29)
def N3 (t : d9) (l : List (List Int)) (c4 : List Int) (iv13 : Int) : Int → ((List Int) × (List Int) × (List Int)) → Option ((List Int) × (List Int) × (List Int)) := fun op17 (c14, c15, c16) => Option.bind (Option.bind (ix l iv13) fun a60 => Option.bind (J8 t a60 op17) fun a63 => if a63 = true then Option.bind (ix l iv13) fun a67 => Option.bind (R2 t a67 op17) fun a70 => Option.bind (I1 a70) fun a71 => (Option.bind (forR 0 (c4.length : Int) (H7 t c4 iv13 op17 a71) (c14, c15, c16)) fun ⟨c23, c24, c25⟩ => some (c23, c24, c25)) else some (c14, c15, c16)) fun ⟨c18, c19, c20⟩ => some (c18, c19, c20)
def M9 (t : d9) (l : List (List Int)) (c4 : List Int) : Int → ((List Int) × (List Int) × (List Int)) → Option ((List Int) × (List Int) × (List Int)) := fun iv13 (c10, c11, c12) => (Option.bind (forR 0 (t.operators.length : Int) (N3 t l c4 iv13) (c10, c11, c12)) fun ⟨c14, c15, c16⟩ => some (c14, c15, c16))
def M4 (c10 : List Int) (c11 : List Int) (c12 : List Int) : Int → ((List Int) × Bool) → Option ((List Int) × Bool) := fun av38 (c36, again37) => Option.bind (Option.bind (Option.bind (ix c11 av38) fun a111 => Option.bind (ix c36 a111) fun a113 => if a113 < 1000000000 then Option.bind (ix c11 av38) fun a120 => Option.bind (ix c36 a120) fun a122 => Option.bind (ix c12 av38) fun a126 => Option.bind (ix c10 av38) fun a132 => Option.bind (ix c36 a132) fun a134 => some (decide (w64 (a122 + a126) < a134)) else some false) fun t42 => if t42 = true then Option.bind (ix c10 av38) fun a141 => Option.bind (ix c11 av38) fun a146 => Option.bind (ix c36 a146) fun a148 => Option.bind (ix c12 av38) fun a152 => Option.bind (ix c36 a141) fun a155 => some (c36.set a141.toNat (w64 (a148 + a152)), true) else some (c36, again37)) fun ⟨c39, again40⟩ => some (c39, again40)
def M8 (c10 : List Int) (c11 : List Int) (c12 : List Int) : ((List Int) × Bool) → Option (((List Int) × Bool) ⊕ (List Int)) := fun (c32, again33) => if again33 = true then (Option.bind (forR 0 (c10.length : Int) (M4 c10 c11 c12) (c32, false)) fun ⟨c36, again37⟩ => some (.inl (c36, again37))) else some (.inr c32)
noncomputable def X2 (t : d9) (l : List (List Int)) : Option (List Int) := (Option.bind (forR 0 (l.length : Int) (M7 t l) ([], [])) fun ⟨c3, c4⟩ => (Option.bind (forR 0 (l.length : Int) (M9 t l c4) ([], [], [])) fun ⟨c10, c11, c12⟩ => Option.bind (Loop (M8 c10 c11 c12) (c3, true)) fun c34 => some c34))
noncomputable def O7 (t : d9) : Option Int := Option.bind (K5 t) fun a7 => if (!a7.2) = true then some (-1) else Option.bind (X2 t a7.1) fun a14 => Option.bind (ix a14 0) fun a15 => some a15
def D8 : (List Int) → Option ((List Int) ⊕ ((List Int) × i9)) := fun c7 => some (.inl c7)
noncomputable def E0 (t : d9) : Int → (List Int) → Option ((List Int) ⊕ ((List Int) × i9)) := fun t6 c5 => Option.bind (w8 t t6) fun a40 => if (!((decide (a40.2.code = 0)) && (decide (a40.2.index = 0)))) = true then some (.inr ([], a40.2)) else if a40.1 = 1000000000 then Option.bind (app 8 c5 [t6]) fun a52 => D8 a52 else D8 c5
noncomputable def D3 (t : d9) : Option ((List Int) × i9) := Option.bind (p9 t) fun a12 => if (!((decide (a12.code = 0)) && (decide (a12.index = 0)))) = true then some ([], a12) else Option.bind (A0 t) fun a19 => if (!((decide (a19.2.code = 0)) && (decide (a19.2.index = 0)))) = true then some ([], a19.2) else if a19.1 = 1000000000 then some ([], (⟨15, -1⟩ : i9)) else (Option.bind (rngX 0 (t.operators.length : Int) (E0 t) []) fun | .inl c5 => some (c5, (⟨0, 0⟩ : i9)) | .inr x => some x)
def M0 (av : List Int) (bv : List Int) : Int → Unit → Option (Unit ⊕ Bool) := fun iv4 _ => Option.bind (ix av iv4) fun a19 => Option.bind (ix bv iv4) fun a23 => if a19 = a23 then some (.inl ()) else some (.inr false)
def N2 (av : List Int) (bv : List Int) : Option Bool := if (av.length : Int) = (bv.length : Int) then (Option.bind (rngX 0 (av.length : Int) (M0 av bv) ()) fun | .inl _ => some true | .inr x => some x) else some false
noncomputable def o9 (t : d9) : Int → (List Int) → Option (List Int) := fun op14 c13 => Option.bind (Option.bind (P1 t op14) fun a67 => Option.bind (O7 a67) fun a68 => if a68 = 1000000000 then Option.bind (app 8 c13 [op14]) fun a73 => some a73 else some c13) fun c15 => some c15
noncomputable def s8 (t : d9) : Option Bool := Option.bind (D3 t) fun a12 => Option.bind (G7 t) fun a16 => if a16.code = 0 then Option.bind (K5 t) fun a33 => if ((!a33.2) || (decide (300 < (a33.1.length : Int)))) = true then Option.bind (G2) fun a43 => some a43 else Option.bind (O7 t) fun a45 => if a45 = 1000000000 then Option.bind (Option.bind (K2 15 (-1)) fun a48 => if ((decide (a12.2.code = a48.code)) && (decide (a12.2.index = a48.index))) = true then if (a12.1.length : Int) = 0 then Option.bind (G2) fun a56 => some a56 else some false else some false) fun t9 => some t9 else (Option.bind (forR 0 (t.operators.length : Int) (o9 t) []) fun c13 => Option.bind (if a12.2.code = 0 then Option.bind (N2 a12.1 c13) fun a80 => if a80 = true then Option.bind (G2) fun a83 => some a83 else some false else some false) fun t18 => some t18) else Option.bind (if ((decide (a12.2.code = a16.code)) && (decide (a12.2.index = a16.index))) = true then if (a12.1.length : Int) = 0 then Option.bind (G2) fun a29 => some a29 else some false else some false) fun t3 => some t3
end Ab
end
section
namespace Ab
open Go
theorem eOk1 {n t : Nat} {v : T} {r : Env} (h : v.ok n = true) (hr : envOk n r = true) : envOk n ((t, v) :: r) = true := by
 simp only [envOk, h, hr, Bool.and_self]
section
open Go.Proofs
variable {P : Program} {σ0 : b8} {sz : Nat} {Q : Post} {env : Env} {σv : b8} {ops : Array Oper} {rest : List Oper}
end
end Ab
end
section
namespace Go.Proofs
open Go.Shelf
open Try
def Try.laysSlF6_f55_ren : Go.Shelf.Ren := ⟨fun | 6 => 55 | 15 => 73 | 14 => 72 | 28 => 90 | 29 => 91 | 20 => 82 | 21 => 83 | 22 => 84 | 23 => 85 | 24 => 86 | 25 => 87 | 26 => 88 | 27 => 89 | 46 => 99 | 47 => 100 | 48 => 101 | 49 => 102 | 50 => 103 | 57 => 109 | n => n, fun | 22 => 66 | 24 => 71 | 25 => 84 | 3 => 3 | 39 => 108 | 0 => 0 | 53 => 71 | 55 => 143 | 4 => 4 | 46 => 135 | 45 => 134 | 50 => 139 | 5 => 5 | 9 => 9 | 66 => 154 | 70 => 158 | 76 => 163 | 77 => 164 | n => n, fun | n => n⟩
theorem Try.laysSlF6_f55 : Go.Proofs.SlLaysF.n6 prog Try.laysSlF6_f55_ren := {
 mixed := by kernel_rfl
 f6 := ⟨Try.f55.name, by decide, func55.trans (congrArg some (by kernel_rfl))⟩
 f14 := ⟨Try.f72.name, by decide, func72.trans (congrArg some (by kernel_rfl))⟩
 f15 := func73.trans (congrArg some (by kernel_rfl))
 f20 := ⟨Try.f82.name, by decide, func82.trans (congrArg some (by kernel_rfl))⟩
 f21 := ⟨Try.f83.name, by decide, func83.trans (congrArg some (by kernel_rfl))⟩
 f22 := ⟨Try.f84.name, by decide, func84.trans (congrArg some (by kernel_rfl))⟩
 f23 := ⟨Try.f85.name, by decide, func85.trans (congrArg some (by kernel_rfl))⟩
 f24 := ⟨Try.f86.name, by decide, func86.trans (congrArg some (by kernel_rfl))⟩
 f25 := ⟨Try.f87.name, by decide, func87.trans (congrArg some (by kernel_rfl))⟩
 f26 := ⟨Try.f88.name, by decide, func88.trans (congrArg some (by kernel_rfl))⟩
 f27 := ⟨Try.f89.name, by decide, func89.trans (congrArg some (by kernel_rfl))⟩
 f28 := func90.trans (congrArg some (by kernel_rfl))
 f29 := func91.trans (congrArg some (by kernel_rfl))
 f46 := ⟨Try.f99.name, by decide, func99.trans (congrArg some (by kernel_rfl))⟩
 f47 := func100.trans (congrArg some (by kernel_rfl))
 f48 := func101.trans (congrArg some (by kernel_rfl))
 f49 := ⟨Try.f102.name, by decide, func102.trans (congrArg some (by kernel_rfl))⟩
 f50 := ⟨Try.f103.name, by decide, func103.trans (congrArg some (by kernel_rfl))⟩
 f57 := ⟨Try.f109.name, by decide, func109.trans (congrArg some (by kernel_rfl))⟩
 t0 := underlying0
 a0 := isAgg0
 z0 := sizeOf0
 v0 := zeroValue0
 t3 := underlying3
 a3 := isAgg3
 z3 := sizeOf3
 v3 := zeroValue3
 t4 := underlying4
 a4 := isAgg4
 z4 := sizeOf4
 v4 := zeroValue4
 t5 := underlying5
 a5 := isAgg5
 z5 := sizeOf5
 v5 := zeroValue5
 t9 := underlying9
 a9 := isAgg9
 z9 := sizeOf9
 v9 := zeroValue9
 t22 := underlying66
 a22 := isAgg66
 z22 := sizeOf66
 v22 := zeroValue66
 a24 := isAgg71
 z24 := sizeOf71
 t25 := underlying84
 a25 := isAgg84
 z25 := sizeOf84
 v25 := zeroValue84
 t39 := underlying108
 a39 := isAgg108
 z39 := sizeOf108
 v39 := zeroValue108
 t45 := underlying134
 a45 := isAgg134
 z45 := sizeOf134
 v45 := zeroValue134
 t46 := underlying135
 a46 := isAgg135
 z46 := sizeOf135
 v46 := zeroValue135
 t50 := underlying139
 a50 := isAgg139
 z50 := sizeOf139
 v50 := zeroValue139
 t53 := underlying71
 a53 := isAgg71
 z53 := sizeOf71
 v53 := zeroValue71
 t55 := underlying143
 a55 := isAgg143
 z55 := sizeOf143
 v55 := zeroValue143
 t66 := underlying154
 a66 := isAgg154
 z66 := sizeOf154
 v66 := zeroValue154
 t70 := underlying158
 a70 := isAgg158
 z70 := sizeOf158
 v70 := zeroValue158
 t76 := underlying163
 a76 := isAgg163
 z76 := sizeOf163
 v76 := zeroValue163
 t77 := underlying164
 a77 := isAgg164
 z77 := sizeOf164
 v77 := zeroValue164 }
open Go.RowKit Go.Lib Go.Sort in
theorem Try.slices_SortFunc {α : Type} [Inhabited α] (enc : α → Value) (h1 : OneCell enc) (cf : α → α → Int) (hO : SWO (ltOf cf)) (g : Nat) (cb : Array Value) (blk off cap : Nat) (d : Array α) (w : World) (eg : ∀ args w, (callFunc g args).run prog w = .ok (.enter g args) w) (hcmp : CmpLays1 prog g cb enc cf blk off d.size w) (hH : Holds enc w blk off d) (hblk : blk < w.heap.size) (hsz : d.size < 4611686018427387904) :
  Calls prog 55 #[.slice (some ⟨blk, off, none⟩) d.size cap, .func (.func g) #[] cb] w fun e w' =>
   e = .returned (.tuple #[]) ∧ ∃ d' n os, PermIn 0 d.size d d' ∧ SortedIn (ltOf cf) 0 d.size d' ∧ w' = sortWorld enc w blk off n d' os := Any.slices_SortFunc Try.laysSlF6_f55 enc h1 cf hO g cb blk off cap d w eg hcmp hH hblk hsz
def Try.laysSlF06_f55_ren : Go.Shelf.Ren := ⟨fun | 6 => 55 | 15 => 73 | 14 => 72 | 28 => 90 | 29 => 91 | 20 => 82 | 21 => 83 | 22 => 84 | 23 => 85 | 24 => 86 | 25 => 87 | 26 => 88 | 27 => 89 | 46 => 99 | 47 => 100 | 48 => 101 | 49 => 102 | 50 => 103 | 57 => 109 | n => n, fun | 22 => 66 | 24 => 71 | 25 => 84 | 3 => 3 | 39 => 108 | 0 => 0 | 53 => 71 | 55 => 143 | 4 => 4 | 46 => 135 | 45 => 134 | 50 => 139 | 5 => 5 | 9 => 9 | 66 => 154 | 70 => 158 | 76 => 163 | 77 => 164 | n => n, fun | n => n⟩
theorem Try.laysSlF06_f55 : Go.Proofs.SlLaysF0.n6 prog Try.laysSlF06_f55_ren := {
 mixed := by kernel_rfl
 f6 := ⟨Try.f55.name, by decide, func55.trans (congrArg some (by kernel_rfl))⟩
 f14 := ⟨Try.f72.name, by decide, func72.trans (congrArg some (by kernel_rfl))⟩
 f15 := func73.trans (congrArg some (by kernel_rfl))
 f20 := ⟨Try.f82.name, by decide, func82.trans (congrArg some (by kernel_rfl))⟩
 f21 := ⟨Try.f83.name, by decide, func83.trans (congrArg some (by kernel_rfl))⟩
 f22 := ⟨Try.f84.name, by decide, func84.trans (congrArg some (by kernel_rfl))⟩
 f23 := ⟨Try.f85.name, by decide, func85.trans (congrArg some (by kernel_rfl))⟩
 f24 := ⟨Try.f86.name, by decide, func86.trans (congrArg some (by kernel_rfl))⟩
 f25 := ⟨Try.f87.name, by decide, func87.trans (congrArg some (by kernel_rfl))⟩
 f26 := ⟨Try.f88.name, by decide, func88.trans (congrArg some (by kernel_rfl))⟩
 f27 := ⟨Try.f89.name, by decide, func89.trans (congrArg some (by kernel_rfl))⟩
 f28 := func90.trans (congrArg some (by kernel_rfl))
 f29 := func91.trans (congrArg some (by kernel_rfl))
 f46 := ⟨Try.f99.name, by decide, func99.trans (congrArg some (by kernel_rfl))⟩
 f47 := func100.trans (congrArg some (by kernel_rfl))
 f48 := func101.trans (congrArg some (by kernel_rfl))
 f49 := ⟨Try.f102.name, by decide, func102.trans (congrArg some (by kernel_rfl))⟩
 f50 := ⟨Try.f103.name, by decide, func103.trans (congrArg some (by kernel_rfl))⟩
 f57 := ⟨Try.f109.name, by decide, func109.trans (congrArg some (by kernel_rfl))⟩
 t0 := underlying0
 a0 := isAgg0
 z0 := sizeOf0
 v0 := zeroValue0
 t3 := underlying3
 a3 := isAgg3
 z3 := sizeOf3
 v3 := zeroValue3
 t4 := underlying4
 a4 := isAgg4
 z4 := sizeOf4
 v4 := zeroValue4
 t5 := underlying5
 a5 := isAgg5
 z5 := sizeOf5
 v5 := zeroValue5
 t9 := underlying9
 a9 := isAgg9
 z9 := sizeOf9
 v9 := zeroValue9
 t22 := underlying66
 a22 := isAgg66
 z22 := sizeOf66
 v22 := zeroValue66
 t25 := underlying84
 a25 := isAgg84
 z25 := sizeOf84
 v25 := zeroValue84
 t39 := underlying108
 a39 := isAgg108
 z39 := sizeOf108
 v39 := zeroValue108
 t45 := underlying134
 a45 := isAgg134
 z45 := sizeOf134
 v45 := zeroValue134
 t46 := underlying135
 a46 := isAgg135
 z46 := sizeOf135
 v46 := zeroValue135
 t50 := underlying139
 a50 := isAgg139
 z50 := sizeOf139
 v50 := zeroValue139
 t53 := underlying71
 a53 := isAgg71
 z53 := sizeOf71
 v53 := zeroValue71
 t55 := underlying143
 a55 := isAgg143
 z55 := sizeOf143
 v55 := zeroValue143
 t66 := underlying154
 a66 := isAgg154
 z66 := sizeOf154
 v66 := zeroValue154
 t70 := underlying158
 a70 := isAgg158
 z70 := sizeOf158
 v70 := zeroValue158
 t76 := underlying163
 a76 := isAgg163
 z76 := sizeOf163
 v76 := zeroValue163
 t77 := underlying164
 a77 := isAgg164
 z77 := sizeOf164
 v77 := zeroValue164 }
open Go.RowKit Go.Lib Go.Sort in
theorem Try.slices_SortFunc_none {α : Type} [Inhabited α] (p : Option Addr) (cap : Nat) (fv : Value) (w : World) :
  Calls prog 55 #[.slice p 0 cap, fv] w fun e w' => e = .returned (.tuple #[]) ∧ w' = w := AnyF.slices_SortFunc_none Try.laysSlF06_f55 p cap fv w
end Go.Proofs
end
section
namespace Ab
open Go Go.Proofs
open Try
theorem sortU_facts : ac2 prog 55 := ⟨_, func55, rfl, rfl⟩
theorem sortF_Lu32_ok : SortFOk prog 55 := fun hgn hO hT hg _ _ _ hσ hl => sortF_fn sortU_facts hgn hO hT hg (fun β _ enc h1 cf hO g cb blk off cap d w eg hcmp hH hblk hsz => Try.slices_SortFunc enc h1 cf hO g cb blk off cap d w eg hcmp hH hblk hsz) (fun p cap fv w => Try.slices_SortFunc_none (α := Unit) p cap fv w) hσ hl
end Ab
end
section
namespace Ab
open Go Go.Proofs
end Ab
end
