/-
  HOW STORE AND WORLD CHANGE TOGETHER: a new block, a block written, a draw; addresses; what a slice value shows.
-/
import Derived.Test.YtfjbddjoagefkaaAb5
namespace Ab
open Go

theorem Kept.drew (w : World) (φ : Phi) (σ : Store) (A : Nat → Prop) : Kept w w.drew φ φ σ σ A A :=
  ⟨fun _ _ _ => rfl, fun _ h _ => h, Nat.le_refl _, fun _ _ es _ h => ⟨es, h, rfl, rfl, fun _ _ arr _ _ h2 => ⟨arr, h2, rfl⟩⟩, fun _ p _ h => ⟨rfl, p, h⟩⟩

theorem Rs.drew {Γ : Cx} {σ : Store} {φ : Phi} {w : World} (h : Rs Γ σ φ w) : Rs Γ σ φ w.drew :=
  { good := h.good, st := ⟨fun i b hi => (h.st.blk i b hi).mono (Kept.drew w φ σ _) (fun _ _ _ => rfl), h.st.inj⟩,
    keep := h.keep, os := h.os, tape := h.tape, output := h.output, size := h.size, block := h.block,
    kept := Kept.trans h.size h.kept (Kept.drew w φ σ _) }

/-- An environment over a changed world and store. -/
theorem R.of {Γ : Cx} {sz : Nat} {s : St} {φ φ' : Phi} {a : Act} {w w' : World} {σ' : Store} (h : R Γ sz s φ a w) (hk : Kept w w' φ φ' s.σ σ' (Al Γ.N φ s.σ) (Al Γ.N φ' σ')) (hs : Rs Γ σ' φ' w') : R Γ sz ⟨s.env, σ'⟩ φ' a w' :=
  { toRs := hs, defers := h.defers, asize := h.asize, env := fun t v ht => let ⟨u, hu, hr⟩ := h.env t v ht; ⟨u, hu, hr.mono hk⟩ }

def phiNew (n : Nat) (φ : Phi) (b : Nat) : Phi := fun i => if i = (n, []) then some (b, 0) else φ i

/-- A new block. -/
theorem Rs.alloc {Γ : Cx} {σ : Store} {φ : Phi} {w : World} (h : Rs Γ σ φ w) {k : Nat} {es : List (List C)} {arr : Array Value} {ety : TypeId} (hk : ∀ (j : Nat) (e : List C), es[j]? = some e → e.length = k) (hsz : es.length * k ≤ arr.size)
    (hc : ∀ (j : Nat) (e : List C) (o : Nat) (x : C), es[j]? = some e → e[o]? = some x → ∃ u, arr[j * k + o]? = some u ∧ RelC w φ σ (Al Γ.N φ σ) x u) :
    Kept w (w.alloc (.cells arr ety)) φ (phiNew σ.length φ w.heap.size) σ (σ ++ [.one (.cells k es)]) (Al Γ.N φ σ) (Al Γ.N (phiNew σ.length φ w.heap.size) (σ ++ [.one (.cells k es)])) ∧
    Rs Γ (σ ++ [.one (.cells k es)]) (phiNew σ.length φ w.heap.size) (w.alloc (.cells arr ety)) := by
  have old : ∀ b, b < w.heap.size → (w.alloc (.cells arr ety)).heap[b]? = w.heap[b]? := fun b hb => heap_alloc_old w _ hb
  have new : (w.alloc (.cells arr ety)).heap[w.heap.size]? = some (.cells arr ety (0, 0)) := heap_alloc_new w _
  have plo : ∀ i : Id, i.1 < σ.length → phiNew σ.length φ w.heap.size i = φ i := fun i hi => by
    have : i ≠ (σ.length, []) := fun e => by rw [e] at hi; exact Nat.lt_irrefl _ hi
    simp [phiNew, this]
  have pnew : phiNew σ.length φ w.heap.size (σ.length, []) = some (w.heap.size, 0) := by simp [phiNew]
  have cases2 : ∀ (i : Id) blk, (σ ++ [.one (.cells k es)])[i]? = some (some blk) → (i.1 < σ.length ∧ σ[i]? = some (some blk)) ∨ (i = (σ.length, []) ∧ blk = .cells k es) := fun i blk hi => Store.get_new hi
  have A1 : ∀ b, Al Γ.N φ σ b → b < w.heap.size → Al Γ.N (phiNew σ.length φ w.heap.size) (σ ++ [.one (.cells k es)]) b := fun b hb hl => ⟨hb.1, fun i blk base hi hp => by
    rcases cases2 i blk hi with ⟨h1, h2⟩ | ⟨rfl, rfl⟩
    · rw [plo i h1] at hp; exact hb.2 i blk base h2 hp
    · rw [pnew] at hp; cases hp; omega⟩
  have hK : Kept w (w.alloc (.cells arr ety)) φ (phiNew σ.length φ w.heap.size) σ (σ ++ [.one (.cells k es)]) (Al Γ.N φ σ) (Al Γ.N (phiNew σ.length φ w.heap.size) (σ ++ [.one (.cells k es)])) :=
    { imm := fun b _ hl => old b hl, all := A1, len := by simp,
      cells := fun i kk es' hi he => by
        rw [Store.get_left hi] at he
        exact ⟨es', he, rfl, plo i hi, fun b base arr ety hp hb => ⟨arr, (old b (Al.own_lt h.st he hp)).trans hb, rfl⟩⟩,
      obj := fun i p' hi he => by
        rw [Store.get_left hi] at he
        exact ⟨plo i hi, p', he⟩ }
  refine ⟨hK, ?_⟩
  exact {
    good := h.good
    st := ⟨fun i b hi => by
        rcases cases2 i b hi with ⟨h1, h2⟩ | ⟨rfl, rfl⟩
        · rw [plo i h1]
          exact (h.st.blk i b h2).mono hK fun g base hp => old g (Al.own_lt h.st h2 hp)
        · rw [pnew]
          refine .inr ⟨w.heap.size, 0, arr, ety, rfl, new, by omega, hk, fun j e o x he hx => ?_⟩
          obtain ⟨u, hu, hr⟩ := hc j e o x he hx
          exact ⟨u, by simpa using hu, hr.mono hK⟩,
      fun i j bi bj p q hi hj hp hq he => by
        obtain ⟨pb, po⟩ := p
        obtain ⟨qb, qo⟩ := q
        dsimp only at he
        subst he
        rcases cases2 i bi hi with ⟨h1, h2⟩ | ⟨rfl, rfl⟩ <;> rcases cases2 j bj hj with ⟨g1, g2⟩ | ⟨rfl, rfl⟩
        · rw [plo i h1] at hp; rw [plo j g1] at hq
          exact h.st.inj i j bi bj _ _ h2 g2 hp hq rfl
        · rw [plo i h1] at hp; rw [pnew] at hq; cases hq
          have := Al.own_lt h.st h2 hp; omega
        · rw [plo j g1] at hq; rw [pnew] at hp; cases hp
          have := Al.own_lt h.st g2 hq; omega
        · rfl⟩
    keep := fun i blk b base hi hp hKb => by
      rcases cases2 i blk hi with ⟨h1, h2⟩ | ⟨rfl, rfl⟩
      · rw [plo i h1] at hp; exact h.keep i blk b base h2 hp hKb
      · rw [pnew] at hp; cases hp
        have := hKb.1; have := h.size; omega
    os := h.os
    tape := h.tape
    output := h.output
    size := Nat.le_trans h.size (by simp)
    block := fun b hKb => (old b (Nat.lt_of_lt_of_le hKb.1 h.size)).trans (h.block b hKb)
    kept := Kept.trans h.size h.kept hK }

/-- A block written: of the same shape, what stands in it related. -/
theorem Rs.write {Γ : Cx} {σ : Store} {φ : Phi} {w : World} (h : Rs Γ σ φ w) {id : Id} {k b base : Nat} {es es' : List (List C)} {arr arr' : Array Value} {ety : TypeId} (hid : σ[id]? = some (some (.cells k es))) (hp : φ id = some (b, base))
    (hb : w.heap[b]? = some (.cells arr ety (0, 0))) (hl : es'.length = es.length) (hsz : arr'.size = arr.size) (hk : ∀ (j : Nat) (e : List C), es'[j]? = some e → e.length = k) (hsz' : base + es.length * k ≤ arr.size)
    (hc : ∀ (j : Nat) (e : List C) (o : Nat) (x : C), es'[j]? = some e → e[o]? = some x → ∃ u, arr'[base + (j * k + o)]? = some u ∧ RelC w φ σ (Al Γ.N φ σ) x u) :
    Kept w (w.setRow b arr') φ φ σ (σ.put id (some (.cells k es'))) (Al Γ.N φ σ) (Al Γ.N φ (σ.put id (some (.cells k es')))) ∧ Rs Γ (σ.put id (some (.cells k es'))) φ (w.setRow b arr') := by
  have new : (w.setRow b arr').heap[b]? = some (.cells arr' ety (0, 0)) := setRow_heap w b arr arr' ety (0, 0) hb
  have old : ∀ g, g ≠ b → (w.setRow b arr').heap[g]? = w.heap[g]? := fun g hg => setRow_other w b g arr' hg
  have hsize : (w.setRow b arr').heap.size = w.heap.size := by simp [World.setRow]
  have at_ : ∀ (i : Id) x, (σ.put id (some (.cells k es')))[i]? = some (some x) → (i = id ∧ x = .cells k es') ∨ (i ≠ id ∧ σ[i]? = some (some x)) := fun i x hi => by
    rcases Store.get_put hid hi with ⟨h1, h2⟩ | h
    · cases h2; exact .inl ⟨h1, rfl⟩
    · exact .inr h
  have other : ∀ (i : Id) blk g bs, i ≠ id → σ[i]? = some (some blk) → φ i = some (g, bs) → g ≠ b := fun i blk g bs hne hi hpi e => by
    subst e
    exact hne (h.st.inj i id _ _ _ _ hi hid hpi hp rfl)
  have A1 : ∀ g, Al Γ.N φ σ g → Al Γ.N φ (σ.put id (some (.cells k es'))) g := fun g hg => ⟨hg.1, fun i blk bs hi hpi => by
    rcases at_ i blk hi with ⟨rfl, _⟩ | ⟨_, hi⟩
    · exact hg.2 i _ bs hid hpi
    · exact hg.2 i blk bs hi hpi⟩
  have hK : Kept w (w.setRow b arr') φ φ σ (σ.put id (some (.cells k es'))) (Al Γ.N φ σ) (Al Γ.N φ (σ.put id (some (.cells k es')))) :=
    { imm := fun g hg _ => old g (fun e => by subst e; exact hg.2 id _ base hid hp), all := fun g hg _ => A1 g hg, len := by simp,
      cells := fun i kk es2 hi he => by
        rcases at_ i _ he with ⟨rfl, e⟩ | ⟨hne, he⟩
        · cases e
          refine ⟨es, hid, hl.symm, rfl, fun b2 base2 arr2 ety2 hp2 hb2 => ?_⟩
          rw [hp] at hp2; cases hp2
          rw [hb] at hb2; cases hb2
          exact ⟨arr', new, hsz⟩
        · refine ⟨es2, he, rfl, rfl, fun b2 base2 arr2 ety2 hp2 hb2 => ⟨arr2, ?_, rfl⟩⟩
          exact (old b2 (other i _ b2 base2 hne he hp2)).trans hb2,
      obj := fun i p' hi he => by
        rcases at_ i _ he with ⟨_, e⟩ | ⟨_, he⟩
        · cases e
        · exact ⟨rfl, p', he⟩ }
  refine ⟨hK, ?_⟩
  exact {
    good := h.good
    st := ⟨fun i bk hi => by
        rcases at_ i _ hi with ⟨rfl, e⟩ | ⟨hne, hi⟩
        · cases e
          rw [hp]
          refine .inr ⟨b, base, arr', ety, rfl, new, by rw [hl, hsz]; exact hsz', hk, fun j e o x he hx => ?_⟩
          obtain ⟨u, hu, hr⟩ := hc j e o x he hx
          exact ⟨u, hu, hr.mono hK⟩
        · exact (h.st.blk i bk hi).mono hK fun g bs hpi => old g (other i bk g bs hne hi hpi),
      fun i j bi bj p q hi hj hpi hqj he => by
        have alive : ∀ (i : Id) bi, (σ.put id (some (.cells k es')))[i]? = some (some bi) → ∃ b0, σ[i]? = some (some b0) := fun i bi hi => by
          rcases at_ i _ hi with ⟨rfl, _⟩ | ⟨_, hi⟩
          · exact ⟨_, hid⟩
          · exact ⟨_, hi⟩
        obtain ⟨b1, h1⟩ := alive i bi hi
        obtain ⟨b2, h2⟩ := alive j bj hj
        exact h.st.inj i j b1 b2 p q h1 h2 hpi hqj he⟩
    keep := fun i blk g bs hi hpi hKb => by
      rcases at_ i _ hi with ⟨rfl, _⟩ | ⟨_, hi⟩
      · exact h.keep i _ g bs hid hpi hKb
      · exact h.keep i blk g bs hi hpi hKb
    os := h.os
    tape := h.tape
    output := h.output
    size := by rw [hsize]; exact h.size
    block := fun g hKb => (old g (fun e => by subst e; exact h.keep id _ g base hid hp hKb)).trans (h.block g hKb)
    kept := Kept.trans h.size h.kept hK }

/-- A block is given up. -/
theorem Rs.kill {Γ : Cx} {σ : Store} {φ : Phi} {w : World} (h : Rs Γ σ φ w) (id : Id) :
    Kept w w φ φ σ (σ.put id none) (Al Γ.N φ σ) (Al Γ.N φ (σ.put id none)) ∧ Rs Γ (σ.put id none) φ w := by
  have at_ : ∀ (i : Id) b, (σ.put id none)[i]? = some (some b) → σ[i]? = some (some b) := fun i b hi => (Store.get_kill hi).2
  have hK : Kept w w φ φ σ (σ.put id none) (Al Γ.N φ σ) (Al Γ.N φ (σ.put id none)) :=
    { imm := fun _ _ _ => rfl, all := fun b hb _ => ⟨hb.1, fun i blk base hi => hb.2 i blk base (at_ i blk hi)⟩, len := by simp,
      cells := fun i k es hi he => ⟨es, at_ _ _ he, rfl, rfl, fun _ _ arr _ _ h2 => ⟨arr, h2, rfl⟩⟩,
      obj := fun i p hi he => ⟨rfl, p, at_ _ _ he⟩ }
  refine ⟨hK, ?_⟩
  exact
  { good := h.good, st := ⟨fun i b hi => (h.st.blk i b (at_ _ _ hi)).mono hK (fun _ _ _ => rfl), fun i j bi bj p q hi hj => h.st.inj i j bi bj p q (at_ _ _ hi) (at_ _ _ hj)⟩,
    keep := fun i blk b base hi => h.keep i blk b base (at_ _ _ hi), os := h.os, tape := h.tape, output := h.output, size := h.size, block := h.block, kept := Kept.trans h.size h.kept hK }

/-! ## Addresses -/

theorem add_add (a : Addr) (m n : Nat) : (a.add m).add n = a.add (m + n) := by
  unfold Addr.add
  by_cases hm : m = 0
  · subst hm; simp
  · by_cases hn : n = 0
    · subst hn; simp
    · simp [hm, hn]; omega

theorem run_sizeOf {P : Program} {t : TypeId} {size bytes : Nat} {z : Value} [h : TyS P t size bytes z] (w : World) : (Go.sizeOf t).run P w = .ok size w := by
  obtain ⟨i, h1, h2, _⟩ := h.h
  simp [Go.sizeOf, typeInfo, h1, h2]

theorem run_zero {P : Program} {t : TypeId} {size bytes : Nat} {z : Value} [h : TyS P t size bytes z] (w : World) : (zeroValue t).run P w = .ok z w := by
  obtain ⟨i, h1, _, _, h4⟩ := h.h
  simp [zeroValue, typeInfo, h1, h4]

/-- Cells that stand one behind the other. -/
theorem run_loadVar_agg {P : Program} {t : TypeId} {d : TypeDesc} {size bytes : Nat} {z : Value} [hd : TyD P t d] [hs : TyS P t size bytes z] (ha : isAggD d = true) {w : World} {a : Addr} {us : List Value} (hl : us.length = size)
    (h : ∀ (j : Nat) (v : Value), us[j]? = some v → w.cell? (a.add j) = some v) : (loadVar t a).run P w = .ok (.agg us.toArray) w := by
  have := run_loadCells_list (P := P) w a us h
  subst hl
  simp [loadVar, run_isAgg hd.h, ha, run_sizeOf, this]

theorem run_loadVar_one {P : Program} {t : TypeId} {d : TypeDesc} [hd : TyD P t d] (ha : isAggD d = false) {w : World} {a : Addr} {u : Value} (h : w.cell? a = some u) : (loadVar t a).run P w = .ok u w := by
  simp [loadVar, run_isAgg hd.h, ha, h]

end Ab
