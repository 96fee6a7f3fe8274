/-
  APPEND, make, a slice of a slice, calls.
-/
import Derived.Test.YtfjbddjoagefkaaAb7
namespace Ab
open Go

/-- A block that is written beyond what it showed, and takes a new number. -/
theorem Rs.reown {Γ : Cx} {σ : Store} {φ : Phi} {w : World} (h : Rs Γ σ φ w) {id : Id} {k k0 b base base' : Nat} {es0 es' : List (List C)} {arr arr' : Array Value} {ety : TypeId} (hid : σ[id]? = some (some (.cells k0 es0))) (hp : φ id = some (b, base))
    (hb : w.heap[b]? = some (.cells arr ety (0, 0))) (hk : ∀ (j : Nat) (e : List C), es'[j]? = some e → e.length = k) (hsz' : base' + es'.length * k ≤ arr'.size)
    (hc : ∀ (j : Nat) (e : List C) (o : Nat) (x : C), es'[j]? = some e → e[o]? = some x → ∃ u, arr'[base' + (j * k + o)]? = some u ∧ RelC w φ σ (Al Γ.N φ σ) x u) :
    Kept w (w.setRow b arr') φ (fun i => if i = (σ.length, []) then some (b, base') else φ i) σ (σ.put id none ++ [.one (.cells k es')]) (Al Γ.N φ σ) (Al Γ.N (fun i => if i = (σ.length, []) then some (b, base') else φ i) (σ.put id none ++ [.one (.cells k es')])) ∧
    Rs Γ (σ.put id none ++ [.one (.cells k es')]) (fun i => if i = (σ.length, []) then some (b, base') else φ i) (w.setRow b arr') := by
  generalize hφ : (fun i => if i = (σ.length, []) then some (b, base') else φ i) = φ'
  have hidl : id.1 < σ.length := Store.lt_of hid
  have new : (w.setRow b arr').heap[b]? = some (.cells arr' ety (0, 0)) := setRow_heap w b arr arr' ety (0, 0) hb
  have old : ∀ g, g ≠ b → (w.setRow b arr').heap[g]? = w.heap[g]? := fun g hg => setRow_other w b g arr' hg
  have hsize : (w.setRow b arr').heap.size = w.heap.size := by simp [World.setRow]
  have plo : ∀ i : Id, i.1 < σ.length → φ' i = φ i := fun i hi => by
    have : i ≠ (σ.length, []) := fun e => by rw [e] at hi; exact Nat.lt_irrefl _ hi
    rw [← hφ]; simp [this]
  have pnew : φ' (σ.length, []) = some (b, base') := by rw [← hφ]; simp
  have cases2 : ∀ (i : Id) blk, (σ.put id none ++ [.one (.cells k es')])[i]? = some (some blk) → (i.1 < σ.length ∧ i ≠ id ∧ σ[i]? = some (some blk)) ∨ (i = (σ.length, []) ∧ blk = .cells k es') := fun i blk hi => by
    rcases Store.get_new hi with ⟨h1, h2⟩ | ⟨h1, h2⟩
    · rw [Store.length_put] at h1
      exact .inl ⟨h1, Store.get_kill h2⟩
    · rw [Store.length_put] at h1
      exact .inr ⟨h1, h2⟩
  have other : ∀ (i : Id) blk g bs, i ≠ id → σ[i]? = some (some blk) → φ i = some (g, bs) → g ≠ b := fun i blk g bs hne hi hpi e => by
    subst e
    exact hne (h.st.inj i id _ _ _ _ hi hid hpi hp rfl)
  have A1 : ∀ g, Al Γ.N φ σ g → Al Γ.N φ' (σ.put id none ++ [.one (.cells k es')]) g := fun g hg => ⟨hg.1, fun i blk bs hi hpi => by
    rcases cases2 i blk hi with ⟨h1, _, h2⟩ | ⟨rfl, rfl⟩
    · rw [plo i h1] at hpi; exact hg.2 i blk bs h2 hpi
    · rw [pnew] at hpi; cases hpi; exact hg.2 id _ base hid hp⟩
  have hK : Kept w (w.setRow b arr') φ φ' σ (σ.put id none ++ [.one (.cells k es')]) (Al Γ.N φ σ) (Al Γ.N φ' (σ.put id none ++ [.one (.cells k es')])) :=
    { imm := fun g hg _ => old g (fun e => by subst e; exact hg.2 id _ base hid hp), all := fun g hg _ => A1 g hg, len := by simp,
      cells := fun i kk es2 hi he => by
        rcases cases2 i _ he with ⟨h1, hne, h2⟩ | ⟨rfl, _⟩
        · exact ⟨es2, h2, rfl, plo i h1, fun b2 base2 arr2 ety2 hp2 hb2 => ⟨arr2, (old b2 (other i _ b2 base2 hne h2 hp2)).trans hb2, rfl⟩⟩
        · omega,
      obj := fun i p' hi he => by
        rcases cases2 i _ he with ⟨h1, hne, h2⟩ | ⟨rfl, _⟩
        · exact ⟨plo i h1, p', h2⟩
        · omega }
  refine ⟨hK, ?_⟩
  exact {
    good := h.good
    st := ⟨fun i bk hi => by
        rcases cases2 i bk hi with ⟨h1, hne, h2⟩ | ⟨rfl, rfl⟩
        · rw [plo i h1]
          exact (h.st.blk i bk h2).mono hK fun g bs hpi => old g (other i bk g bs hne h2 hpi)
        · rw [pnew]
          refine .inr ⟨b, base', arr', ety, rfl, new, hsz', hk, fun j e o x he hx => ?_⟩
          obtain ⟨u, hu, hr⟩ := hc j e o x he hx
          exact ⟨u, hu, hr.mono hK⟩,
      fun i j bi bj p q hi hj hpi hqj he => by
        obtain ⟨pb, po⟩ := p
        obtain ⟨qb, qo⟩ := q
        dsimp only at he
        subst he
        rcases cases2 i bi hi with ⟨h1, hne, h2⟩ | ⟨rfl, rfl⟩ <;> rcases cases2 j bj hj with ⟨g1, gne, g2⟩ | ⟨rfl, rfl⟩
        · rw [plo i h1] at hpi; rw [plo j g1] at hqj
          exact h.st.inj i j bi bj _ _ h2 g2 hpi hqj rfl
        · rw [plo i h1] at hpi; rw [pnew] at hqj; cases hqj
          exact absurd rfl (other i bi _ _ hne h2 hpi)
        · rw [plo j g1] at hqj; rw [pnew] at hpi; cases hpi
          exact absurd rfl (other j bj _ _ gne g2 hqj)
        · rfl⟩
    keep := fun i blk g bs hi hpi hKb => by
      rcases cases2 i blk hi with ⟨h1, hne, h2⟩ | ⟨rfl, rfl⟩
      · rw [plo i h1] at hpi; exact h.keep i blk g bs h2 hpi hKb
      · rw [pnew] at hpi; cases hpi; exact h.keep id _ b base hid hp hKb
    os := h.os
    tape := h.tape
    output := h.output
    size := by rw [hsize]; exact h.size
    block := fun g hKb => (old g (fun e => by subst e; exact h.keep id _ g base hid hp hKb)).trans (h.block g hKb)
    kept := Kept.trans h.size h.kept hK }

/-- A block that is not there yet: nothing has been appended to nil. -/
theorem Rs.virt {Γ : Cx} {σ : Store} {φ : Phi} {w : World} (h : Rs Γ σ φ w) (k : Nat) :
    Kept w w φ (fun i => if i = (σ.length, []) then none else φ i) σ (σ ++ [.one (.cells k [])]) (Al Γ.N φ σ) (Al Γ.N (fun i => if i = (σ.length, []) then none else φ i) (σ ++ [.one (.cells k [])])) ∧
    Rs Γ (σ ++ [.one (.cells k [])]) (fun i => if i = (σ.length, []) then none else φ i) w := by
  generalize hφ : (fun i => if i = (σ.length, []) then none else φ i) = φ'
  have plo : ∀ i : Id, i.1 < σ.length → φ' i = φ i := fun i hi => by
    have : i ≠ (σ.length, []) := fun e => by rw [e] at hi; exact Nat.lt_irrefl _ hi
    rw [← hφ]; simp [this]
  have pnew : φ' (σ.length, []) = none := by rw [← hφ]; simp
  have cases2 : ∀ (i : Id) blk, (σ ++ [.one (.cells k [])])[i]? = some (some blk) → (i.1 < σ.length ∧ σ[i]? = some (some blk)) ∨ (i = (σ.length, []) ∧ blk = .cells k []) := fun i blk hi => Store.get_new hi
  have A1 : ∀ b, Al Γ.N φ σ b → Al Γ.N φ' (σ ++ [.one (.cells k [])]) b := fun b hb => ⟨hb.1, fun i blk base hi hp => by
    rcases cases2 i blk hi with ⟨h1, h2⟩ | ⟨rfl, rfl⟩
    · rw [plo i h1] at hp; exact hb.2 i blk base h2 hp
    · rw [pnew] at hp; cases hp⟩
  have hK : Kept w w φ φ' σ (σ ++ [.one (.cells k [])]) (Al Γ.N φ σ) (Al Γ.N φ' (σ ++ [.one (.cells k [])])) :=
    { imm := fun _ _ _ => rfl, all := fun b hb _ => A1 b hb, len := by simp,
      cells := fun i kk es' hi he => by
        rw [Store.get_left hi] at he
        exact ⟨es', he, rfl, plo i hi, fun b base arr ety hp hb => ⟨arr, hb, rfl⟩⟩,
      obj := fun i p' hi he => by
        rw [Store.get_left hi] at he
        exact ⟨plo i hi, p', he⟩ }
  refine ⟨hK, ?_⟩
  exact {
    good := h.good
    st := ⟨fun i b hi => by
        rcases cases2 i b hi with ⟨h1, h2⟩ | ⟨rfl, rfl⟩
        · rw [plo i h1]
          exact (h.st.blk i b h2).mono hK fun _ _ _ => rfl
        · rw [pnew]; exact .inl ⟨rfl, rfl⟩,
      fun i j bi bj p q hi hj hp hq he => by
        rcases cases2 i bi hi with ⟨h1, h2⟩ | ⟨rfl, rfl⟩ <;> rcases cases2 j bj hj with ⟨g1, g2⟩ | ⟨rfl, rfl⟩
        · rw [plo i h1] at hp; rw [plo j g1] at hq
          exact h.st.inj i j bi bj _ _ h2 g2 hp hq he
        · rw [pnew] at hq; cases hq
        · rw [pnew] at hp; cases hp
        · rfl⟩
    keep := fun i blk b base hi hp hKb => by
      rcases cases2 i blk hi with ⟨h1, h2⟩ | ⟨rfl, rfl⟩
      · rw [plo i h1] at hp; exact h.keep i blk b base h2 hp hKb
      · rw [pnew] at hp; cases hp
    os := h.os
    tape := h.tape
    output := h.output
    size := h.size
    block := h.block
    kept := Kept.trans h.size h.kept hK }

/-- What a slice value shows, cell by cell. -/
structure Shows (w : World) (φ : Phi) (σ : Store) (A : Nat → Prop) (k : Nat) (es : List (List C)) (b : Option Addr) (us : List Value) : Prop where
  len : us.length = es.length * k
  none : b = .none → es = []
  cell : ∀ ad, b = some ad → ∀ (j : Nat) (u : Value), us[j]? = some u → w.cell? (ad.add j) = some u
  hk : ∀ (j : Nat) (e : List C), es[j]? = some e → e.length = k
  rel : ∀ (j : Nat) (e : List C) (o : Nat) (x : C), es[j]? = some e → e[o]? = some x → ∃ u, us[j * k + o]? = some u ∧ RelC w φ σ A x u

theorem Shows.one {w : World} {φ : Phi} {σ : Store} {A : Nat → Prop} {k : Nat} {es : List (List C)} {b : Option Addr} {us : List Value} (h : Shows w φ σ A k es b us) : ∀ u ∈ us, u.oneCell' = true := by
  intro u hu
  obtain ⟨i, hi, rfl⟩ := List.mem_iff_getElem.1 hu
  rw [h.len] at hi
  have hk : 0 < k := Nat.pos_of_ne_zero fun h0 => by subst h0; simp at hi
  have hj : i / k < es.length := Nat.div_lt_of_lt_mul (by rw [Nat.mul_comm]; exact hi)
  have he := h.hk _ _ (List.getElem?_eq_getElem hj)
  have ho : i % k < (es[i / k]).length := by rw [he]; exact Nat.mod_lt _ hk
  obtain ⟨v, hv, hr⟩ := h.rel _ _ _ _ (List.getElem?_eq_getElem hj) (List.getElem?_eq_getElem ho)
  rw [show i / k * k + i % k = i by rw [Nat.mul_comm]; exact Nat.div_add_mod i k] at hv
  rw [List.getElem?_eq_getElem (by rw [h.len]; exact hi)] at hv
  have e := Option.some.inj hv
  rw [e]
  exact hr.one

/-- Two rows, one behind the other, in one array. -/
theorem app_rel {w : World} {φ : Phi} {σ : Store} {A : Nat → Prop} {k : Nat} {es new : List (List C)} {b b' : Option Addr} {us vs : List Value} (h : Shows w φ σ A k es b us) (g : Shows w φ σ A k new b' vs) :
    (∀ (j : Nat) (e : List C), (es ++ new)[j]? = some e → e.length = k) ∧ ∀ (j : Nat) (e : List C) (o : Nat) (x : C), (es ++ new)[j]? = some e → e[o]? = some x → ∃ u, (us ++ vs)[j * k + o]? = some u ∧ RelC w φ σ A x u := by
  refine ⟨fun j e he => ?_, fun j e o x he hx => ?_⟩
  · rw [List.getElem?_append] at he
    split at he
    · exact h.hk _ _ he
    · exact g.hk _ _ he
  · rw [List.getElem?_append] at he
    split at he
    · rename_i hj
      obtain ⟨u, hu, hr⟩ := h.rel j e o x he hx
      exact ⟨u, by rw [List.getElem?_append_left (List.getElem?_eq_some_iff.1 hu).1]; exact hu, hr⟩
    · rename_i hj
      obtain ⟨u, hu, hr⟩ := g.rel _ e o x he hx
      refine ⟨u, ?_, hr⟩
      have : us.length ≤ j * k + o := by
        rw [h.len]
        have := Nat.mul_le_mul_right k (Nat.not_lt.1 hj)
        omega
      rw [List.getElem?_append_right this, h.len]
      rw [Nat.sub_mul] at hu
      have := Nat.mul_le_mul_right k (Nat.not_lt.1 hj)
      rw [show j * k + o - es.length * k = j * k - es.length * k + o by omega]
      exact hu

section
variable {P : Program} {σ0 : Store} {sz : Nat} {Q : Post} {s : St} {ops : Array Oper} {rest : List Oper} {dst : Option Nat} {ty : TypeId} {pos : String} {after : Array Edge}

/-- What can be read as a row of elements: an owned view, what never changes, nil. -/
inductive Src (σ : Store) (k : Nat) : T → List (List C) → Prop
  | own {id : Id} {j n : Nat} {es : List (List C)} (h : σ[id]? = some (some (.cells k es))) : Src σ k (.c (.own id j n)) ((es.drop j).take n)
  | imm {es : List (List I)} : Src σ k (.c (.imm (.sl k es))) (es.map (·.map .imm))
  | nil : Src σ k (.c (.imm (.val (.slice none 0 0)))) []

theorem view_shows {Γ : Cx} {φ : Phi} {a : Act} {w : World} (hR : R Γ sz s φ a w) {id : Id} {j n k : Nat} {es : List (List C)} (hσ : s.σ[id]? = some (some (.cells k es))) {v : Value} (hv : OwnView w (φ id) k es.length j n v) :
    ∃ b cap us, v = .slice b n cap ∧ ((es.drop j).take n).length = n ∧ Shows w φ s.σ (Al Γ.N φ s.σ) k ((es.drop j).take n) b us := by
  rcases hv with ⟨h1, h2, h3, h4⟩ | ⟨b, base, cap, arr, ety, ad, hp, hv, had, hcap, hmax, hjn, hb, hsz⟩
  · subst h3 h4
    exact ⟨none, 0, [], h2, by simp, ⟨by simp, fun _ => by simp, fun _ h => by simp at h, fun j e h => by simp at h, fun j e o x h => by simp at h⟩⟩
  · obtain ⟨arr', ety', hb', hsz', hk, hcs⟩ := own_cells hR hσ hp
    rw [hb] at hb'; cases hb'
    have hlen : ((es.drop j).take n).length = n := by simp; omega
    have get : ∀ (i : Nat) (e : List C), ((es.drop j).take n)[i]? = some e → i < n ∧ es[j + i]? = some e := fun i e he => by
      rw [List.getElem?_take] at he
      split at he
      · rw [List.getElem?_drop] at he; exact ⟨‹_›, he⟩
      · cases he
    have hin : base + (j + n) * k ≤ arr.size := by
      have : (j + n) * k ≤ es.length * k := Nat.mul_le_mul_right _ hjn
      omega
    rw [Nat.add_mul] at hin
    refine ⟨some ad, cap, (arr.toList.drop (base + j * k)).take (n * k), hv, hlen, ⟨?_, fun h => (by cases h), fun ad' h i u hu => ?_, fun i e he => hk _ _ (get i e he).2, fun i e o x he hx => ?_⟩⟩
    · rw [hlen]; simp; omega
    · cases h
      rw [List.getElem?_take] at hu
      split at hu
      · rename_i hi
        rw [List.getElem?_drop] at hu
        have hn : 0 < n := by
          rcases Nat.eq_zero_or_pos n with h | h
          · subst h; simp at hi
          · exact h
        rw [had (by omega), add_none, cell_of hb]
        simpa using hu
      · cases hu
    · obtain ⟨hi, he'⟩ := get i e he
      obtain ⟨u, hu, hr⟩ := hcs _ e o x he' hx
      have hek := hk _ _ he'
      have hok : o < k := by rw [← hek]; exact (List.getElem?_eq_some_iff.1 hx).1
      have : (i + 1) * k ≤ n * k := Nat.mul_le_mul_right _ hi
      rw [Nat.add_mul, Nat.one_mul] at this
      refine ⟨u, ?_, hr⟩
      rw [List.getElem?_take, if_pos (by omega), List.getElem?_drop]
      rw [Nat.add_mul] at hu
      rw [show base + j * k + (i * k + o) = base + (j * k + i * k + o) by omega]
      simpa using hu

theorem Src.shows {Γ : Cx} {φ : Phi} {a : Act} {w : World} (hR : R Γ sz s φ a w) {x : Operand} {k : Nat} {t : T} {es : List (List C)} (hx : ev s.env x = some t) (hs : Src s.σ k t es) :
    ∃ b cap us, a.eval x = .slice b es.length cap ∧ Shows w φ s.σ (Al Γ.N φ s.σ) k es b us := by
  have hr := ev_rel hR hx
  cases hs with
  | own hσ =>
    obtain ⟨b, cap, us, h1, h2, h3⟩ := view_shows hR hσ (own_inv hr hσ)
    exact ⟨b, cap, us, by rw [h1, h2], h3⟩
  | @imm es =>
    generalize a.eval x = v at hr
    cases hr with | c hr => cases hr with | imm hr => cases hr with
      | slNil => exact ⟨none, 0, [], rfl, ⟨by simp, fun _ => rfl, fun _ h => by simp at h, fun j e h => by simp at h, fun j e o x h => by simp at h⟩⟩
      | @sl _ _ ad cap us hcap hmax hk hc hr =>
        have get : ∀ (i : Nat) (e : List C), (es.map (·.map C.imm))[i]? = some e → ∃ e0, es[i]? = some e0 ∧ e = e0.map C.imm := fun i e he => by
          rw [List.getElem?_map, Option.map_eq_some_iff] at he
          obtain ⟨e0, h1, h2⟩ := he
          exact ⟨e0, h1, h2.symm⟩
        refine ⟨some ad, cap, (List.range (es.length * k)).map fun i => us (i / k) (i % k), by simp, ⟨by simp, fun h => (by cases h), fun ad' h i u hu => ?_, fun i e he => ?_, fun i e o x he hx => ?_⟩⟩
        · cases h
          rw [List.getElem?_map, Option.map_eq_some_iff] at hu
          obtain ⟨i', hi, rfl⟩ := hu
          obtain ⟨hlt, rfl⟩ := range_some hi
          have hkp : 0 < k := Nat.pos_of_ne_zero fun h0 => by subst h0; simp at hlt
          have hj : i / k < es.length := Nat.div_lt_of_lt_mul (by rw [Nat.mul_comm]; exact hlt)
          have hek := hk _ _ (List.getElem?_eq_getElem hj)
          have ho : i % k < (es[i / k]).length := by rw [hek]; exact Nat.mod_lt _ hkp
          have := (hc _ _ _ _ (List.getElem?_eq_getElem hj) (List.getElem?_eq_getElem ho)).2
          rwa [show i / k * k + i % k = i by rw [Nat.mul_comm]; exact Nat.div_add_mod i k] at this
        · obtain ⟨e0, h1, rfl⟩ := get i e he
          simpa using hk _ _ h1
        · obtain ⟨e0, h1, rfl⟩ := get i e he
          rw [List.getElem?_map, Option.map_eq_some_iff] at hx
          obtain ⟨x0, hx0, rfl⟩ := hx
          have hek := hk _ _ h1
          have hok : o < k := by rw [← hek]; exact (List.getElem?_eq_some_iff.1 hx0).1
          have hil : i < es.length := (List.getElem?_eq_some_iff.1 h1).1
          have : (i + 1) * k ≤ es.length * k := Nat.mul_le_mul_right _ hil
          rw [Nat.add_mul, Nat.one_mul] at this
          refine ⟨us i o, ?_, .imm (hr i e0 o x0 h1 hx0)⟩
          rw [List.getElem?_map, List.getElem?_range (by omega)]
          have e1 : (i * k + o) / k = i := by rw [Nat.mul_comm, Nat.mul_add_div (by omega), Nat.div_eq_of_lt hok, Nat.add_zero]
          have e2 : (i * k + o) % k = o := by rw [Nat.mul_comm, Nat.mul_add_mod, Nat.mod_eq_of_lt hok]
          simp [e1, e2]
  | nil => exact ⟨none, 0, [], val_inv hr, ⟨by simp, fun _ => rfl, fun _ h => by simp at h, fun j e h => by simp at h, fun j e o x h => by simp at h⟩⟩

end
end Ab
