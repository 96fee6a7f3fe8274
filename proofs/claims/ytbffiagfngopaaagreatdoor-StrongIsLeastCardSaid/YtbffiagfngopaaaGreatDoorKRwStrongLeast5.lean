/-
  Texts that the proof stands on.
-/
import Derived.Test.YtbffiagfngopaaaGreatDoorKRwStrongLeast4
set_option linter.all false
section
namespace Ab
open Go
theorem ix_nat {α : Type} {l : List α} {k : Nat} : ix l (k : Int) = l[k]? := by simp [ix]
theorem ix_of {α : Type} {l : List α} {i : Int} (h0 : 0 ≤ i) (h1 : i < l.length) : ∃ a, ix l i = some a ∧ l[i.toNat]? = some a := by
  have h : i.toNat < l.length := by omega
  exact ⟨l[i.toNat], by simp [ix, h0, h], by simp [h]⟩
theorem ix_lo {α : Type} {l : List α} {i : Int} {a : α} (h : ix l i = some a) : 0 ≤ i ∧ i < l.length ∧ l[i.toNat]? = some a := by
  unfold ix at h
  split at h
  · have := (List.getElem?_eq_some_iff.1 h).1
    exact ⟨by assumption, by omega, h⟩
  · cases h
theorem w64_of {n : Int} (h1 : -9223372036854775808 ≤ n) (h2 : n ≤ 9223372036854775807) : w64 n = n := w64_eq ⟨h1, h2⟩
theorem forN_inv {S : Type} {body : Int → S → Option S} (P : Int → S → Prop) : ∀ (k : Nat) (i : Int) (s : S), P i s →
    (∀ j s, i ≤ j → j < i + k → P j s → ∃ s', body j s = some s' ∧ P (j + 1) s') → ∃ s', forN body k i s = some s' ∧ P (i + k) s'
  | 0, i, s, h, _ => ⟨s, rfl, by simpa using h⟩
  | k + 1, i, s, h, hb => by
    obtain ⟨s1, h1, h2⟩ := hb i s (Int.le_refl _) (by omega) h
    obtain ⟨s2, h3, h4⟩ := forN_inv P k (i + 1) s1 h2 (fun j s g1 g2 => hb j s (by omega) (by omega))
    exact ⟨s2, by simp only [forN, h1]; exact h3, by rw [show i + ((k + 1 : Nat) : Int) = i + 1 + k by omega]; exact h4⟩
/-- A loop over numbers, from what it keeps. -/
theorem forR_inv {S : Type} {body : Int → S → Option S} {n : Int} (P : Int → S → Prop) {s : S} (hn : 0 ≤ n) (h0 : P 0 s)
    (hb : ∀ j s, 0 ≤ j → j < n → P j s → ∃ s', body j s = some s' ∧ P (j + 1) s') : ∃ s', forR 0 n body s = some s' ∧ P n s' := by
  obtain ⟨s', h1, h2⟩ := forN_inv P (n - 0).toNat 0 s h0 (fun j s g1 g2 => hb j s g1 (by omega))
  exact ⟨s', h1, by rwa [show (0 : Int) + ((n - 0).toNat : Int) = n by omega] at h2⟩
theorem rngN_inv {S O : Type} {body : Int → S → Option (S ⊕ O)} (P : Int → S → Prop) (Q : O → Prop) : ∀ (k : Nat) (i : Int) (s : S), P i s →
    (∀ j s, i ≤ j → j < i + k → P j s → (∃ s', body j s = some (.inl s') ∧ P (j + 1) s') ∨ ∃ o, body j s = some (.inr o) ∧ Q o) →
    (∃ s', rngN body k i s = some (.inl s') ∧ P (i + k) s') ∨ ∃ o, rngN body k i s = some (.inr o) ∧ Q o
  | 0, i, s, h, _ => .inl ⟨s, rfl, by simpa using h⟩
  | k + 1, i, s, h, hb => by
    rcases hb i s (Int.le_refl _) (by omega) h with ⟨s1, h1, h2⟩ | ⟨o, h1, h2⟩
    · rcases rngN_inv P Q k (i + 1) s1 h2 (fun j s g1 g2 => hb j s (by omega) (by omega)) with ⟨s2, h3, h4⟩ | ⟨o, h3, h4⟩
      · exact .inl ⟨s2, by simp only [rngN, h1]; exact h3, by rw [show i + ((k + 1 : Nat) : Int) = i + 1 + k by omega]; exact h4⟩
      · exact .inr ⟨o, by simp only [rngN, h1]; exact h3, h4⟩
    · exact .inr ⟨o, by simp only [rngN, h1], h2⟩
/-- A loop over numbers with ways out, from what it keeps. -/
theorem rngX_inv {S O : Type} {body : Int → S → Option (S ⊕ O)} {n : Int} (P : Int → S → Prop) (Q : O → Prop) {s : S} (hn : 0 ≤ n) (h0 : P 0 s)
    (hb : ∀ j s, 0 ≤ j → j < n → P j s → (∃ s', body j s = some (.inl s') ∧ P (j + 1) s') ∨ ∃ o, body j s = some (.inr o) ∧ Q o) :
    (∃ s', rngX 0 n body s = some (.inl s') ∧ P n s') ∨ ∃ o, rngX 0 n body s = some (.inr o) ∧ Q o := by
  rcases rngN_inv P Q (n - 0).toNat 0 s h0 (fun j s g1 g2 => hb j s g1 (by omega)) with ⟨s', h1, h2⟩ | h
  · exact .inl ⟨s', h1, by rwa [show (0 : Int) + ((n - 0).toNat : Int) = n by omega] at h2⟩
  · exact .inr h
/-- A loop that tests: all pass. -/
theorem rngX_all {O : Type} {body : Int → Unit → Option (Unit ⊕ O)} {n : Int} (hn : 0 ≤ n) (hb : ∀ j, 0 ≤ j → j < n → body j () = some (.inl ())) : rngX 0 n body () = some (.inl ()) := by
  rcases rngX_inv (body := body) (fun _ _ => True) (fun _ => False) (s := ()) hn trivial (fun j s g1 g2 _ => .inl ⟨(), hb j g1 g2, trivial⟩) with ⟨s', h, _⟩ | ⟨o, _, h⟩
  · exact h
  · exact h.elim
theorem LoopN_inv {S O : Type} {body : S → Option (S ⊕ O)} (P : S → Prop) (Q : O → Prop) (μ : S → Nat) (hb : ∀ s, P s → (∃ s', body s = some (.inl s') ∧ P s' ∧ μ s' < μ s) ∨ ∃ o, body s = some (.inr o) ∧ Q o) :
    ∀ (k : Nat) (s : S), μ s < k → P s → ∃ o, LoopN body k s = some o ∧ Q o
  | 0, s, h, _ => by omega
  | k + 1, s, h, hs => by
    rcases hb s hs with ⟨s', h1, h2, h3⟩ | ⟨o, h1, h2⟩
    · obtain ⟨o, g1, g2⟩ := LoopN_inv P Q μ hb k s' (by omega) h2
      exact ⟨o, by simp only [LoopN, h1]; exact g1, g2⟩
    · exact ⟨o, by simp only [LoopN, h1], h2⟩
/-- A loop, from what it keeps and a measure that sinks. -/
theorem Loop_inv {S O : Type} {body : S → Option (S ⊕ O)} (P : S → Prop) (Q : O → Prop) (μ : S → Nat) {s : S} (hs : P s)
    (hb : ∀ s, P s → (∃ s', body s = some (.inl s') ∧ P s' ∧ μ s' < μ s) ∨ ∃ o, body s = some (.inr o) ∧ Q o) : ∃ o, Loop body s = some o ∧ Q o := by
  obtain ⟨o, h1, h2⟩ := LoopN_inv P Q μ hb (μ s + 1) s (by omega) hs
  exact ⟨o, Loop_iff.2 ⟨_, h1⟩, h2⟩
/-! ### Two loops that do the same -/
theorem rngN_eq {S O : Type} {b1 b2 : Int → S → Option (S ⊕ O)} (P : Int → S → Prop) : ∀ (k : Nat) (i : Int) (s : S), P i s →
    (∀ j s, i ≤ j → j < i + k → P j s → b1 j s = b2 j s ∧ b1 j s ≠ none ∧ ∀ s', b1 j s = some (.inl s') → P (j + 1) s') →
    rngN b1 k i s = rngN b2 k i s ∧ rngN b1 k i s ≠ none ∧ ∀ s', rngN b1 k i s = some (.inl s') → P (i + k) s'
  | 0, i, s, h, _ => ⟨rfl, by simp [rngN], fun s' hs => by simp only [rngN, Option.some.injEq, Sum.inl.injEq] at hs; subst hs; simpa using h⟩
  | k + 1, i, s, h, hb => by
    obtain ⟨h1, h2, h3⟩ := hb i s (Int.le_refl _) (by omega) h
    simp only [rngN]
    rw [← h1]
    cases hc : b1 i s with
    | none => exact absurd hc h2
    | some x =>
      cases x with
      | inr o => exact ⟨rfl, by simp, fun s' hs => by simp at hs⟩
      | inl s1 =>
        dsimp only
        have := rngN_eq (b1 := b1) (b2 := b2) P k (i + 1) s1 (h3 s1 hc) (fun j s g1 g2 => hb j s (by omega) (by omega))
        rwa [show i + 1 + (k : Int) = i + ((k + 1 : Nat) : Int) by omega] at this
theorem rngX_eq {S O : Type} {b1 b2 : Int → S → Option (S ⊕ O)} {n : Int} (P : Int → S → Prop) {s : S} (hn : 0 ≤ n) (h0 : P 0 s)
    (hb : ∀ j s, 0 ≤ j → j < n → P j s → b1 j s = b2 j s ∧ b1 j s ≠ none ∧ ∀ s', b1 j s = some (.inl s') → P (j + 1) s') :
    rngX 0 n b1 s = rngX 0 n b2 s ∧ rngX 0 n b1 s ≠ none ∧ ∀ s', rngX 0 n b1 s = some (.inl s') → P n s' := by
  have := rngN_eq P (n - 0).toNat 0 s h0 (fun j s g1 g2 => hb j s g1 (by omega))
  rwa [show (0 : Int) + ((n - 0).toNat : Int) = n by omega] at this
end Ab
end
section
namespace Ab
open Go
/-- A proposition as' a truth value. -/
noncomputable def dec (p : Prop) : Bool := @decide p (Classical.propDecidable p)
@[simp] theorem dec_true {p : Prop} : dec p = true ↔ p := by simp [dec]
@[simp] theorem dec_false {p : Prop} : dec p = false ↔ ¬ p := by simp [dec]
@[simp] theorem dec_not {p : Prop} : (!dec p) = dec (¬ p) := by by_cases h : p <;> simp [dec, h]
theorem decide_dec {p : Prop} [Decidable p] : decide p = dec p := by by_cases h : p <;> simp [dec, h]
theorem dec_of {p : Prop} (h : p) : dec p = true := dec_true.2 h
theorem dec_no {p : Prop} (h : ¬ p) : dec p = false := dec_false.2 h
theorem dec_congr {p q : Prop} (h : p ↔ q) : dec p = dec q := by rw [propext h]
theorem dec_and {p q : Prop} : (dec p && dec q) = dec (p ∧ q) := by by_cases h : p <;> by_cases g : q <;> simp [dec, h, g]
theorem ifP {α : Type} {p : Prop} {a b : α} (h : p) : (if dec p = true then a else b) = a := if_pos (dec_of h)
theorem ifN {α : Type} {p : Prop} {a b : α} (h : ¬ p) : (if dec p = true then a else b) = b := if_neg fun g => h (dec_true.1 g)
theorem ifNN {α : Type} {p : Prop} {a b : α} (h : p) : (if dec (¬ p) = true then a else b) = b := ifN (not_not_intro h)
theorem ix_mem {α : Type} {l : List α} {i : Int} {a : α} (h : ix l i = some a) : a ∈ l := List.mem_of_getElem? (ix_lo h).2.2
theorem mem_ix {α : Type} {l : List α} {a : α} (h : a ∈ l) : ∃ i : Int, 0 ≤ i ∧ i < l.length ∧ ix l i = some a := by
  obtain ⟨k, hk⟩ := List.getElem?_of_mem h
  exact ⟨k, by omega, by have := (List.getElem?_eq_some_iff.1 hk).1; omega, by rw [ix_nat, hk]⟩
theorem ix_put {α : Type} {l : List α} {i j : Int} {x : α} (h0 : 0 ≤ i) (h1 : i < l.length) (hj : 0 ≤ j) : ix (l.set i.toNat x) j = if j = i then some x else ix l j := by
  simp only [ix, hj, if_true, List.getElem?_set]
  by_cases h : j = i
  · subst h; rw [if_pos rfl, if_pos rfl, if_pos (by omega)]
  · rw [if_neg h, if_neg (by omega)]
/-- A loop that tests: the first number that fails ends it. -/
theorem rngX_test {O : Type} {body : Int → Unit → Option (Unit ⊕ O)} {n : Int} (g : Int → Option O) (hn : 0 ≤ n)
    (hb : ∀ j, 0 ≤ j → j < n → (∀ i, 0 ≤ i → i < j → g i = none) → body j () = some (match g j with | none => .inl () | some o => .inr o)) :
    (rngX 0 n body () = some (.inl ()) ∧ ∀ j, 0 ≤ j → j < n → g j = none) ∨ ∃ j o, 0 ≤ j ∧ j < n ∧ g j = some o ∧ (∀ i, 0 ≤ i → i < j → g i = none) ∧ rngX 0 n body () = some (.inr o) := by
  rcases rngX_inv (body := body) (n := n) (fun j _ => ∀ i, 0 ≤ i → i < j → g i = none) (fun o => ∃ j, 0 ≤ j ∧ j < n ∧ g j = some o ∧ ∀ i, 0 ≤ i → i < j → g i = none) (s := ()) hn (fun i h1 h2 => by omega) (fun j s h0 h1 hP => by
    have := hb j h0 h1 hP
    cases hg : g j with
    | none => rw [hg] at this; exact .inl ⟨(), this, fun i h2 h3 => by
        rcases Int.lt_or_eq_of_le (Int.le_of_lt_add_one h3) with h | h
        · exact hP i h2 h
        · rw [h, hg]⟩
    | some o => rw [hg] at this; exact .inr ⟨o, this, j, h0, h1, hg, hP⟩) with ⟨s', h1, h2⟩ | ⟨o, h1, j, h2, h3, h4, h5⟩
  · exact .inl ⟨h1, h2⟩
  · exact .inr ⟨j, o, h2, h3, h4, h5, h1⟩
/-- A loop over a list that tests its elements. -/
theorem rng_list {α O : Type} {l : List α} {body : Int → Unit → Option (Unit ⊕ O)} (q : α → Prop) (b : O)
    (hb : ∀ j a, ix l j = some a → (q a ∧ body j () = some (.inl ())) ∨ (¬ q a ∧ body j () = some (.inr b))) :
    rngX 0 (l.length : Int) body () = some (if dec (∀ a ∈ l, q a) = true then .inl () else .inr b) := by
  rcases rngX_test (body := body) (n := (l.length : Int)) (fun j => match ix l j with | some a => if dec (q a) = true then none else some b | none => none) (by omega) (fun j h0 h1 _ => by
    obtain ⟨a, h2, _⟩ := ix_of h0 h1
    rw [h2]
    rcases hb j a h2 with ⟨h3, h4⟩ | ⟨h3, h4⟩
    · rw [h4]; simp [h3]
    · rw [h4]; simp [h3]) with ⟨h1, h2⟩ | ⟨j, o, h0, h1, h2, _, h4⟩
  · rw [h1, if_pos]
    rw [dec_true]
    intro a ha
    obtain ⟨i, g1, g2, g3⟩ := mem_ix ha
    have := h2 i g1 g2
    rw [g3] at this
    simpa using this
  · rw [h4]
    obtain ⟨a, g1, _⟩ := ix_of h0 h1
    rw [g1] at h2
    simp only [dec_true] at h2
    split at h2
    · cases h2
    · rename_i hq
      cases h2
      rw [if_neg]
      rw [dec_true]
      exact fun h => hq (dec_of (h a (ix_mem g1)))
/-- Rising lists. -/
abbrev Inc (l : List Int) : Prop := l.Pairwise (· < ·)
theorem inc_of_adj : ∀ {l : List Int}, (∀ (k : Nat) a b, l[k]? = some a → l[k + 1]? = some b → a < b) → Inc l
  | [], _ => .nil
  | [_], _ => by simp
  | a :: b :: l, h => by
    have ih : Inc (b :: l) := inc_of_adj fun k x y h1 h2 => h (k + 1) x y (by simpa using h1) (by simpa using h2)
    have hab : a < b := h 0 a b rfl rfl
    refine List.pairwise_cons.2 ⟨fun c hc => ?_, ih⟩
    rcases List.mem_cons.1 hc with rfl | hc
    · exact hab
    · exact Int.lt_trans hab ((List.pairwise_cons.1 ih).1 c hc)
theorem Inc.get {l : List Int} (h : Inc l) {i j : Nat} {a b : Int} (hi : l[i]? = some a) (hj : l[j]? = some b) (hij : i < j) : a < b := by
  obtain ⟨h1, rfl⟩ := List.getElem?_eq_some_iff.1 hi
  obtain ⟨h2, rfl⟩ := List.getElem?_eq_some_iff.1 hj
  exact List.pairwise_iff_getElem.1 h i j h1 h2 hij
theorem Inc.ext : ∀ {l m : List Int}, Inc l → Inc m → (∀ x, x ∈ l ↔ x ∈ m) → l = m
  | [], [], _, _, _ => rfl
  | [], b :: m, _, _, h => absurd ((h b).2 (by simp)) (by simp)
  | a :: l, [], _, _, h => absurd ((h a).1 (by simp)) (by simp)
  | a :: l, b :: m, hl, hm, h => by
    obtain ⟨l1, l2⟩ := List.pairwise_cons.1 hl
    obtain ⟨m1, m2⟩ := List.pairwise_cons.1 hm
    have hab : a = b := by
      rcases List.mem_cons.1 ((h a).1 (by simp)) with e | e
      · exact e
      · rcases List.mem_cons.1 ((h b).2 (by simp)) with e' | e'
        · exact e'.symm
        · have := l1 b e'; have := m1 a e; omega
    subst hab
    rw [Inc.ext l2 m2 fun x => ⟨fun hx => ?_, fun hx => ?_⟩]
    · rcases List.mem_cons.1 ((h x).1 (by simp [hx])) with e | e
      · have := l1 x hx; omega
      · exact e
    · rcases List.mem_cons.1 ((h x).2 (by simp [hx])) with e | e
      · have := m1 x hx; omega
      · exact e
theorem Inc.filter {l : List Int} (h : Inc l) (p : Int → Bool) : Inc (l.filter p) := List.Pairwise.filter p h
/-- Numbers from lo on. -/
def nums (lo : Int) : Nat → List Int
  | 0 => []
  | k + 1 => lo :: nums (lo + 1) k
theorem mem_nums {x : Int} : ∀ {k : Nat} {lo : Int}, x ∈ nums lo k ↔ lo ≤ x ∧ x < lo + k
  | 0, lo => by simp [nums]
  | k + 1, lo => by
    rw [nums, List.mem_cons, mem_nums (k := k)]
    omega
theorem inc_nums : ∀ (k : Nat) (lo : Int), Inc (nums lo k)
  | 0, _ => .nil
  | k + 1, lo => List.pairwise_cons.2 ⟨fun x hx => by have := mem_nums.1 hx; omega, inc_nums k (lo + 1)⟩
theorem len_nums : ∀ (k : Nat) (lo : Int), (nums lo k).length = k
  | 0, _ => rfl
  | k + 1, lo => by simp [nums, len_nums k]
/-- The set of the numbers below n of which p holds. -/
noncomputable def setOf (p : Int → Prop) (n : Int) : List Int := (nums 0 n.toNat).filter fun x => dec (p x)
theorem mem_setOf {p : Int → Prop} {n x : Int} : x ∈ setOf p n ↔ 0 ≤ x ∧ x < n ∧ p x := by
  rw [setOf, List.mem_filter, mem_nums, dec_true]
  constructor
  · rintro ⟨⟨h1, h2⟩, h3⟩; exact ⟨h1, by omega, h3⟩
  · rintro ⟨h1, h2, h3⟩; exact ⟨⟨h1, by omega⟩, h3⟩
theorem inc_setOf (p : Int → Prop) (n : Int) : Inc (setOf p n) := (inc_nums _ _).filter _
theorem setOf_congr {p q : Int → Prop} {n : Int} (h : ∀ x, 0 ≤ x → x < n → (p x ↔ q x)) : setOf p n = setOf q n := by
  refine List.filter_congr fun x hx => dec_congr ?_
  have := mem_nums.1 hx
  exact h x (by omega) (by omega)
/-- A rising list of numbers below n. -/
def SetN (l : List Int) (n : Int) : Prop := Inc l ∧ ∀ x ∈ l, 0 ≤ x ∧ x < n
theorem setN_setOf (p : Int → Prop) (n : Int) : SetN (setOf p n) n := ⟨inc_setOf p n, fun x hx => by have := mem_setOf.1 hx; exact ⟨this.1, this.2.1⟩⟩
theorem SetN.eq {l : List Int} {n : Int} (h : SetN l n) : l = setOf (· ∈ l) n :=
  h.1.ext (inc_setOf _ _) fun x => ⟨fun hx => mem_setOf.2 ⟨(h.2 x hx).1, (h.2 x hx).2, hx⟩, fun hx => (mem_setOf.1 hx).2.2⟩
theorem SetN.eq_of {l : List Int} {n : Int} (h : SetN l n) {p : Int → Prop} (hp : ∀ x, 0 ≤ x → x < n → (x ∈ l ↔ p x)) : l = setOf p n :=
  h.eq.trans (setOf_congr hp)
theorem SetN.len {l : List Int} {n : Int} (h : SetN l n) : l.length ≤ n.toNat := by
  rw [h.eq, setOf]
  exact Nat.le_trans (List.length_filter_le _ _) (Nat.le_of_eq (len_nums _ _))
theorem setN_nil (n : Int) : SetN [] n := ⟨.nil, by simp⟩
/-- A list of the elements that pass, made by appending. -/
theorem forR_filter {α : Type} {l : List α} {b : Nat} {body : Int → List α → Option (List α)} (q : α → Prop)
    (hb : ∀ j a c, ix l j = some a → (q a → body j c = app b c [a]) ∧ (¬ q a → body j c = some c)) (c0 : List α) (hl : (c0.length + l.length) * b ≤ 140737488355328) :
    forR 0 (l.length : Int) body c0 = some (c0 ++ l.filter fun a => dec (q a)) := by
  obtain ⟨s', h1, h2⟩ := forR_inv (body := body) (n := (l.length : Int)) (s := c0) (fun j c => c = c0 ++ (l.take j.toNat).filter fun a => dec (q a)) (by omega) (by simp) (fun j c h0 h1 hP => by
    obtain ⟨a, g1, g2⟩ := ix_of h0 h1
    have e : (j + 1).toNat = j.toNat + 1 := by omega
    have ht : l.take (j + 1).toNat = l.take j.toNat ++ [a] := by rw [e, List.take_add_one, g2]; rfl
    by_cases hq : q a
    · have happ : app b c [a] = some (c ++ [a]) := by
        rw [app, if_pos]
        have h3 : ((l.take j.toNat).filter fun a => dec (q a)).length ≤ (l.take j.toNat).length := List.length_filter_le _ _
        rw [List.length_take] at h3
        have h5 : c.length + 1 ≤ c0.length + l.length := by rw [hP, List.length_append]; omega
        refine Nat.le_trans (Nat.mul_le_mul_right b ?_) hl
        simpa using h5
      refine ⟨c ++ [a], by rw [(hb j a c g1).1 hq, happ], ?_⟩
      rw [ht, List.filter_append, hP]
      simp [hq]
    · refine ⟨c, (hb j a c g1).2 hq, ?_⟩
      rw [ht, List.filter_append, hP]
      simp [hq])
  rw [h1, h2]
  simp
/-- The same over numbers. -/
theorem forR_setOf {b : Nat} {n : Int} {body : Int → List Int → Option (List Int)} (q : Int → Prop) (hn : 0 ≤ n) (hl : n.toNat * b ≤ 140737488355328)
    (hb : ∀ j c, 0 ≤ j → j < n → (q j → body j c = app b c [j]) ∧ (¬ q j → body j c = some c)) : forR 0 n body [] = some (setOf q n) := by
  obtain ⟨s', h1, h2⟩ := forR_inv (body := body) (n := n) (s := []) (fun j c => c = setOf q j) hn (by simp [setOf, nums]) (fun j c h0 h1 hP => by
    have hs : setOf q (j + 1) = setOf q j ++ if dec (q j) = true then [j] else [] := by
      refine (inc_setOf q (j + 1)).ext ?_ fun x => ?_
      · refine List.pairwise_append.2 ⟨inc_setOf _ _, by split <;> simp, fun a ha b hb => ?_⟩
        have := mem_setOf.1 ha
        split at hb
        · simp at hb; omega
        · cases hb
      · rw [List.mem_append, mem_setOf, mem_setOf]
        by_cases hq : q j
        · rw [if_pos (dec_of hq)]
          simp only [List.mem_singleton]
          refine ⟨fun h => ?_, fun h => ?_⟩
          · by_cases e : x = j
            · exact .inr e
            · exact .inl ⟨h.1, by omega, h.2.2⟩
          · rcases h with h | rfl
            · exact ⟨h.1, by omega, h.2.2⟩
            · exact ⟨h0, by omega, hq⟩
        · rw [if_neg (by simpa using hq)]
          simp only [List.not_mem_nil, or_false]
          refine ⟨fun h => ⟨h.1, ?_, h.2.2⟩, fun h => ⟨h.1, by omega, h.2.2⟩⟩
          rcases Int.lt_or_eq_of_le (Int.le_of_lt_add_one h.2.1) with e | e
          · exact e
          · rw [e] at h; exact absurd h.2.2 hq
    by_cases hq : q j
    · refine ⟨c ++ [j], ?_, by rw [hs, hP, if_pos (dec_of hq)]⟩
      rw [(hb j c h0 h1).1 hq, app, if_pos]
      have h3 : c.length ≤ j.toNat := by rw [hP]; exact (setN_setOf q j).len
      refine Nat.le_trans (Nat.mul_le_mul_right b ?_) hl
      simp; omega
    · refine ⟨c, (hb j c h0 h1).2 hq, ?_⟩
      rw [hs, hP, if_neg (by simpa using hq), List.append_nil])
  rw [h1, h2]
end Ab
end
section
namespace Ab
open Go
theorem has_eq (l : List Int) (n : Int) : ref1_Has l n = some (dec (n ∈ l)) := by
  unfold ref1_Has
  rw [rng_list (l := l) (fun a => a ≠ n) true (fun j a h => by
    unfold ref1_Has_l1
    rw [h]
    by_cases e : a = n <;> simp [e])]
  by_cases h : n ∈ l
  · rw [if_neg (by simp only [dec_true]; exact fun g => g n h rfl)]
    simp [h]
  · rw [if_pos (by simp only [dec_true]; exact fun a ha e => h (e ▸ ha))]
    simp [h]
theorem subset_eq (part l : List Int) : ref1_Subset part l = some (dec (∀ x ∈ part, x ∈ l)) := by
  unfold ref1_Subset
  rw [rng_list (l := part) (fun a => a ∈ l) false (fun j a h => by
    unfold ref1_Subset_l1
    rw [h]
    by_cases e : a ∈ l <;> simp [e, has_eq])]
  by_cases h : ∀ x ∈ part, x ∈ l
  · rw [if_pos (dec_of h), dec_of h]; rfl
  · rw [if_neg (by rw [dec_no h]; simp), dec_no h]; rfl
theorem disjoint_eq (a b : List Int) : ref1_Disjoint a b = some (dec (∀ x ∈ a, x ∉ b)) := by
  unfold ref1_Disjoint
  rw [rng_list (l := a) (fun x => x ∉ b) false (fun j x h => by
    unfold ref1_Disjoint_l1
    rw [h]
    by_cases e : x ∈ b <;> simp [e, has_eq])]
  by_cases h : ∀ x ∈ a, x ∉ b
  · rw [if_pos (dec_of h), dec_of h]; rfl
  · rw [if_neg (by rw [dec_no h]; simp), dec_no h]; rfl
theorem in_eq (n lo hi : Int) : ref1_In n lo hi = some (dec (lo ≤ n ∧ n ≤ hi)) := by
  unfold ref1_In; rw [decide_dec, decide_dec, dec_and]
theorem at_eq (c i : Int) : ref1_At c i = some ⟨c, i⟩ := rfl
/-- What a test of a rising list asks at a place. -/
def stepOk (l : List Int) (n j : Int) : Prop := ∀ a, ix l j = some a → (0 ≤ a ∧ a < n) ∧ ∀ b, 0 < j → ix l (j - 1) = some b → b < a
theorem stepOk_iff {l : List Int} {n : Int} : (∀ j : Int, 0 ≤ j → j < l.length → stepOk l n j) ↔ SetN l n := by
  constructor
  · intro h
    refine ⟨inc_of_adj fun k a b h1 h2 => ?_, fun x hx => ?_⟩
    · have hk := (List.getElem?_eq_some_iff.1 h2).1
      have := (h ((k + 1 : Nat) : Int) (by omega) (by omega) b (by rw [ix_nat]; exact h2)).2 a (by omega)
      rw [show ((k + 1 : Nat) : Int) - 1 = (k : Nat) by omega] at this
      exact this (by rw [ix_nat]; exact h1)
    · obtain ⟨i, h1, h2, h3⟩ := mem_ix hx
      exact (h i h1 h2 x h3).1
  · intro h j h0 h1 a ha
    refine ⟨h.2 a (ix_mem ha), fun b hj hb => ?_⟩
    obtain ⟨_, _, ga⟩ := ix_lo ha
    obtain ⟨_, _, gb⟩ := ix_lo hb
    exact h.1.get gb ga (by omega)
theorem isSet_eq (l : List Int) (n : Int) : strips_IsSet l n = some (dec (SetN l n)) := by
  unfold strips_IsSet
  rcases rngX_test (body := strips_IsSet_l1 l n) (n := (l.length : Int)) (fun j => if dec (stepOk l n j) = true then none else some false) (by omega) (fun j h0 h1 _ => by
    obtain ⟨a, ha, _⟩ := ix_of (l := l) h0 h1
    unfold strips_IsSet_l1
    rw [ha]
    simp only [Option.bind_some]
    by_cases c1 : a < 0
    · rw [if_pos c1, if_neg]
      · rfl
      · rw [dec_true]; intro h; have := (h a ha).1; omega
    · rw [if_neg c1]
      by_cases c2 : n ≤ a
      · rw [if_pos c2, if_neg]
        · rfl
        · rw [dec_true]; intro h; have := (h a ha).1; omega
      · rw [if_neg c2]
        by_cases c3 : 0 < j
        · obtain ⟨b, hb, _⟩ := ix_of (l := l) (i := j - 1) (by omega) (by omega)
          rw [if_pos c3, hb]
          simp only [Option.bind_some]
          by_cases c4 : a ≤ b
          · rw [if_pos (by simpa using c4), if_neg]
            rw [dec_true]; intro h; have := (h a ha).2 b c3 hb; omega
          · rw [if_neg (by simpa using c4), if_pos]
            rw [dec_true]; intro x hx
            rw [ha] at hx; cases hx
            exact ⟨by omega, fun y _ hy => by rw [hb] at hy; cases hy; omega⟩
        · rw [if_neg c3]
          simp only [Option.bind_some]
          rw [if_neg (by simp), if_pos]
          rw [dec_true]; intro x hx
          rw [ha] at hx; cases hx
          exact ⟨by omega, fun y hy => absurd hy c3⟩) with ⟨h1, h2⟩ | ⟨j, o, h0, h1, h2, _, h4⟩
  · rw [h1, dec_of]
    · rfl
    · exact stepOk_iff.1 fun j g1 g2 => by have := h2 j g1 g2; simpa using this
  · rw [h4]
    split at h2
    · cases h2
    · rename_i hs
      cases h2
      rw [dec_no]
      · rfl
      · exact fun h => hs (dec_of (stepOk_iff.2 h j h0 h1))
theorem rIsSet_eq (l : List Int) {n : Int} (hn : -9223372036854775808 < n) (hn' : n ≤ 9223372036854775807) : ref1_IsSet l n = some (dec (SetN l n)) := by
  unfold ref1_IsSet
  rcases rngX_test (body := ref1_IsSet_l1 l n) (n := (l.length : Int)) (fun j => if dec (stepOk l n j) = true then none else some false) (by omega) (fun j h0 h1 _ => by
    obtain ⟨a, ha, _⟩ := ix_of (l := l) h0 h1
    unfold ref1_IsSet_l1
    rw [ha]
    simp only [Option.bind_some, in_eq, w64_of (n := n - 1) (by omega) (by omega), dec_not]
    by_cases c1 : 0 ≤ a ∧ a ≤ n - 1
    · rw [if_neg (by simpa using c1)]
      by_cases c3 : 0 < j
      · obtain ⟨b, hb, _⟩ := ix_of (l := l) (i := j - 1) (by omega) (by omega)
        rw [if_pos c3, hb]
        simp only [Option.bind_some]
        by_cases c4 : a ≤ b
        · rw [if_pos (by simpa using c4), if_neg]
          rw [dec_true]; intro h; have := (h a ha).2 b c3 hb; omega
        · rw [if_neg (by simpa using c4), if_pos]
          rw [dec_true]; intro x hx
          rw [ha] at hx; cases hx
          exact ⟨by omega, fun y _ hy => by rw [hb] at hy; cases hy; omega⟩
      · rw [if_neg c3]
        simp only [Option.bind_some]
        rw [if_neg (by simp), if_pos]
        rw [dec_true]; intro x hx
        rw [ha] at hx; cases hx
        exact ⟨by omega, fun y hy => absurd hy c3⟩
    · rw [if_pos (by simpa using c1), if_neg]
      · rfl
      · rw [dec_true]; intro h; have := (h a ha).1; omega) with ⟨h1, h2⟩ | ⟨j, o, h0, h1, h2, _, h4⟩
  · rw [h1, dec_of]
    · rfl
    · exact stepOk_iff.1 fun j g1 g2 => by have := h2 j g1 g2; simpa using this
  · rw [h4]
    split at h2
    · cases h2
    · rename_i hs
      cases h2
      rw [dec_no]
      · rfl
      · exact fun h => hs (dec_of (stepOk_iff.2 h j h0 h1))
theorem containsLoop {s : List Int} (hs : Inc s) (hl : s.length ≤ 1000000) (x : Int) {i : Int} (h0 : 0 ≤ i) (h1 : i ≤ s.length) (hlt : ∀ k a, 0 ≤ k → k < i → ix s k = some a → a < x) :
    ∃ i', Loop (strips_Contains_l2 s x) i = some i' ∧ i ≤ i' ∧ i' ≤ s.length ∧ (∀ k a, 0 ≤ k → k < i' → ix s k = some a → a < x) ∧ (∀ a, ix s i' = some a → x ≤ a) := by
  obtain ⟨o, h2, h3⟩ := Loop_inv (body := strips_Contains_l2 s x) (fun j => i ≤ j ∧ j ≤ s.length ∧ ∀ k a, 0 ≤ k → k < j → ix s k = some a → a < x) (fun i' => i ≤ i' ∧ i' ≤ s.length ∧ (∀ k a, 0 ≤ k → k < i' → ix s k = some a → a < x) ∧ (∀ a, ix s i' = some a → x ≤ a)) (fun j => (s.length - j).toNat) (s := i) ⟨Int.le_refl _, h1, hlt⟩ (fun j ⟨g1, g2, g3⟩ => by
    unfold strips_Contains_l2
    by_cases c : j < s.length
    · obtain ⟨a, ha, _⟩ := ix_of (l := s) (i := j) (by omega) c
      rw [if_pos c, ha]
      simp only [Option.bind_some, decide_eq_true_eq]
      by_cases c2 : a < x
      · rw [if_pos c2]
        rw [w64_of (by omega) (by omega)]
        refine .inl ⟨j + 1, rfl, ⟨by omega, by omega, fun k b k0 k1 hb => ?_⟩, by omega⟩
        by_cases e : k = j
        · subst e; rw [ha] at hb; cases hb; exact c2
        · exact g3 k b k0 (by omega) hb
      · rw [if_neg c2]
        exact .inr ⟨j, rfl, g1, g2, g3, fun b hb => by rw [ha] at hb; cases hb; omega⟩
    · rw [if_neg c]
      exact .inr ⟨j, rfl, g1, g2, g3, fun b hb => by have := (ix_lo hb).2.1; omega⟩)
  exact ⟨o, h2, h3⟩
theorem contains_eq {s part : List Int} (hs : Inc s) (hp : Inc part) (hl : s.length ≤ 1000000) : strips_Contains s part = some (dec (∀ x ∈ part, x ∈ s)) := by
  unfold strips_Contains
  rcases rngX_inv (body := strips_Contains_l1 s part) (n := (part.length : Int)) (fun j i => (0 ≤ i ∧ i ≤ s.length ∧ ∀ k a, 0 ≤ k → k < i → ix s k = some a → ∀ m x, j ≤ m → ix part m = some x → a < x) ∧ ∀ m x, 0 ≤ m → m < j → ix part m = some x → x ∈ s) (fun o => o = false ∧ ¬ ∀ x ∈ part, x ∈ s) (s := 0) (by omega) ⟨⟨by omega, by omega, fun k a h1 h2 => by omega⟩, fun m x h1 h2 => by omega⟩ (fun j i h0 h1 ⟨⟨g1, g2, g3⟩, g4⟩ => by
    obtain ⟨x, hx, gx⟩ := ix_of (l := part) h0 h1
    unfold strips_Contains_l1
    obtain ⟨i', e1, e2, e3, e4, e5⟩ := containsLoop hs hl x g1 g2 (fun k a k0 k1 ha => g3 k a k0 k1 ha j x (Int.le_refl _) hx)
    rw [hx]
    simp only [Option.bind_some, e1]
    have nin : (∀ a, ix s i' = some a → x < a) → x ∉ s := fun hgt hin => by
      obtain ⟨k, k0, k1, hk⟩ := mem_ix hin
      rcases Int.lt_trichotomy k i' with c | c | c
      · have := e4 k x k0 c hk; omega
      · subst c; have := hgt x hk; omega
      · obtain ⟨b, hb, gb⟩ := ix_of (l := s) (i := i') (by omega) (by omega)
        obtain ⟨_, _, gk⟩ := ix_lo hk
        have := hs.get gb gk (by omega)
        have := e5 b hb
        omega
    by_cases c : i' = s.length
    · rw [if_pos c]
      refine .inr ⟨false, rfl, rfl, fun h => ?_⟩
      exact nin (fun a ha => by have := (ix_lo ha).2.1; omega) (h x (ix_mem hx))
    · rw [if_neg c]
      obtain ⟨b, hb, gb⟩ := ix_of (l := s) (i := i') (by omega) (by omega)
      rw [hb]
      simp only [Option.bind_some]
      have hxb := e5 b hb
      by_cases c2 : b = x
      · subst c2
        rw [if_neg (by simp)]
        refine .inl ⟨i', rfl, ⟨by omega, e3, fun k a k0 k1 ha m y hm hy => ?_⟩, fun m y m0 m1 hy => ?_⟩
        · obtain ⟨_, _, gy⟩ := ix_lo hy
          have := hp.get gx gy (by omega)
          have := e4 k a k0 k1 ha
          omega
        · by_cases e : m = j
          · subst e; rw [hx] at hy; cases hy; exact ix_mem hb
          · exact g4 m y m0 (by omega) hy
      · rw [if_pos (by simpa using c2)]
        refine .inr ⟨false, rfl, rfl, fun h => ?_⟩
        exact nin (fun a ha => by rw [hb] at ha; cases ha; omega) (h x (ix_mem hx))) with ⟨s', h1, _, h2⟩ | ⟨o, h1, rfl, h2⟩
  · rw [h1, dec_of]
    · rfl
    · intro x hx
      obtain ⟨m, m0, m1, hm⟩ := mem_ix hx
      exact h2 m x m0 m1 hm
  · rw [h1, dec_no h2]; rfl
end Ab
end
section
namespace Ab
open Go
theorem half_eq {i j : Int} (h0 : 0 ≤ i) (h1 : i ≤ j) (h2 : j ≤ 1000000) : w64 (shrW .u64 ((IntKind.u64).wrap (w64 (i + j))) 1) = (i + j) / 2 := by
  rw [w64_of (n := i + j) (by omega) (by omega), IntKind.wrap_u64, Int.emod_eq_of_lt (by omega) (by omega)]
  have : shrW .u64 (i + j) 1 = (i + j) / 2 := by
    simp only [shrW, IntKind.bits]
    rw [show min (1 : Int).toNat 64 = 1 by rfl, Int.fdiv_eq_ediv_of_nonneg _ (by decide)]
    rfl
  rw [this]
  exact w64_of (by omega) (by omega)
theorem less_eq (a b : Int) : cmp_Less_int a b = some (decide (a < b)) := by simp [cmp_Less_int, cmp_isNaN_int]
theorem bsearch_eq {xs : List Int} (hs : Inc xs) (hl : xs.length ≤ 500000) (t : Int) : ∃ i, slices_BinarySearch_int_int xs t = some (i, dec (t ∈ xs)) ∧ 0 ≤ i ∧ i ≤ xs.length ∧ (∀ k a, 0 ≤ k → k < i → ix xs k = some a → a < t) ∧ (∀ k a, i ≤ k → ix xs k = some a → t ≤ a) := by
  unfold slices_BinarySearch_int_int
  obtain ⟨i, h1, h2, h3, h4, h5⟩ := Loop_inv (body := slices_BinarySearch_int_int_l1 xs t) (fun p => (0 ≤ p.1 ∧ p.1 ≤ p.2 ∧ p.2 ≤ xs.length) ∧ (∀ k a, 0 ≤ k → k < p.1 → ix xs k = some a → a < t) ∧ (∀ k a, p.2 ≤ k → ix xs k = some a → t ≤ a))
    (fun i => 0 ≤ i ∧ i ≤ xs.length ∧ (∀ k a, 0 ≤ k → k < i → ix xs k = some a → a < t) ∧ (∀ k a, i ≤ k → ix xs k = some a → t ≤ a)) (fun p => (p.2 - p.1).toNat) (s := (0, (xs.length : Int)))
    ⟨⟨by simp, by simp, by simp⟩, fun k a h1 h2 => by simp at h2; omega, fun k a h1 h2 => by have := (ix_lo h2).2.1; simp at h1; omega⟩ (fun ⟨i, j⟩ ⟨⟨g1, g2, g3⟩, g4, g5⟩ => by
    dsimp only at g1 g2 g3 g4 g5 ⊢
    unfold slices_BinarySearch_int_int_l1
    dsimp only
    by_cases c : i < j
    · rw [if_pos c, half_eq g1 g2 (by omega)]
      obtain ⟨a, ha, ga⟩ := ix_of (l := xs) (i := (i + j) / 2) (by omega) (by omega)
      rw [ha]
      simp only [Option.bind_some, less_eq, decide_eq_true_eq]
      by_cases c2 : a < t
      · rw [if_pos c2, w64_of (by omega) (by omega)]
        refine .inl ⟨_, rfl, ⟨⟨by dsimp only; omega, by dsimp only; omega, g3⟩, fun k b k0 k1 hb => ?_, g5⟩, by dsimp only; omega⟩
        dsimp only at k1
        obtain ⟨_, _, gb⟩ := ix_lo hb
        by_cases e : k = (i + j) / 2
        · subst e; rw [ha] at hb; cases hb; exact c2
        · have := hs.get gb ga (by omega); omega
      · rw [if_neg c2]
        refine .inl ⟨_, rfl, ⟨⟨g1, by dsimp only; omega, by dsimp only; omega⟩, g4, fun k b k0 hb => ?_⟩, by dsimp only; omega⟩
        dsimp only at k0
        obtain ⟨_, _, gb⟩ := ix_lo hb
        by_cases e : k = (i + j) / 2
        · subst e; rw [ha] at hb; cases hb; omega
        · have := hs.get ga gb (by omega); omega
    · rw [if_neg c]
      have : i = j := by omega
      subst this
      exact .inr ⟨i, rfl, g1, g3, g4, g5⟩)
  rw [h1]
  simp only [Option.bind_some]
  refine ⟨i, ?_, h2, h3, h4, h5⟩
  have nin : (∀ a, ix xs i = some a → a ≠ t) → t ∉ xs := fun hne hin => by
    obtain ⟨k, k0, k1, hk⟩ := mem_ix hin
    rcases Int.lt_trichotomy k i with c | c | c
    · have := h4 k t k0 c hk; omega
    · subst c; exact hne t hk rfl
    · obtain ⟨b, hb, gb⟩ := ix_of (l := xs) (i := i) (by omega) (by omega)
      obtain ⟨_, _, gk⟩ := ix_lo hk
      have := hs.get gb gk (by omega)
      have := h5 i b (Int.le_refl _) hb
      omega
  by_cases c : i < xs.length
  · obtain ⟨a, ha, ga⟩ := ix_of (l := xs) (i := i) (by omega) c
    rw [if_pos c, ha]
    simp only [Option.bind_some]
    by_cases c2 : a = t
    · subst c2
      rw [if_pos rfl, dec_of (ix_mem ha)]
      rfl
    · rw [if_neg c2]
      simp only [slices_isNaN_int, decide_true, Bool.not_true, Bool.false_eq_true, if_false, Option.bind_some]
      rw [dec_no (nin fun b hb => by rw [ha] at hb; cases hb; exact c2)]
  · rw [if_neg c]
    simp only [Option.bind_some]
    rw [dec_no (nin fun b hb => by have := (ix_lo hb).2.1; omega)]
theorem bsearch2 {xs : List Int} (hs : Inc xs) (hl : xs.length ≤ 500000) (t : Int) : ∃ i, slices_BinarySearch_int_int xs t = some (i, dec (t ∈ xs)) :=
  let ⟨i, h, _⟩ := bsearch_eq hs hl t
  ⟨i, h⟩
theorem containsFunc_eq {l : List Int} {f : Int → Option Bool} (p : Int → Prop) (hf : ∀ x ∈ l, f x = some (dec (p x))) : slices_ContainsFunc_int_int l f = some (dec (∃ x ∈ l, p x)) := by
  unfold slices_ContainsFunc_int_int slices_IndexFunc_int_int
  rcases rngX_test (body := slices_IndexFunc_int_int_l1 l f) (n := (l.length : Int)) (fun j => if dec (∀ a, ix l j = some a → ¬ p a) = true then none else some j) (by omega) (fun j h0 h1 _ => by
    obtain ⟨a, ha, _⟩ := ix_of (l := l) h0 h1
    unfold slices_IndexFunc_int_int_l1
    rw [ha]
    simp only [Option.bind_some, hf a (ix_mem ha)]
    by_cases c : p a
    · rw [if_pos (dec_of c), if_neg (by rw [dec_true]; exact fun h => h a rfl c)]
    · rw [if_neg (by rw [dec_no c]; simp), if_pos (dec_of fun b hb => by cases hb; exact c)]) with ⟨h1, h2⟩ | ⟨j, o, h0, h1, h2, _, h4⟩
  · rw [h1]
    simp only [Option.bind_some]
    rw [dec_no]
    · rfl
    · rintro ⟨x, hx, hp⟩
      obtain ⟨i, g1, g2, g3⟩ := mem_ix hx
      have := h2 i g1 g2
      split at this
      · rename_i h; exact dec_true.1 h x g3 hp
      · cases this
  · rw [h4]
    split at h2
    · cases h2
    · rename_i h
      cases h2
      simp only [Option.bind_some]
      rw [dec_of]
      · simp [h0]
      · simp only [dec_true] at h
        obtain ⟨a, g1, _⟩ := ix_of (l := l) h0 h1
        refine ⟨a, ix_mem g1, ?_⟩
        rcases Classical.em (p a) with c | c
        · exact c
        · exact absurd (fun b hb => by rw [g1] at hb; cases hb; exact c) h
theorem meets_eq {a b : List Int} (hb : Inc b) (hl : b.length ≤ 500000) : strips_Meets a b = some (dec (∃ x ∈ a, x ∈ b)) := by
  unfold strips_Meets
  rw [containsFunc_eq (fun x => x ∈ b) (fun x _ => by
    unfold strips_Meets_1
    obtain ⟨i, h⟩ := bsearch2 hb hl x
    rw [h]; rfl)]
  rfl
/-! ### Sorted, and equal neighbours made one -/
theorem compact_spec {l : List Int} (hs : l.Pairwise (· ≤ ·)) : Inc (compactL l) ∧ ∀ x, x ∈ compactL l ↔ x ∈ l := by
  have key : ∀ m, m ≤ l.length → Inc (Go.Lib.compactUpTo l.toArray m) ∧ (∀ x, x ∈ Go.Lib.compactUpTo l.toArray m ↔ x ∈ l.take m) := by
    intro m
    induction m with
    | zero => intro _; simp [Go.Lib.compactUpTo]
    | succ m ih =>
      intro hm
      obtain ⟨h1, h2⟩ := ih (by omega)
      have hlt : m < l.length := by omega
      have hd : l.toArray[m]! = l[m] := by simp [hlt]
      have ht : l.take (m + 1) = l.take m ++ [l[m]] := by rw [List.take_add_one]; simp [hlt]
      rw [Go.Lib.compactUpTo_succ, ht]
      by_cases hk : Go.Lib.keeps l.toArray m = true
      · rw [if_pos hk, hd]
        refine ⟨List.pairwise_append.2 ⟨h1, by simp, fun a ha b hb => ?_⟩, fun x => by rw [List.mem_append, List.mem_append, h2]⟩
        simp only [List.mem_singleton] at hb
        subst hb
        have ha' := (h2 a).1 ha
        obtain ⟨i, hi, rfl⟩ := List.mem_iff_getElem.1 ha'
        rw [List.length_take] at hi
        rw [List.getElem_take]
        simp only [Go.Lib.keeps, decide_eq_true_eq] at hk
        rcases hk with hk | hk
        · omega
        · have hm1 : l.toArray[m - 1]! = l[m - 1] := by simp [show m - 1 < l.length by omega]
          rw [hd, hm1] at hk
          have e1 : l[m - 1] ≤ l[m] := List.pairwise_iff_getElem.1 hs (m - 1) m (by omega) hlt (by omega)
          have e2 : l[i] ≤ l[m - 1] := by
            rcases Nat.lt_or_ge i (m - 1) with c | c
            · exact List.pairwise_iff_getElem.1 hs i (m - 1) (by omega) (by omega) c
            · have : i = m - 1 := by omega
              subst this; exact Int.le_refl _
          omega
      · rw [if_neg hk, List.append_nil]
        refine ⟨h1, fun x => ?_⟩
        rw [h2, List.mem_append]
        refine ⟨.inl, fun h => ?_⟩
        rcases h with h | h
        · exact h
        · simp only [List.mem_singleton] at h
          subst h
          have hm0 : m ≠ 0 := fun e => hk (by simp [Go.Lib.keeps, e])
          have hm1 : l.toArray[m - 1]! = l[m - 1] := by simp [show m - 1 < l.length by omega]
          have he : l[m] = l[m - 1] := by
            simp only [Go.Lib.keeps, decide_eq_true_eq, not_or] at hk
            have h3 : l.toArray[m]! = l.toArray[m - 1]! := Classical.not_not.1 (fun h => hk.2 h)
            rw [hd, hm1] at h3; exact h3
          rw [he, List.mem_take_iff_getElem]
          exact ⟨m - 1, by omega, rfl⟩
  obtain ⟨h1, h2⟩ := key l.length (Nat.le_refl _)
  refine ⟨?_, fun x => ?_⟩
  · simpa [compactL, Go.Lib.compact] using h1
  · have := h2 x
    rw [List.take_length] at this
    simpa [compactL, Go.Lib.compact] using this
theorem srt_spec (l : List Int) : (srt l).Pairwise (· ≤ ·) ∧ ∀ x, x ∈ srt l ↔ x ∈ l := by
  refine ⟨?_, fun x => by simp [srt]⟩
  have := List.pairwise_mergeSort (le := fun x y : Int => decide (x ≤ y)) (fun a b c h1 h2 => by simp at h1 h2 ⊢; omega) (fun a b => by simp; omega) l
  refine this.imp fun h => by simpa using h
theorem sortL_eq {l : List Int} (h : l.length < 4611686018427387904) : sortL l = some (srt l) := by rw [sortL, if_pos h]
theorem update_inc {s add del : List Int} (hd : Inc del) (hl : del.length ≤ 500000) (h1 : s.length ≤ 500000) (h2 : add.length ≤ 500000) :
    ∃ r, strips_Update s add del = some r ∧ Inc r ∧ ∀ x, x ∈ r ↔ (x ∈ s ∧ x ∉ del) ∨ x ∈ add := by
  unfold strips_Update
  rw [forR_filter (l := s) (b := 8) (fun a => a ∉ del) (fun j a c h => by
    obtain ⟨i, hi⟩ := bsearch2 hd hl a
    unfold strips_Update_l1
    rw [h]
    simp only [Option.bind_some, hi, dec_not]
    refine ⟨fun hq => ?_, fun hq => ?_⟩
    · rw [if_pos (dec_of hq)]
      cases app 8 c [a] <;> rfl
    · rw [if_neg (by simpa using hq)]; rfl) [] (by simp; omega)]
  simp only [Option.bind_some, List.nil_append]
  have hle : (s.filter fun a => dec (a ∉ del)).length ≤ s.length := List.length_filter_le _ _
  rw [show app 8 (s.filter fun a => dec (a ∉ del)) add = some ((s.filter fun a => dec (a ∉ del)) ++ add) by rw [app, if_pos]; omega]
  simp only [Option.bind_some]
  rw [sortL_eq (by rw [List.length_append]; omega)]
  simp only [Option.bind_some]
  obtain ⟨e1, e2⟩ := srt_spec ((s.filter fun a => dec (a ∉ del)) ++ add)
  obtain ⟨e3, e4⟩ := compact_spec e1
  refine ⟨_, rfl, e3, fun x => ?_⟩
  rw [e4, e2, List.mem_append, List.mem_filter, dec_true]
theorem update_eq {s add del : List Int} {n : Int} (hn : n ≤ 1000) (hd : Inc del) (hl : del.length ≤ 500000) (hs : SetN s n) (ha : SetN add n) :
    strips_Update s add del = some (setOf (fun x => (x ∈ s ∧ x ∉ del) ∨ x ∈ add) n) := by
  have h1 := hs.len; have h2 := ha.len
  obtain ⟨r, e1, e2, e3⟩ := update_inc (s := s) (add := add) hd hl (by omega) (by omega)
  rw [e1, SetN.eq_of (n := n) ⟨e2, fun x hx => ?_⟩ (fun x _ _ => e3 x)]
  rcases (e3 x).1 hx with h | h
  · exact hs.2 x h.1
  · exact ha.2 x h
end Ab
end
section
namespace Ab
open Go
theorem fault_no {f : TFault} (h : f.code ≠ 0) : (!((decide (f.code = 0)) && (decide (f.index = 0)))) = true := by simp [h]
theorem clone_eq {s : List Int} (h : s.length ≤ 1000000) : slices_Clone_int_int s = some s := by
  rw [slices_Clone_int_int, app, if_pos (by simp; omega)]; rfl
end Ab
end
section
namespace Ab
open Go
theorem setN1 (a : Int) {n : Int} (h0 : 0 ≤ a) (h1 : a < n) : SetN [a] n := ⟨by simp, by simp [h0, h1]⟩
theorem subL_drop {α : Type} {l : List α} {i : Int} (h0 : 0 ≤ i) (h1 : i ≤ l.length) : subL l i (l.length : Int) = some (l.drop i.toNat) := by
  rw [subL, if_pos (by omega)]
  rw [show ((l.length : Int)).toNat = l.length by omega, List.take_length]
theorem subL_take {α : Type} {l : List α} {i : Int} (h0 : 0 ≤ i) (h1 : i ≤ l.length) : subL l 0 i = some (l.take i.toNat) := by
  rw [subL, if_pos (by omega)]; rfl
end Ab
end
section
namespace Ab
open Go
/-- Lexicographic order. -/
def llt : List Int → List Int → Prop
  | [], [] => False
  | [], _ :: _ => True
  | _ :: _, [] => False
  | a :: l, b :: m => a < b ∨ a = b ∧ llt l m
theorem llt_irrefl : ∀ l : List Int, ¬ llt l l
  | [] => id
  | a :: l => fun h => by
    rcases h with h | ⟨_, h⟩
    · omega
    · exact llt_irrefl l h
theorem llt_trans : ∀ {a b c : List Int}, llt a b → llt b c → llt a c
  | [], [], _, h, _ => h.elim
  | [], _ :: _, [], _, h => h.elim
  | [], _ :: _, _ :: _, _, _ => trivial
  | _ :: _, [], _, h, _ => h.elim
  | _ :: _, _ :: _, [], _, h => h.elim
  | x :: a, y :: b, z :: c, h, g => by
    rcases h with h | ⟨rfl, h⟩ <;> rcases g with g | ⟨rfl, g⟩
    · exact .inl (by omega)
    · exact .inl h
    · exact .inl g
    · exact .inr ⟨rfl, llt_trans h g⟩
theorem llt_total : ∀ a b : List Int, llt a b ∨ a = b ∨ llt b a
  | [], [] => .inr (.inl rfl)
  | [], _ :: _ => .inl trivial
  | _ :: _, [] => .inr (.inr trivial)
  | x :: a, y :: b => by
    rcases Int.lt_trichotomy x y with h | rfl | h
    · exact .inl (.inl h)
    · rcases llt_total a b with h | rfl | h
      · exact .inl (.inr ⟨rfl, h⟩)
      · exact .inr (.inl rfl)
      · exact .inr (.inr (.inr ⟨rfl, h⟩))
    · exact .inr (.inr (.inl h))
theorem llt_asymm {a b : List Int} (h : llt a b) (g : llt b a) : False := llt_irrefl a (llt_trans h g)
/-- What Compare tells. -/
noncomputable def cmpL (a b : List Int) : Int := if dec (llt a b) = true then -1 else if dec (a = b) = true then 0 else 1
theorem cmpL_lt {a b : List Int} : cmpL a b < 0 ↔ llt a b := by
  unfold cmpL
  by_cases h : llt a b
  · rw [ifP h]; simp [h]
  · rw [ifN h]
    split <;> simp [h]
theorem cmpL_eq {a b : List Int} : cmpL a b = 0 ↔ a = b := by
  unfold cmpL
  by_cases h : llt a b
  · rw [ifP h]
    constructor
    · intro e; omega
    · rintro rfl; exact absurd h (llt_irrefl _)
  · rw [ifN h]
    by_cases g : a = b
    · rw [ifP g]; simp [g]
    · rw [ifN g]; simp [g]
theorem cmpL_ge {a b : List Int} : 0 ≤ cmpL a b ↔ ¬ llt a b := by rw [← cmpL_lt]; omega
theorem cmpInt_eq (x y : Int) : cmp_Compare_int x y = some (if x < y then -1 else if y < x then 1 else 0) := by
  unfold cmp_Compare_int cmp_isNaN_int
  simp only [decide_true, Bool.not_true, Option.bind_some, Bool.false_eq_true, if_false]
  split
  · rfl
  · split <;> rfl
theorem llt_drop : ∀ {a b : List Int} (k : Nat), k ≤ a.length → k ≤ b.length → a.take k = b.take k → (llt a b ↔ llt (a.drop k) (b.drop k))
  | _, _, 0, _, _, _ => by simp
  | [], _, k + 1, h, _, _ => by simp at h
  | _ :: _, [], k + 1, _, h, _ => by simp at h
  | x :: a, y :: b, k + 1, h1, h2, h3 => by
    simp only [List.take_succ_cons, List.cons.injEq] at h3
    obtain ⟨rfl, h3⟩ := h3
    simp only [List.drop_succ_cons]
    rw [← llt_drop k (by simpa using h1) (by simpa using h2) h3]
    simp [llt]
theorem compare_eq (a b : List Int) : slices_Compare_int_int a b = some (cmpL a b) := by
  unfold slices_Compare_int_int
  rcases rngX_inv (body := slices_Compare_int_int_l1 a b) (n := (a.length : Int)) (s := ()) (fun j _ => j ≤ b.length ∧ a.take j.toNat = b.take j.toNat) (fun o => o = cmpL a b) (by omega) ⟨by omega, by simp⟩ (fun j _ j0 j1 ⟨k1, k2⟩ => by
    obtain ⟨x, hx, gx⟩ := ix_of (l := a) j0 j1
    have hxl := (List.getElem?_eq_some_iff.1 gx).2
    unfold slices_Compare_int_int_l1
    rw [hx]
    simp only [Option.bind_some]
    have hd := llt_drop (a := a) (b := b) j.toNat (by omega) (by omega) k2
    have da : a.drop j.toNat = x :: a.drop (j.toNat + 1) := by rw [← hxl]; exact List.drop_eq_getElem_cons (by omega)
    by_cases c : (b.length : Int) ≤ j
    · rw [if_pos c]
      refine .inr ⟨_, rfl, ?_⟩
      have db : b.drop j.toNat = [] := List.drop_of_length_le (by omega)
      rw [da, db] at hd
      unfold cmpL
      rw [ifN (fun h => (hd.1 h).elim), ifN]
      rintro rfl; omega
    · rw [if_neg c]
      obtain ⟨y, hy, gy⟩ := ix_of (l := b) (i := j) j0 (by omega)
      have hyl := (List.getElem?_eq_some_iff.1 gy).2
      have db : b.drop j.toNat = y :: b.drop (j.toNat + 1) := by rw [← hyl]; exact List.drop_eq_getElem_cons (by omega)
      rw [hy]
      simp only [Option.bind_some, cmpInt_eq]
      rw [da, db] at hd
      have hne : x ≠ y → a ≠ b := fun h e => by subst e; rw [hx] at hy; cases hy; exact h rfl
      rcases Int.lt_trichotomy x y with h | rfl | h
      · rw [if_pos h, if_neg (by decide)]
        refine .inr ⟨_, rfl, ?_⟩
        unfold cmpL
        rw [ifP (hd.2 (.inl h))]
      · simp only [Int.lt_irrefl, if_false, if_true]
        refine .inl ⟨(), trivial, by omega, ?_⟩
        rw [show (j + 1).toNat = j.toNat + 1 by omega, List.take_add_one, List.take_add_one, gx, gy, k2]
      · rw [if_neg (show ¬ x < y by omega), if_pos h, if_neg (by decide)]
        refine .inr ⟨_, rfl, ?_⟩
        unfold cmpL
        rw [ifN, ifN (hne (by omega))]
        intro g
        rcases hd.1 g with g | ⟨g, _⟩ <;> omega) with ⟨_, r1, r2, r3⟩ | ⟨o, r1, rfl⟩
  · rw [r1]
    simp only [Option.bind_some]
    have hd := llt_drop (a := a) (b := b) a.length (Nat.le_refl _) (by omega) (by simpa using r3)
    have da : a.drop a.length = [] := by simp
    rw [da] at hd
    have e3 : a = b.take a.length := by simpa using r3
    by_cases c : (a.length : Int) < b.length
    · rw [if_pos c]
      have : b.drop a.length ≠ [] := by simp; omega
      unfold cmpL
      rw [ifP]
      rw [hd]
      cases h : b.drop a.length with
      | nil => exact absurd h this
      | cons x l => trivial
    · rw [if_neg c]
      have : a = b := by rw [e3, List.take_of_length_le (by omega)]
      rw [cmpL_eq.2 this]
  · rw [r1]; rfl
theorem cmp_ok : CmpOk slices_Compare_int_int cmpL := by
  refine ⟨compare_eq, ⟨fun x => ?_, fun x y z h1 h2 => ?_, fun x y z h1 h2 => ?_⟩, fun a b h1 h2 => ?_⟩
  · simp only [Go.Proofs.ltOf, decide_eq_false_iff_not, cmpL_lt]
    exact llt_irrefl x
  · simp only [Go.Proofs.ltOf, decide_eq_true_eq, cmpL_lt] at h1 h2 ⊢
    exact llt_trans h1 h2
  · simp only [Go.Proofs.ltOf, decide_eq_false_iff_not, cmpL_lt] at h1 h2 ⊢
    intro h
    rcases llt_total x y with g | rfl | g
    · exact h1 g
    · exact h2 h
    · exact h2 (llt_trans g h)
  · rw [cmpL_lt] at h1 h2
    rcases llt_total a b with g | g | g
    · exact absurd g h1
    · exact g
    · exact absurd g h2
/-! ### Lists compared -/
/-- Two lists compared element by element. -/
theorem listEq {α : Type} {a b : List α} {body : Int → Unit → Option (Unit ⊕ Bool)} (hl : a.length = b.length) (hb : ∀ j x y, ix a j = some x → ix b j = some y → (x = y ∧ body j () = some (.inl ())) ∨ (x ≠ y ∧ body j () = some (.inr false))) :
    (Option.bind (rngX 0 (a.length : Int) body ()) fun | .inl _ => some true | .inr x => some x) = some (dec (a = b)) := by
  rcases rngX_test (body := body) (n := (a.length : Int)) (fun j => if dec (ix a j = ix b j) = true then none else some false) (by omega) (fun j h0 h1 _ => by
    obtain ⟨x, hx, _⟩ := ix_of (l := a) h0 h1
    obtain ⟨y, hy, _⟩ := ix_of (l := b) (i := j) h0 (by omega)
    rcases hb j x y hx hy with ⟨e, h⟩ | ⟨e, h⟩
    · rw [h, ifP (by rw [hx, hy, e])]
    · rw [h, ifN (by rw [hx, hy]; simpa using e)]) with ⟨h1, h2⟩ | ⟨j, o, h0, h1, h2, _, h4⟩
  · rw [h1, dec_of]
    · rfl
    · refine List.ext_getElem? fun k => ?_
      by_cases hk : k < a.length
      · have := h2 k (by omega) (by omega)
        split at this
        · rename_i e
          have := dec_true.1 e
          rwa [ix_nat, ix_nat] at this
        · cases this
      · rw [List.getElem?_eq_none (by omega), List.getElem?_eq_none (by omega)]
  · rw [h4]
    split at h2
    · cases h2
    · rename_i e
      cases h2
      rw [dec_no (fun h => e (dec_of (by rw [h])))]; rfl
theorem ints_eq (a b : List Int) : ref1_Ints a b = some (dec (a = b)) := by
  unfold ref1_Ints
  by_cases hl : (a.length : Int) = b.length
  · rw [if_pos hl]
    refine listEq (by omega) fun j x y hx hy => ?_
    unfold ref1_Ints_l1
    simp only [hx, hy, Option.bind_some]
    by_cases e : x = y
    · rw [if_pos e]; exact .inl ⟨e, rfl⟩
    · rw [if_neg e]; exact .inr ⟨e, rfl⟩
  · rw [if_neg hl, dec_no (fun h => hl (by rw [h]))]
theorem equal_eq (a b : List Int) : slices_Equal_int_int a b = some (dec (a = b)) := by
  unfold slices_Equal_int_int
  by_cases hl : (a.length : Int) = b.length
  · rw [if_pos hl]
    refine listEq (by omega) fun j x y hx hy => ?_
    unfold slices_Equal_int_int_l1
    simp only [hx, hy, Option.bind_some]
    by_cases e : x = y
    · rw [if_pos e]; exact .inl ⟨e, rfl⟩
    · rw [if_neg e]; exact .inr ⟨e, rfl⟩
  · rw [if_neg hl, dec_no (fun h => hl (by rw [h]))]
theorem place_eq (l : List (List Int)) (s : List Int) : ∃ r, ref1_Place l s = some r ∧ ((r = -1 ∧ s ∉ l) ∨ (0 ≤ r ∧ r < l.length ∧ ix l r = some s ∧ ∀ j, 0 ≤ j → j < r → ix l j ≠ some s)) := by
  unfold ref1_Place
  rcases rngX_test (body := ref1_Place_l1 l s) (n := (l.length : Int)) (fun j => if dec (ix l j = some s) = true then some j else none) (by omega) (fun j h0 h1 _ => by
    obtain ⟨x, hx, _⟩ := ix_of (l := l) h0 h1
    unfold ref1_Place_l1
    simp only [hx, Option.bind_some, ints_eq]
    by_cases e : x = s
    · rw [ifP e, ifP (by rw [e])]
    · rw [ifN e, ifN (by simpa using e)]) with ⟨h1, h2⟩ | ⟨j, o, h0, h1, h2, h3, h4⟩
  · rw [h1]
    refine ⟨-1, rfl, .inl ⟨rfl, fun hs => ?_⟩⟩
    obtain ⟨i, i0, i1, hi⟩ := mem_ix hs
    have := h2 i i0 i1
    rw [ifP hi] at this
    cases this
  · rw [h4]
    split at h2
    · rename_i e
      cases h2
      refine ⟨_, rfl, .inr ⟨h0, h1, dec_true.1 e, fun i i0 i1 => ?_⟩⟩
      have := h3 i i0 i1
      split at this
      · cases this
      · rename_i e
        exact fun h => e (dec_of h)
    · cases h2
/-! ### Ordered lists -/
abbrev Ord (l : List (List Int)) : Prop := l.Pairwise llt
theorem Ord.ext : ∀ {l m : List (List Int)}, Ord l → Ord m → (∀ x, x ∈ l ↔ x ∈ m) → l = m
  | [], [], _, _, _ => rfl
  | [], b :: m, _, _, h => absurd ((h b).2 (by simp)) (by simp)
  | a :: l, [], _, _, h => absurd ((h a).1 (by simp)) (by simp)
  | a :: l, b :: m, hl, hm, h => by
    obtain ⟨l1, l2⟩ := List.pairwise_cons.1 hl
    obtain ⟨m1, m2⟩ := List.pairwise_cons.1 hm
    have hab : a = b := by
      rcases List.mem_cons.1 ((h a).1 (by simp)) with e | e
      · exact e
      · rcases List.mem_cons.1 ((h b).2 (by simp)) with e' | e'
        · exact e'.symm
        · exact (llt_asymm (l1 b e') (m1 a e)).elim
    subst hab
    rw [Ord.ext l2 m2 fun x => ⟨fun hx => ?_, fun hx => ?_⟩]
    · rcases List.mem_cons.1 ((h x).1 (by simp [hx])) with e | e
      · subst e; exact absurd (l1 x hx) (llt_irrefl x)
      · exact e
    · rcases List.mem_cons.1 ((h x).2 (by simp [hx])) with e | e
      · subst e; exact absurd (m1 x hx) (llt_irrefl x)
      · exact e
theorem Ord.get {l : List (List Int)} (h : Ord l) {i j : Int} {a b : List Int} (hi : ix l i = some a) (hj : ix l j = some b) (hij : i < j) : llt a b := by
  obtain ⟨i0, i1, hi⟩ := ix_lo hi
  obtain ⟨j0, j1, hj⟩ := ix_lo hj
  obtain ⟨h1, rfl⟩ := List.getElem?_eq_some_iff.1 hi
  obtain ⟨h2, rfl⟩ := List.getElem?_eq_some_iff.1 hj
  exact List.pairwise_iff_getElem.1 h _ _ h1 h2 (by omega)
theorem Ord.inj {l : List (List Int)} (h : Ord l) {i j : Int} {a : List Int} (hi : ix l i = some a) (hj : ix l j = some a) : i = j := by
  rcases Int.lt_trichotomy i j with e | e | e
  · exact absurd (h.get hi hj e) (llt_irrefl a)
  · exact e
  · exact absurd (h.get hj hi e) (llt_irrefl a)
/-- Equal neighbours made one: what is kept of the first m elements. -/
def ddN (l : List (List Int)) : Nat → List (List Int)
  | 0 => []
  | m + 1 => ddN l m ++ if decide (m = 0 ∨ l[m]? ≠ l[m - 1]?) = true then l[m]?.toList else []
theorem ddN_spec {l : List (List Int)} (hs : l.Pairwise fun a b => ¬ llt b a) : ∀ m, m ≤ l.length → Ord (ddN l m) ∧ ∀ x, x ∈ ddN l m ↔ x ∈ l.take m := by
  intro m
  induction m with
  | zero => intro _; simp [ddN]
  | succ m ih =>
    intro hm
    obtain ⟨h1, h2⟩ := ih (by omega)
    have hlt : m < l.length := by omega
    have ht : l.take (m + 1) = l.take m ++ [l[m]] := by rw [List.take_add_one]; simp [hlt]
    rw [ddN, ht]
    by_cases hk : m = 0 ∨ l[m]? ≠ l[m - 1]?
    · rw [if_pos (by simpa using hk)]
      simp only [List.getElem?_eq_getElem hlt, Option.toList_some]
      refine ⟨List.pairwise_append.2 ⟨h1, by simp, fun a ha b hb => ?_⟩, fun x => by rw [List.mem_append, List.mem_append, h2]⟩
      simp only [List.mem_singleton] at hb
      subst hb
      have ha' := (h2 a).1 ha
      obtain ⟨i, hi, rfl⟩ := List.mem_iff_getElem.1 ha'
      rw [List.length_take] at hi
      rw [List.getElem_take]
      rcases hk with hk | hk
      · omega
      · have hm1 : m - 1 < l.length := by omega
        rw [List.getElem?_eq_getElem hlt, List.getElem?_eq_getElem hm1] at hk
        have e1 : ¬ llt l[m] l[m - 1] := List.pairwise_iff_getElem.1 hs (m - 1) m hm1 hlt (by omega)
        have e2 : llt l[m - 1] l[m] := by
          rcases llt_total l[m - 1] l[m] with h | h | h
          · exact h
          · exact absurd (by rw [h]) hk
          · exact absurd h e1
        by_cases hi2 : i = m - 1
        · subst hi2; exact e2
        · have e3 : ¬ llt l[m - 1] l[i] := List.pairwise_iff_getElem.1 hs i (m - 1) (by omega) hm1 (by omega)
          rcases llt_total l[i] l[m] with h | h | h
          · exact h
          · rw [h] at e3; exact absurd e2 e3
          · exact absurd (llt_trans e2 h) e3
    · rw [if_neg (by simpa using hk), List.append_nil]
      refine ⟨h1, fun x => ?_⟩
      rw [h2, List.mem_append]
      refine ⟨.inl, fun h => ?_⟩
      rcases h with h | h
      · exact h
      · simp only [List.mem_singleton] at h
        subst h
        have hm0 : m ≠ 0 := fun e => hk (.inl e)
        have he : l[m]? = l[m - 1]? := Classical.not_not.1 fun e => hk (.inr e)
        rw [List.getElem?_eq_getElem hlt, List.getElem?_eq_getElem (show m - 1 < l.length by omega)] at he
        rw [Option.some.inj he, List.mem_take_iff_getElem]
        exact ⟨m - 1, by omega, rfl⟩
theorem ddN_len (l : List (List Int)) : ∀ m, (ddN l m).length ≤ m
  | 0 => by simp [ddN]
  | m + 1 => by
    have := ddN_len l m
    rw [ddN, List.length_append]
    split
    · have : (l[m]?.toList).length ≤ 1 := by cases l[m]? <;> simp
      omega
    · simp; omega
theorem ddN_all {l : List (List Int)} : ∀ m, m ≤ l.length → (∀ i, 0 < i → i < m → l[i]? ≠ l[i - 1]?) → ddN l m = l.take m
  | 0, _, _ => by simp [ddN]
  | m + 1, hm, h => by
    rw [ddN, ddN_all m (by omega) fun i h0 h1 => h i h0 (by omega), if_pos, List.take_add_one]
    rw [decide_eq_true_eq]
    by_cases e : m = 0
    · exact .inl e
    · exact .inr (h m (by omega) (by omega))
theorem compactF_eq {l : List (List Int)} (hl : l.length ≤ 1000000) : slices_CompactFunc_int_int_w l = some (ddN l l.length) := by
  unfold slices_CompactFunc_int_int_w
  by_cases c0 : (l.length : Int) < 2
  · rw [if_pos c0, ddN_all l.length (Nat.le_refl _) fun i h0 h1 => by omega, List.take_length]
  · rw [if_neg c0]
    have key := rngN_inv (body := slices_CompactFunc_int_int_w_l1 l) (fun j _ => ∀ i : Nat, 0 < i → (i : Int) < j → l[i]? ≠ l[i - 1]?) (fun o => o = ddN l l.length) ((l.length : Int) - 1).toNat 1 () (fun i h0 h1 => by omega) (fun j _ j0 j1 hP => by
      obtain ⟨a, ha, ga⟩ := ix_of (l := l) (i := j) (by omega) (by omega)
      obtain ⟨b, hb, gb⟩ := ix_of (l := l) (i := j - 1) (by omega) (by omega)
      unfold slices_CompactFunc_int_int_w_l1
      simp only [ha, hb, Option.bind_some, equal_eq]
      have ej : (j - 1).toNat = j.toNat - 1 := by omega
      rw [ej] at gb
      by_cases c : a = b
      · rw [ifP c]
        subst c
        right
        rw [show cutV (l.length : Int) j (l.length : Int) = some () by rw [cutV, if_pos (by omega)]]
        simp only [Option.bind_some]
        obtain ⟨⟨cs, kv⟩, r1, r2, r3, r4, r5, r6⟩ := forN_inv (body := slices_CompactFunc_int_int_w_l2 l j) (fun k2 p => p.1.length = l.length ∧ j ≤ p.2 ∧ p.2 ≤ j + k2 - 1 ∧ p.1.take p.2.toNat = ddN l (j + k2).toNat ∧ ∀ i : Nat, j + k2 - 1 ≤ i → p.1[i]? = l[i]?) ((l.length : Int) - j - 1).toNat 1 (l, j) ⟨rfl, by simp, by dsimp only; omega, by
            dsimp only
            rw [show (j + 1).toNat = j.toNat + 1 by omega, ddN, if_neg, List.append_nil, ddN_all j.toNat (by omega) fun i h0 h1 => hP i h0 (by omega)]
            rw [decide_eq_true_eq]
            rintro (h | h)
            · omega
            · exact h (ga.trans gb.symm), fun i _ => rfl⟩ (fun k2 ⟨cs, kv⟩ k0 k1 ⟨g1, g2, g3, g4, g5⟩ => by
            dsimp only at g1 g2 g3 g4 g5 ⊢
            obtain ⟨x, hx, gx⟩ := ix_of (l := l) (i := j + k2) (by omega) (by omega)
            obtain ⟨y, hy, gy⟩ := ix_of (l := l) (i := j + k2 - 1) (by omega) (by omega)
            have iv : ∀ i : Int, 0 ≤ i → i < (l.length : Int) - j → ixV cs (0 + j) ((l.length : Int) - j) i = ix cs (j + i) := fun i h0 h1 => by
              rw [ixV, if_pos (by omega), Int.zero_add]
            have same : ∀ i : Int, j + k2 - 1 ≤ i → ix cs i = ix l i := fun i hi => by
              have := g5 i.toNat (by omega)
              simp only [ix]
              rw [this]
            unfold slices_CompactFunc_int_int_w_l2
            dsimp only
            rw [iv k2 (by omega) (by omega), iv (k2 - 1) (by omega) (by omega), show j + (k2 - 1) = j + k2 - 1 by omega, same _ (by omega), same _ (by omega), hx, hy]
            simp only [Option.bind_some, equal_eq, dec_not]
            have ek : (j + (k2 + 1)).toNat = (j + k2).toNat + 1 := by omega
            have ek1 : (j + k2 - 1).toNat = (j + k2).toNat - 1 := by omega
            rw [ek1] at gy
            by_cases cx : x = y
            · rw [ifNN cx]
              refine ⟨_, rfl, g1, g2, by omega, ?_, fun i hi => g5 i (by omega)⟩
              dsimp only
              rw [ek, ddN, if_neg, List.append_nil]
              · exact g4
              · rw [decide_eq_true_eq]
                rintro (h | h)
                · omega
                · exact h (by rw [gx, gy, cx])
            · rw [ifP cx]
              obtain ⟨z, hz, gz⟩ := ix_of (l := cs) (i := kv) (by omega) (by omega)
              simp only [hz, Option.bind_some]
              rw [w64_of (by omega) (by omega)]
              refine ⟨_, rfl, by rw [List.length_set]; exact g1, by omega, by omega, ?_, fun i hi => ?_⟩
              · dsimp only
                rw [ek, ddN, if_pos, gx, show (kv + 1).toNat = kv.toNat + 1 by omega, List.take_add_one, List.getElem?_set, if_pos rfl, if_pos (by omega), List.take_set_of_le (Nat.le_refl _), g4]
                rw [decide_eq_true_eq]
                exact .inr (by rw [gx, gy]; simpa using cx)
              · dsimp only
                rw [List.getElem?_set, if_neg (by omega)]
                exact g5 i (by omega))
        have ef : forR 1 ((l.length : Int) - j) (slices_CompactFunc_int_int_w_l2 l j) (l, j) = some (cs, kv) := r1
        dsimp only at r2 r3 r4 r5 r6
        rw [ef]
        simp only [Option.bind_some]
        have hcl : (clrL cs (0 + kv) ((cs.length : Int) - kv) []).length = cs.length := by simp [clrL]; omega
        rw [show cutV (cs.length : Int) kv (cs.length : Int) = some () by rw [cutV, if_pos (by omega)]]
        simp only [Option.bind_some, hcl]
        rw [show cutV (cs.length : Int) 0 kv = some () by rw [cutV, if_pos (by omega)]]
        refine ⟨_, rfl, ?_⟩
        have e1 : viewL (clrL cs (0 + kv) ((cs.length : Int) - kv) []) 0 kv = cs.take kv.toNat := by
          simp only [viewL, clrL, Int.zero_add, Int.toNat_zero, List.drop_zero]
          rw [List.append_assoc, List.take_append_of_le_length (by simp; omega), List.take_take, Nat.min_self]
        rw [e1, r5]
        congr 1
        omega
      · rw [ifN c]
        left
        refine ⟨(), rfl, fun i h0 h1 => ?_⟩
        by_cases e : (i : Int) = j
        · have : i = j.toNat := by omega
          subst this
          rw [ga, gb]
          simpa using c
        · exact hP i h0 (by omega))
    rcases key with ⟨_, h1, h2⟩ | ⟨o, h1, rfl⟩
    · have : rngX 1 (l.length : Int) (slices_CompactFunc_int_int_w_l1 l) () = some (.inl ()) := h1
      rw [this]
      simp only [Option.bind_some]
      rw [ddN_all l.length (Nat.le_refl _) fun i h0 h1 => h2 i h0 (by omega), List.take_length]
    · have : rngX 1 (l.length : Int) (slices_CompactFunc_int_int_w_l1 l) () = some (.inr (ddN l l.length)) := h1
      rw [this]; rfl
theorem normal_eq {l : List (List Int)} (hl : l.length ≤ 1000000) : ∃ r, belief_Normal_w l = some r ∧ Ord r ∧ (∀ x, x ∈ r ↔ x ∈ l) ∧ r.length ≤ l.length := by
  unfold belief_Normal_w
  rw [sortFL_eq (by omega) cmp_ok]
  simp only [Option.bind_some]
  have hlen : (l.mergeSort fun x y => decide (¬ cmpL y x < 0)).length = l.length := by simp
  rw [compactF_eq (by rw [hlen]; exact hl)]
  have hs : (l.mergeSort fun x y => decide (¬ cmpL y x < 0)).Pairwise fun a b => ¬ llt b a := by
    have := List.pairwise_mergeSort (le := fun x y : List Int => decide (¬ cmpL y x < 0)) (fun a b c h1 h2 => by
      simp only [decide_eq_true_eq, cmpL_lt] at h1 h2 ⊢
      intro h
      rcases llt_total b a with g | g | g
      · exact h1 g
      · subst g; exact h2 h
      · exact h2 (llt_trans h g)) (fun a b => by
      simp only [Bool.or_eq_true, decide_eq_true_eq, cmpL_lt]
      by_cases h : llt b a
      · exact .inr fun g => llt_asymm h g
      · exact .inl h) l
    exact this.imp fun h => by simpa [cmpL_lt] using h
  obtain ⟨h1, h2⟩ := ddN_spec hs _ (Nat.le_refl _)
  refine ⟨_, rfl, h1, fun x => ?_, ?_⟩
  · rw [h2, List.take_length]; simp
  · have := ddN_len (l.mergeSort fun x y => decide (¬ cmpL y x < 0)) (l.mergeSort fun x y => decide (¬ cmpL y x < 0)).length
    rw [hlen] at this
    rw [hlen]; exact this
end Ab
end
section
namespace Ab
open Go
theorem forN_congr {S : Type} {b1 b2 : Int → S → Option S} : ∀ (k : Nat) (i : Int) (s : S), (∀ j s, i ≤ j → j < i + k → b1 j s = b2 j s) → forN b1 k i s = forN b2 k i s
  | 0, _, _, _ => rfl
  | k + 1, i, s, h => by
    simp only [forN]
    rw [h i s (by omega) (by omega)]
    cases b2 i s with
    | none => rfl
    | some s' => exact forN_congr k (i + 1) s' fun j s g1 g2 => h j s (by omega) (by omega)
theorem forR_congr {S : Type} {b1 b2 : Int → S → Option S} {lo n : Int} {s : S} (h : ∀ j s, lo ≤ j → j < n → b1 j s = b2 j s) : forR lo n b1 s = forR lo n b2 s :=
  forN_congr _ _ _ fun j s g1 g2 => h j s g1 (by omega)
/-! ### Binary search by a key -/
def bsl {A B : Type} (xv : List A) (target : B) (cmp : A → B → Option Int) : (Int × Int) → Option ((Int × Int) ⊕ Int) := fun (iv4, j5) => if iv4 < j5 then Option.bind (ix xv (w64 (shrW .u64 ((IntKind.u64).wrap (w64 (iv4 + j5))) 1))) fun a27 => Option.bind (cmp a27 target) fun a30 => if a30 < 0 then some (.inl (w64 ((w64 (shrW .u64 ((IntKind.u64).wrap (w64 (iv4 + j5))) 1)) + 1), j5)) else some (.inl (iv4, w64 (shrW .u64 ((IntKind.u64).wrap (w64 (iv4 + j5))) 1))) else some (.inr iv4)
noncomputable def bsf {A B : Type} (xv : List A) (target : B) (cmp : A → B → Option Int) : Option (Int × Bool) := Option.bind (Loop (bsl xv target cmp) (0, (xv.length : Int))) fun iv6 => Option.bind (if iv6 < (xv.length : Int) then Option.bind (ix xv iv6) fun a43 => Option.bind (cmp a43 target) fun a46 => some (decide (a46 = 0)) else some false) fun t9 => some (iv6, t9)
theorem ordMap_get {A : Type} {key : A → List Int} {xs : List A} (h : Ord (xs.map key)) {i j : Int} {a b : A} (hi : ix xs i = some a) (hj : ix xs j = some b) (hij : i < j) : llt (key a) (key b) := by
  obtain ⟨i0, i1, hi⟩ := ix_lo hi
  obtain ⟨j0, j1, hj⟩ := ix_lo hj
  refine h.get (i := i) (j := j) ?_ ?_ hij
  · rw [ix, if_pos i0, List.getElem?_map, hi]; rfl
  · rw [ix, if_pos j0, List.getElem?_map, hj]; rfl
theorem bsf_full {A : Type} {key : A → List Int} {xs : List A} {t : List Int} {cmp : A → List Int → Option Int} (hs : Ord (xs.map key)) (hl : xs.length ≤ 500000) (hc : ∀ a, cmp a t = some (cmpL (key a) t)) :
    ∃ i, bsf xs t cmp = some (i, dec (∃ a ∈ xs, key a = t)) ∧ 0 ≤ i ∧ (∀ k a, ix xs k = some a → key a = t → k = i) ∧ i ≤ xs.length ∧ (∀ k a, 0 ≤ k → k < i → ix xs k = some a → llt (key a) t) ∧ (∀ k a, i ≤ k → ix xs k = some a → ¬ llt (key a) t) := by
  unfold bsf
  obtain ⟨i, h1, h2, h3, h4, h5⟩ := Loop_inv (body := bsl xs t cmp) (fun p => (0 ≤ p.1 ∧ p.1 ≤ p.2 ∧ p.2 ≤ xs.length) ∧ (∀ k a, 0 ≤ k → k < p.1 → ix xs k = some a → llt (key a) t) ∧ (∀ k a, p.2 ≤ k → ix xs k = some a → ¬ llt (key a) t))
    (fun i => 0 ≤ i ∧ i ≤ xs.length ∧ (∀ k a, 0 ≤ k → k < i → ix xs k = some a → llt (key a) t) ∧ (∀ k a, i ≤ k → ix xs k = some a → ¬ llt (key a) t)) (fun p => (p.2 - p.1).toNat) (s := (0, (xs.length : Int)))
    ⟨⟨by simp, by simp, by simp⟩, fun k a h1 h2 => by simp at h2; omega, fun k a h1 h2 => by have := (ix_lo h2).2.1; simp at h1; omega⟩ (fun ⟨i, j⟩ ⟨⟨g1, g2, g3⟩, g4, g5⟩ => by
    dsimp only at g1 g2 g3 g4 g5 ⊢
    unfold bsl
    dsimp only
    by_cases c : i < j
    · rw [if_pos c, half_eq g1 g2 (by omega)]
      obtain ⟨a, ha, ga⟩ := ix_of (l := xs) (i := (i + j) / 2) (by omega) (by omega)
      rw [ha]
      simp only [Option.bind_some, hc, cmpL_lt]
      by_cases c2 : llt (key a) t
      · rw [if_pos (cmpL_lt.2 c2), w64_of (by omega) (by omega)]
        refine .inl ⟨_, rfl, ⟨⟨by dsimp only; omega, by dsimp only; omega, g3⟩, fun k b k0 k1 hb => ?_, g5⟩, by dsimp only; omega⟩
        dsimp only at k1
        by_cases e : k = (i + j) / 2
        · subst e; rw [ha] at hb; cases hb; exact c2
        · exact llt_trans (ordMap_get hs hb ha (by omega)) c2
      · rw [if_neg (fun h => c2 (cmpL_lt.1 h))]
        refine .inl ⟨_, rfl, ⟨⟨g1, by dsimp only; omega, by dsimp only; omega⟩, g4, fun k b k0 hb => ?_⟩, by dsimp only; omega⟩
        dsimp only at k0
        by_cases e : k = (i + j) / 2
        · subst e; rw [ha] at hb; cases hb; exact c2
        · exact fun h => c2 (llt_trans (ordMap_get hs ha hb (by omega)) h)
    · rw [if_neg c]
      have : i = j := by omega
      subst this
      exact .inr ⟨i, rfl, g1, g3, g4, g5⟩)
  rw [h1]
  simp only [Option.bind_some]
  have uniq : ∀ k a, ix xs k = some a → key a = t → k = i := fun k a hk he => by
    rcases Int.lt_trichotomy k i with c | c | c
    · have := h4 k a (ix_lo hk).1 c hk; rw [he] at this; exact absurd this (llt_irrefl t)
    · exact c
    · obtain ⟨b, hb, gb⟩ := ix_of (l := xs) (i := i) h2 (by have := (ix_lo hk).2.1; omega)
      have := ordMap_get hs hb hk c
      rw [he] at this
      exact absurd this (h5 i b (Int.le_refl _) hb)
  refine ⟨i, ?_, h2, uniq, h3, h4, h5⟩
  by_cases c : i < xs.length
  · obtain ⟨a, ha, ga⟩ := ix_of (l := xs) (i := i) (by omega) c
    rw [if_pos c, ha]
    simp only [Option.bind_some, hc]
    by_cases c2 : key a = t
    · rw [decide_eq_true (cmpL_eq.2 c2), dec_of ⟨a, ix_mem ha, c2⟩]
    · rw [decide_eq_false (fun h => c2 (cmpL_eq.1 h)), dec_no]
      rintro ⟨b, hb, e⟩
      obtain ⟨k, k0, k1, hk⟩ := mem_ix hb
      have := uniq k b hk e
      subst this
      rw [hk] at ha; cases ha; exact c2 e
  · rw [if_neg c]
    simp only [Option.bind_some]
    rw [dec_no]
    rintro ⟨b, hb, e⟩
    obtain ⟨k, k0, k1, hk⟩ := mem_ix hb
    have := uniq k b hk e
    omega
theorem bsf_eq {A : Type} {key : A → List Int} {xs : List A} {t : List Int} {cmp : A → List Int → Option Int} (hs : Ord (xs.map key)) (hl : xs.length ≤ 500000) (hc : ∀ a, cmp a t = some (cmpL (key a) t)) :
    ∃ i, bsf xs t cmp = some (i, dec (∃ a ∈ xs, key a = t)) ∧ 0 ≤ i ∧ ∀ k a, ix xs k = some a → key a = t → k = i := by
  obtain ⟨i, h1, h2, h3, _⟩ := bsf_full hs hl hc
  exact ⟨i, h1, h2, h3⟩
theorem bsets_eq {xs : List (List Int)} {t : List Int} (hs : Ord xs) (hl : xs.length ≤ 500000) : ∃ i, slices_BinarySearchFunc_int_int_int xs t slices_Compare_int_int = some (i, dec (t ∈ xs)) ∧ 0 ≤ i ∧ ∀ k, ix xs k = some t → k = i := by
  obtain ⟨i, h1, h2, h3⟩ := bsf_eq (key := fun a => a) (xs := xs) (t := t) (cmp := slices_Compare_int_int) (by simpa using hs) hl (fun a => compare_eq a t)
  refine ⟨i, ?_, h2, fun k hk => h3 k t hk rfl⟩
  have : slices_BinarySearchFunc_int_int_int xs t slices_Compare_int_int = bsf xs t slices_Compare_int_int := rfl
  rw [this, h1]
  simp
/-! ### The order that the specification tells -/
theorem before_eq {a b : List Int} (ha : a.length ≤ 1000000) : ref7_Before a b = some (dec (llt a b)) := by
  unfold ref7_Before
  obtain ⟨o, h1, h2⟩ := Loop_inv (body := ref7_Before_l1 a b) (fun k => 0 ≤ k ∧ k ≤ a.length ∧ k ≤ b.length ∧ a.take k.toNat = b.take k.toNat) (fun o => (match o with | .inl _ => some (decide ((a.length : Int) < (b.length : Int))) | .inr x => some x) = some (dec (llt a b))) (fun k => (a.length - k).toNat) (s := 0) ⟨by omega, by omega, by omega, by simp⟩ (fun k ⟨g0, g1, g2, g3⟩ => by
    have hd := llt_drop (a := a) (b := b) k.toNat (by omega) (by omega) g3
    unfold ref7_Before_l1
    by_cases c : k < a.length ∧ k < b.length
    · rw [if_pos (by simpa using c)]
      obtain ⟨x, hx, gx⟩ := ix_of (l := a) g0 c.1
      obtain ⟨y, hy, gy⟩ := ix_of (l := b) g0 c.2
      have da : a.drop k.toNat = x :: a.drop (k.toNat + 1) := by
        obtain ⟨hlt, rfl⟩ := List.getElem?_eq_some_iff.1 gx
        exact List.drop_eq_getElem_cons hlt
      have db : b.drop k.toNat = y :: b.drop (k.toNat + 1) := by
        obtain ⟨hlt, rfl⟩ := List.getElem?_eq_some_iff.1 gy
        exact List.drop_eq_getElem_cons hlt
      rw [da, db] at hd
      simp only [hx, hy, Option.bind_some]
      by_cases e : x = y
      · subst e
        rw [if_pos rfl, w64_of (by omega) (by omega)]
        refine .inl ⟨k + 1, rfl, ⟨by omega, by omega, by omega, ?_⟩, by omega⟩
        rw [show (k + 1).toNat = k.toNat + 1 by omega, List.take_add_one, List.take_add_one, gx, gy, g3]
      · rw [if_neg e]
        refine .inr ⟨_, rfl, ?_⟩
        dsimp only
        rw [decide_dec]
        refine congrArg some (dec_congr ?_)
        rw [hd]
        exact ⟨fun h => .inl h, fun h => h.resolve_right fun g => e g.1⟩
    · rw [if_neg (by simpa using c)]
      refine .inr ⟨_, rfl, ?_⟩
      dsimp only
      rw [decide_dec]
      refine congrArg some (dec_congr ?_)
      rw [hd]
      by_cases ca : k < a.length
      · have db : b.drop k.toNat = [] := List.drop_of_length_le (by omega)
        rw [db]
        constructor
        · intro h; omega
        · intro h; cases h' : a.drop k.toNat with
          | nil => rw [h'] at h; exact h.elim
          | cons z l => rw [h'] at h; exact h.elim
      · have da : a.drop k.toNat = [] := List.drop_of_length_le (by omega)
        rw [da]
        constructor
        · intro h
          cases h' : b.drop k.toNat with
          | nil => have := List.drop_eq_nil_iff.1 h'; omega
          | cons z l => trivial
        · intro h
          cases h' : b.drop k.toNat with
          | nil => rw [h'] at h; exact h.elim
          | cons z l =>
            have : ¬ b.length ≤ k.toNat := fun g => by rw [List.drop_of_length_le g] at h'; cases h'
            omega)
  rw [h1]
  simp only [Option.bind_some]
  exact h2
theorem ord_append {l m : List (List Int)} (hl : Ord l) (hm : Ord m) (h : ∀ a ∈ l, ∀ b ∈ m, llt a b) : Ord (l ++ m) := List.pairwise_append.2 ⟨hl, hm, h⟩
/-- Inserting a set. -/
theorem insert_eq {l : List (List Int)} (h : Ord l) (hl : l.length ≤ 1000000) (hw : ∀ x ∈ l, x.length ≤ 1000000) (s : List Int) : ∃ r, ref7_Insert l s = some r ∧ Ord r ∧ (∀ x, x ∈ r ↔ x = s ∨ x ∈ l) ∧ r.length ≤ l.length + 1 := by
  unfold ref7_Insert
  obtain ⟨k, h1, k0, k1, k2, k3⟩ := Loop_inv (body := ref7_Insert_l1 l s) (fun k => 0 ≤ k ∧ k ≤ l.length ∧ ∀ i a, i < k → ix l i = some a → llt a s) (fun k => 0 ≤ k ∧ k ≤ l.length ∧ (∀ i a, i < k → ix l i = some a → llt a s) ∧ ∀ a, ix l k = some a → ¬ llt a s) (fun k => (l.length - k).toNat) (s := 0) ⟨by omega, by omega, fun i a hi ha => by have := (ix_lo ha).1; omega⟩ (fun k ⟨g0, g1, g2⟩ => by
    unfold ref7_Insert_l1
    by_cases c : k < l.length
    · obtain ⟨a, ha, ga⟩ := ix_of (l := l) g0 c
      rw [if_pos c, ha]
      simp only [Option.bind_some, before_eq (hw a (ix_mem ha))]
      by_cases c2 : llt a s
      · rw [ifP c2, w64_of (by omega) (by omega)]
        refine .inl ⟨_, rfl, ⟨by omega, by omega, fun i b hi hb => ?_⟩, by omega⟩
        by_cases e : i = k
        · subst e; rw [ha] at hb; cases hb; exact c2
        · exact g2 i b (by omega) hb
      · rw [ifN c2]
        exact .inr ⟨k, rfl, g0, g1, g2, fun b hb => by rw [ha] at hb; cases hb; exact c2⟩
    · rw [if_neg c]
      exact .inr ⟨k, rfl, g0, g1, g2, fun b hb => by have := (ix_lo hb).2.1; omega⟩)
  rw [h1]
  simp only [Option.bind_some]
  have step : (Option.bind (if k < (l.length : Int) then Option.bind (ix l k) fun a27 => Option.bind (ref1_Ints a27 s) fun a30 => some a30 else some false) fun t9 => if t9 = true then some l else Option.bind (subL l 0 k) fun a36 => Option.bind (app 24 ([] : List (List Int)) a36) fun a37 => Option.bind (app 24 a37 [s]) fun a40 => Option.bind (subL l k (l.length : Int)) fun a43 => Option.bind (app 24 a40 a43) fun a44 => some a44) = if dec (ix l k = some s) = true then some l else some (l.take k.toNat ++ [s] ++ l.drop k.toNat) := by
    have e : (if k < (l.length : Int) then Option.bind (ix l k) fun a27 => Option.bind (ref1_Ints a27 s) fun a30 => some a30 else some false) = some (dec (ix l k = some s)) := by
      by_cases c : k < l.length
      · obtain ⟨a, ha, ga⟩ := ix_of (l := l) k0 c
        rw [if_pos c, ha]
        simp only [Option.bind_some, ints_eq]
        exact congrArg some (dec_congr (by simp))
      · rw [if_neg c, dec_no]
        intro h; have := (ix_lo h).2.1; omega
    rw [e]
    simp only [Option.bind_some]
    by_cases c : ix l k = some s
    · rw [ifP c, ifP c]
    · rw [ifN c, ifN c, subL_take k0 (by omega), subL_drop k0 (by omega)]
      simp only [Option.bind_some]
      rw [app, if_pos (by simp; omega)]
      simp only [Option.bind_some, List.nil_append]
      rw [app, if_pos (by simp; omega)]
      simp only [Option.bind_some]
      rw [app, if_pos (by simp; omega)]
      rfl
  rw [step]
  by_cases c : ix l k = some s
  · rw [ifP c]
    exact ⟨l, rfl, h, fun x => ⟨.inr, fun g => g.elim (fun e => e ▸ ix_mem c) id⟩, by omega⟩
  · rw [ifN c]
    refine ⟨_, rfl, ?_, fun x => ?_, by simp; omega⟩
    · have ht : Ord (l.take k.toNat) := h.sublist (List.take_sublist _ _)
      have hd : Ord (l.drop k.toNat) := h.sublist (List.drop_sublist _ _)
      have b1 : ∀ a ∈ l.take k.toNat, llt a s := fun a ha => by
        obtain ⟨i, hi, e⟩ := List.mem_take_iff_getElem.1 ha
        exact k2 (i : Int) a (by omega) (by rw [ix_nat, ← e]; exact List.getElem?_eq_getElem _)
      have b2 : ∀ a ∈ l.drop k.toNat, llt s a := fun a ha => by
        obtain ⟨i, hi, e⟩ := List.mem_drop_iff_getElem.1 ha
        have hlk : k < l.length := by omega
        obtain ⟨z, hz, gz⟩ := ix_of (l := l) k0 hlk
        have nz := k3 z hz
        have nz2 : llt s z := by
          rcases llt_total z s with g | g | g
          · exact absurd g nz
          · exact absurd (g ▸ hz) c
          · exact g
        by_cases i0 : i = 0
        · subst i0
          obtain ⟨q1, q2⟩ := List.getElem?_eq_some_iff.1 gz
          have : a = z := by rw [← e, ← q2]; simp
          rw [this]; exact nz2
        · refine llt_trans nz2 (h.get hz (j := k + i) ?_ (by omega))
          rw [show k + (i : Int) = ((k.toNat + i : Nat) : Int) by omega, ix_nat, ← e]
          exact List.getElem?_eq_getElem _
      refine ord_append (ord_append ht (by simp) fun a ha b hb => ?_) hd fun a ha b hb => ?_
      · simp only [List.mem_singleton] at hb; subst hb; exact b1 a ha
      · rcases List.mem_append.1 ha with ha | ha
        · exact llt_trans (b1 a ha) (b2 b hb)
        · simp only [List.mem_singleton] at ha; subst ha; exact b2 b hb
    · rw [List.mem_append, List.mem_append, List.mem_singleton]
      have := List.take_append_drop k.toNat l
      constructor
      · rintro ((g | g) | g)
        · exact .inr (List.mem_of_mem_take g)
        · exact .inl g
        · exact .inr (List.mem_of_mem_drop g)
      · rintro (g | g)
        · exact .inl (.inr g)
        · rw [← this] at g
          rcases List.mem_append.1 g with g | g
          · exact .inl (.inl g)
          · exact .inr g
end Ab
end
section
namespace Ab
open Go
def xSets (x : TOutcome) (n : Int) : Prop := SetN x.add n ∧ SetN x.del n ∧ ∀ a ∈ x.add, a ∉ x.del
def xWt (x : TOutcome) : Prop := 1 ≤ x.weight ∧ x.weight ≤ 6
noncomputable def xCode (n : Int) (x : TOutcome) : Int := if dec (xSets x n) = true then if dec (xWt x) = true then 0 else 3 else 5
noncomputable def xsCode (n : Int) : List TOutcome → Int
  | [] => 0
  | x :: l => if xCode n x = 0 then xsCode n l else xCode n x
theorem xCode_zero {n : Int} {x : TOutcome} : xCode n x = 0 ↔ xSets x n ∧ xWt x := by
  unfold xCode
  by_cases c1 : xSets x n
  · rw [ifP c1]
    by_cases c2 : xWt x
    · rw [ifP c2]; exact ⟨fun _ => ⟨c1, c2⟩, fun _ => rfl⟩
    · rw [ifN c2]; exact ⟨fun h => by omega, fun h => absurd h.2 c2⟩
  · rw [ifN c1]; exact ⟨fun h => by omega, fun h => absurd h.1 c1⟩
theorem xsCode_zero {n : Int} : ∀ {l : List TOutcome}, xsCode n l = 0 ↔ ∀ x ∈ l, xSets x n ∧ xWt x
  | [] => by simp [xsCode]
  | x :: l => by
    rw [xsCode]
    by_cases c : xCode n x = 0
    · rw [if_pos c, xsCode_zero]; simp [xCode_zero.1 c]
    · rw [if_neg c]
      exact ⟨fun h => absurd h c, fun h => absurd (xCode_zero.2 (h x (by simp))) c⟩
structure OOk (o : TOpenOperator) (n : Int) : Prop where
  pre : SetN o.pre n
  c0 : 0 ≤ o.cost
  c1 : o.cost ≤ 100
  l0 : 1 ≤ o.outcomes.length
  l1 : o.outcomes.length ≤ 4
  xs : ∀ x ∈ o.outcomes, xSets x n ∧ xWt x
noncomputable def oHead (o : TOpenOperator) (n : Int) : Int := if dec (SetN o.pre n) = true then if dec (0 ≤ o.cost ∧ o.cost ≤ 100) = true then if dec (1 ≤ (o.outcomes.length : Int) ∧ (o.outcomes.length : Int) ≤ 4) = true then 0 else 9 else 3 else 5
noncomputable def oCode (o : TOpenOperator) (n : Int) : Int := if oHead o n = 0 then xsCode n o.outcomes else oHead o n
theorem oHead_zero {o : TOpenOperator} {n : Int} : oHead o n = 0 ↔ SetN o.pre n ∧ (0 ≤ o.cost ∧ o.cost ≤ 100) ∧ (1 ≤ (o.outcomes.length : Int) ∧ (o.outcomes.length : Int) ≤ 4) := by
  unfold oHead
  by_cases c1 : SetN o.pre n
  · rw [ifP c1]
    by_cases c2 : 0 ≤ o.cost ∧ o.cost ≤ 100
    · rw [ifP c2]
      by_cases c3 : 1 ≤ (o.outcomes.length : Int) ∧ (o.outcomes.length : Int) ≤ 4
      · rw [ifP c3]; exact ⟨fun _ => ⟨c1, c2, c3⟩, fun _ => rfl⟩
      · rw [ifN c3]; exact ⟨fun h => by omega, fun h => absurd h.2.2 c3⟩
    · rw [ifN c2]; exact ⟨fun h => by omega, fun h => absurd h.2.1 c2⟩
  · rw [ifN c1]; exact ⟨fun h => by omega, fun h => absurd h.1 c1⟩
theorem oCode_of {o : TOpenOperator} {n : Int} (h : OOk o n) : oCode o n = 0 := by
  have := h.l0; have := h.l1
  rw [oCode, if_pos (oHead_zero.2 ⟨h.pre, ⟨h.c0, h.c1⟩, by omega, by omega⟩), xsCode_zero]
  exact h.xs
theorem oCode_ok {o : TOpenOperator} {n : Int} (h : oCode o n = 0) : OOk o n := by
  unfold oCode at h
  by_cases c : oHead o n = 0
  · rw [if_pos c] at h
    obtain ⟨g1, g2, g3⟩ := oHead_zero.1 c
    exact ⟨g1, g2.1, g2.2, by omega, by omega, xsCode_zero.1 h⟩
  · rw [if_neg c] at h; exact absurd h c
theorem oc1 {o : TOpenOperator} {n : Int} (h0 : 0 ≤ n) (h1 : n ≤ 24) {j : Int} {x : TOutcome} (hx : ix o.outcomes j = some x) : open_operatorCode_l1 o n j () = some (if xCode n x = 0 then .inl () else .inr (xCode n x)) := by
  unfold open_operatorCode_l1
  rw [hx]
  simp only [Option.bind_some, isSet_eq, dec_not]
  by_cases g1 : SetN x.add n
  · rw [ifNN g1]
    by_cases g2 : SetN x.del n
    · have := g2.len
      rw [ifNN g2, meets_eq g2.1 (by omega)]
      simp only [Option.bind_some]
      by_cases g3 : ∀ a ∈ x.add, a ∉ x.del
      · have g : xSets x n := ⟨g1, g2, g3⟩
        rw [ifN (fun ⟨a, ha, hb⟩ => g3 a ha hb)]
        unfold xCode
        rw [ifP g]
        by_cases g4 : xWt x
        · have g5 := g4
          unfold xWt at g5
          rw [ifP g4, if_neg (by simp; omega)]; rfl
        · have g5 := g4
          unfold xWt at g5
          rw [ifN g4, if_pos (by simp; omega)]; rfl
      · have g : ¬ xSets x n := fun h => g3 h.2.2
        rw [ifP (by
          rw [Classical.not_forall] at g3
          obtain ⟨a, ha⟩ := g3
          exact ⟨a, Classical.not_imp.1 ha |>.1, Classical.not_not.1 (Classical.not_imp.1 ha).2⟩)]
        unfold xCode
        rw [ifN g]; rfl
    · have g : ¬ xSets x n := fun h => g2 h.2.1
      rw [ifP g2]
      unfold xCode
      rw [ifN g]; rfl
  · have g : ¬ xSets x n := fun h => g1 h.1
    rw [ifP g1]
    unfold xCode
    rw [ifN g]; rfl
theorem operatorCode_eq {o : TOpenOperator} {n : Int} (h0 : 0 ≤ n) (h1 : n ≤ 24) : open_operatorCode o n = some (oCode o n) := by
  unfold open_operatorCode
  simp only [isSet_eq, Option.bind_some, dec_not]
  unfold oCode oHead
  by_cases c1 : SetN o.pre n
  · rw [ifNN c1, ifP c1]
    by_cases c2 : 0 ≤ o.cost ∧ o.cost ≤ 100
    · rw [if_neg (show ¬ ((decide (o.cost < 0)) || (decide (100 < o.cost))) = true by rw [Bool.or_eq_true, decide_eq_true_eq, decide_eq_true_eq]; omega), ifP c2]
      by_cases c3 : 1 ≤ (o.outcomes.length : Int) ∧ (o.outcomes.length : Int) ≤ 4
      · rw [if_neg (show ¬ ((decide ((o.outcomes.length : Int) = 0)) || (decide (4 < (o.outcomes.length : Int)))) = true by rw [Bool.or_eq_true, decide_eq_true_eq, decide_eq_true_eq]; omega), ifP c3, if_pos rfl]
        rcases rngX_inv (body := open_operatorCode_l1 o n) (n := (o.outcomes.length : Int)) (fun j _ => xsCode n o.outcomes = xsCode n (o.outcomes.drop j.toNat)) (fun c => c = xsCode n o.outcomes) (s := ()) (by omega) (by simp) (fun j _ j0 j1 hP => by
          obtain ⟨x, hx, gx⟩ := ix_of (l := o.outcomes) j0 j1
          have hd : o.outcomes.drop j.toNat = x :: o.outcomes.drop (j.toNat + 1) := by
            obtain ⟨hlt, rfl⟩ := List.getElem?_eq_some_iff.1 gx
            exact List.drop_eq_getElem_cons hlt
          rw [oc1 h0 h1 hx]
          rw [hd, xsCode] at hP
          by_cases e : xCode n x = 0
          · rw [if_pos e] at hP ⊢
            exact .inl ⟨(), rfl, by rw [hP, show (j + 1).toNat = j.toNat + 1 by omega]⟩
          · rw [if_neg e] at hP ⊢
            exact .inr ⟨_, rfl, hP.symm⟩) with ⟨_, r1, r2⟩ | ⟨c, r1, rfl⟩
        · rw [r1, r2]; simp [xsCode]
        · rw [r1]; rfl
      · rw [if_pos (show ((decide ((o.outcomes.length : Int) = 0)) || (decide (4 < (o.outcomes.length : Int)))) = true by rw [Bool.or_eq_true, decide_eq_true_eq, decide_eq_true_eq]; omega), ifN c3]; rfl
    · rw [if_pos (show ((decide (o.cost < 0)) || (decide (100 < o.cost))) = true by rw [Bool.or_eq_true, decide_eq_true_eq, decide_eq_true_eq]; omega), ifN c2]; rfl
  · rw [ifP c1, ifN c1]; rfl
theorem of2 {t : TOpenTask} {o : TOpenOperator} (h0 : 0 ≤ t.facts) (h1 : t.facts ≤ 24) (hl : o.outcomes.length ≤ 1000000) (c : Int) : Loop (ref8_OpenFault_l2 t o) (c, 0) = some (if c = 0 then xsCode t.facts o.outcomes else c) := by
  obtain ⟨r, r1, r2⟩ := Loop_inv (body := ref8_OpenFault_l2 t o) (fun p => 0 ≤ p.2 ∧ p.2 ≤ o.outcomes.length ∧ (if c = 0 then xsCode t.facts o.outcomes else c) = if p.1 = 0 then xsCode t.facts (o.outcomes.drop p.2.toNat) else p.1) (fun r => r = if c = 0 then xsCode t.facts o.outcomes else c) (fun p => (o.outcomes.length - p.2).toNat) (s := (c, 0)) ⟨by simp, by simp, by simp⟩ (fun ⟨e, j⟩ ⟨g0, g1, g2⟩ => by
    dsimp only at g0 g1 g2 ⊢
    unfold ref8_OpenFault_l2
    dsimp only
    by_cases cj : j < o.outcomes.length ∧ e = 0
    · rw [if_pos (by simpa using cj)]
      obtain ⟨x, hx, gx⟩ := ix_of (l := o.outcomes) g0 cj.1
      have hd : o.outcomes.drop j.toNat = x :: o.outcomes.drop (j.toNat + 1) := by
        obtain ⟨hlt, rfl⟩ := List.getElem?_eq_some_iff.1 gx
        exact List.drop_eq_getElem_cons hlt
      rw [cj.2, if_pos rfl, hd, xsCode] at g2
      rw [hx]
      simp only [Option.bind_some, rIsSet_eq (n := t.facts) _ (show -9223372036854775808 < t.facts by omega) (show t.facts ≤ 9223372036854775807 by omega), disjoint_eq, in_eq, dec_not, cj.2]
      have hp : (if dec (¬ SetN x.add t.facts) = true then some true else if dec (¬ SetN x.del t.facts) = true then some true else some (dec (¬ ∀ a ∈ x.add, a ∉ x.del))) = some (dec (¬ xSets x t.facts)) := by
        unfold xSets
        by_cases k1 : SetN x.add t.facts
        · rw [ifNN k1]
          by_cases k2 : SetN x.del t.facts
          · rw [ifNN k2]
            exact congrArg some (dec_congr ⟨fun h k => h k.2.2, fun h k => h ⟨k1, k2, k⟩⟩)
          · rw [ifP k2, dec_of (fun k => k2 k.2.1)]
        · rw [ifP k1, dec_of (fun k => k1 k.1)]
      rw [hp]
      simp only [Option.bind_some]
      rw [w64_of (by omega) (by omega)]
      have fin : (if dec (¬ xSets x t.facts) = true then some (5 : Int) else if dec (¬ (1 ≤ x.weight ∧ x.weight ≤ 6)) = true then some 3 else some 0) = some (xCode t.facts x) := by
        unfold xCode
        by_cases k1 : xSets x t.facts
        · rw [ifNN k1, ifP k1]
          by_cases k2 : xWt x
          · rw [ifNN (p := 1 ≤ x.weight ∧ x.weight ≤ 6) k2, ifP k2]
          · rw [ifP (p := ¬ (1 ≤ x.weight ∧ x.weight ≤ 6)) k2, ifN k2]
        · rw [ifP k1, ifN k1]
      rw [fin]
      simp only [Option.bind_some]
      refine .inl ⟨_, rfl, ⟨by dsimp only; omega, by dsimp only; omega, ?_⟩, by dsimp only; omega⟩
      dsimp only
      rw [g2, show (j + 1).toNat = j.toNat + 1 by omega]
    · rw [if_neg (by simpa using cj)]
      refine .inr ⟨e, rfl, ?_⟩
      rw [g2]
      by_cases ce : e = 0
      · rw [if_pos ce, List.drop_of_length_le (by omega), xsCode, ce]
      · rw [if_neg ce])
  rw [r1, r2]
structure OTaskOk (t : TOpenTask) : Prop where
  n0 : 0 ≤ t.facts
  n1 : t.facts ≤ 24
  init : SetN t.init t.facts
  goal : SetN t.goal t.facts
  ops : t.operators.length ≤ 40
  op : ∀ o ∈ t.operators, OOk o t.facts
theorem oValidate_eq (t : TOpenTask) : ∃ f, open_Validate t = some f ∧ ref8_OpenFault t = some f ∧ ((f = ⟨0, 0⟩ ∧ OTaskOk t) ∨ (f.code ≠ 0 ∧ ¬ OTaskOk t)) := by
  unfold open_Validate ref8_OpenFault
  simp only [in_eq, at_eq, Option.bind_some, dec_not]
  by_cases c1 : 0 ≤ t.facts ∧ t.facts ≤ 24
  · rw [if_neg (by simp; omega), ifNN c1]
    simp only [isSet_eq, rIsSet_eq (n := t.facts) _ (show -9223372036854775808 < t.facts by omega) (show t.facts ≤ 9223372036854775807 by omega), Option.bind_some, dec_not]
    by_cases c2 : SetN t.init t.facts
    · rw [ifNN c2, ifNN c2]
      by_cases c3 : SetN t.goal t.facts
      · rw [ifNN c3, ifNN c3]
        by_cases c4 : 40 < (t.operators.length : Int)
        · rw [if_pos c4, if_pos c4]
          exact ⟨_, rfl, rfl, .inr ⟨by simp, fun h => by have := h.ops; omega⟩⟩
        · rw [if_neg c4, if_neg c4]
          have hb : ∀ j : Int, 0 ≤ j → j < t.operators.length → ∃ o, ix t.operators j = some o ∧ open_Validate_l1 t j () = some (if oCode o t.facts = 0 then .inl () else .inr ⟨oCode o t.facts, j⟩) ∧ ref8_OpenFault_l1 t j () = some (if oCode o t.facts = 0 then .inl () else .inr ⟨oCode o t.facts, j⟩) := fun j h0 h1 => by
            obtain ⟨o, ho, _⟩ := ix_of (l := t.operators) h0 h1
            refine ⟨o, ho, ?_, ?_⟩
            · unfold open_Validate_l1
              rw [ho]
              simp only [Option.bind_some, operatorCode_eq c1.1 c1.2]
              by_cases e : oCode o t.facts = 0
              · rw [if_pos e, if_pos e]
              · rw [if_neg e, if_neg e]
            · unfold ref8_OpenFault_l1
              rw [ho]
              simp only [Option.bind_some, rIsSet_eq (n := t.facts) _ (show -9223372036854775808 < t.facts by omega) (show t.facts ≤ 9223372036854775807 by omega), in_eq, at_eq, dec_not]
              have hp : (if dec (¬ SetN o.pre t.facts) = true then some (5 : Int) else if dec (¬ (0 ≤ o.cost ∧ o.cost ≤ 100)) = true then some 3 else if dec (¬ (1 ≤ (o.outcomes.length : Int) ∧ (o.outcomes.length : Int) ≤ 4)) = true then some 9 else some 0) = some (oHead o t.facts) := by
                unfold oHead
                by_cases g1 : SetN o.pre t.facts
                · rw [ifNN g1, ifP g1]
                  by_cases g2 : 0 ≤ o.cost ∧ o.cost ≤ 100
                  · rw [ifNN g2, ifP g2]
                    by_cases g3 : 1 ≤ (o.outcomes.length : Int) ∧ (o.outcomes.length : Int) ≤ 4
                    · rw [ifNN g3, ifP g3]
                    · rw [ifP g3, ifN g3]
                  · rw [ifP g2, ifN g2]
                · rw [ifP g1, ifN g1]
              rw [hp]
              simp only [Option.bind_some]
              by_cases eh : oHead o t.facts = 0
              · have := oHead_zero.1 eh
                rw [of2 c1.1 c1.2 (by omega), if_pos eh]
                simp only [Option.bind_some, oCode, eh, if_true]
                split <;> rfl
              · have nl : Loop (ref8_OpenFault_l2 t o) (oHead o t.facts, 0) = some (oHead o t.facts) := by
                  rw [Loop_eq]
                  have : ref8_OpenFault_l2 t o (oHead o t.facts, 0) = some (.inr (oHead o t.facts)) := by
                    unfold ref8_OpenFault_l2
                    dsimp only
                    rw [if_neg (by simp [eh])]
                  rw [this]
                rw [nl]
                simp only [Option.bind_some, oCode, if_neg eh]
          have heq : rngX 0 (t.operators.length : Int) (open_Validate_l1 t) () = rngX 0 (t.operators.length : Int) (ref8_OpenFault_l1 t) () :=
            (rngX_eq (fun _ _ => True) (by omega) trivial (fun j s h0 h1 _ => by
              obtain ⟨o, _, e1, e2⟩ := hb j h0 h1
              exact ⟨by rw [e1, e2], by rw [e1]; simp, fun _ _ => trivial⟩)).1
          rcases rngX_test (body := ref8_OpenFault_l1 t) (n := (t.operators.length : Int)) (fun j => match ix t.operators j with | some o => if oCode o t.facts = 0 then none else some (⟨oCode o t.facts, j⟩ : TFault) | none => none) (by omega) (fun j h0 h1 _ => by
            obtain ⟨o, e0, _, e2⟩ := hb j h0 h1
            rw [e2, e0]
            dsimp only
            split <;> rfl) with ⟨h1, h2⟩ | ⟨j, f, h0, h1, h2, _, h4⟩
          · rw [heq, h1]
            refine ⟨⟨0, 0⟩, rfl, rfl, .inl ⟨rfl, c1.1, c1.2, c2, c3, by omega, fun o ho => ?_⟩⟩
            obtain ⟨j, g0, g1, g2⟩ := mem_ix ho
            have := h2 j g0 g1
            rw [g2] at this
            dsimp only at this
            split at this
            · rename_i e; exact oCode_ok e
            · cases this
          · rw [heq, h4]
            obtain ⟨o, e0, _, _⟩ := hb j h0 h1
            rw [e0] at h2
            dsimp only at h2
            split at h2
            · cases h2
            · rename_i e
              cases h2
              exact ⟨_, rfl, rfl, .inr ⟨e, fun h => e (oCode_of (h.op o (ix_mem e0)))⟩⟩
      · rw [ifP c3, ifP c3]
        exact ⟨_, rfl, rfl, .inr ⟨by simp, fun h => c3 h.goal⟩⟩
    · rw [ifP c2, ifP c2]
      exact ⟨_, rfl, rfl, .inr ⟨by simp, fun h => c2 h.init⟩⟩
  · rw [if_pos (by simp; omega), if_pos (dec_of c1)]
    exact ⟨_, rfl, rfl, .inr ⟨by simp, fun h => c1 ⟨h.n0, h.n1⟩⟩⟩
end Ab
end
section
namespace Ab
open Go
def noOO : TOpenOperator := ⟨[], [], 0⟩
def ooAt (t : TOpenTask) (op : Int) : TOpenOperator := (t.operators[op.toNat]?).getD noOO
theorem ix_oo {t : TOpenTask} {op : Int} (h0 : 0 ≤ op) (h1 : op < t.operators.length) : ix t.operators op = some (ooAt t op) := by
  obtain ⟨a, h2, h3⟩ := ix_of h0 h1
  rw [h2, ooAt, h3]; rfl
def oCan (t : TOpenTask) (s : List Int) (op : Int) : Prop := ∀ x ∈ (ooAt t op).pre, x ∈ s
noncomputable def efc (n : Int) (s : List Int) (x : TOutcome) : List Int := setOf (fun p => p ∈ x.add ∨ p ∈ s ∧ p ∉ x.del) n
theorem setN_efc (n : Int) (s : List Int) (x : TOutcome) : SetN (efc n s x) n := setN_setOf _ _
theorem OTaskOk.at {t : TOpenTask} (h : OTaskOk t) {op : Int} (h0 : 0 ≤ op) (h1 : op < t.operators.length) : OOk (ooAt t op) t.facts := h.op _ (ix_mem (ix_oo h0 h1))
theorem oCan_eq {t : TOpenTask} (ht : OTaskOk t) {op : Int} (h0 : 0 ≤ op) (h1 : op < t.operators.length) {s : List Int} (hs : SetN s t.facts) : open_Can t s op = some (dec (oCan t s op)) := by
  have := ht.n1; have := hs.len
  unfold open_Can
  rw [ix_oo h0 h1]
  simp only [Option.bind_some]
  rw [contains_eq hs.1 (ht.at h0 h1).pre.1 (by omega)]
  rfl
theorem oApplies_eq {t : TOpenTask} {op : Int} (h0 : 0 ≤ op) (h1 : op < t.operators.length) (s : List Int) : ref8_Applies t s op = some (dec (oCan t s op)) := by
  unfold ref8_Applies
  rw [ix_oo h0 h1]
  simp only [Option.bind_some, subset_eq]
  rfl
theorem effect_eq {t : TOpenTask} (ht : OTaskOk t) (s : List Int) (x : TOutcome) : ref8_Effect t s x = some (efc t.facts s x) := by
  have := ht.n1
  unfold ref8_Effect
  rw [if_pos (by omega)]
  rw [forR_setOf (b := 8) (fun p => p ∈ x.add ∨ p ∈ s ∧ p ∉ x.del) ht.n0 (by omega) (fun j c g0 g1 => by
    unfold ref8_Effect_l1
    simp only [Option.bind_some, has_eq, dec_not]
    have e : (if dec (j ∈ x.add) = true then some true else if dec (j ∈ s) = true then some (dec (j ∉ x.del)) else some false) = some (dec (j ∈ x.add ∨ j ∈ s ∧ j ∉ x.del)) := by
      by_cases c1 : j ∈ x.add
      · rw [if_pos (dec_of c1), dec_of (.inl c1)]
      · rw [if_neg (fun h => c1 (dec_true.1 h))]
        by_cases c2 : j ∈ s
        · rw [if_pos (dec_of c2)]
          exact congrArg some (dec_congr ⟨fun h => .inr ⟨c2, h⟩, fun h => (h.resolve_left c1).2⟩)
        · rw [if_neg (fun h => c2 (dec_true.1 h)), dec_no (fun h => c2 (h.resolve_left c1).1)]
    rw [e]
    simp only [Option.bind_some]
    refine ⟨fun hq => ?_, fun hq => ?_⟩
    · rw [if_pos (dec_of hq)]
      cases app 8 c [j] <;> rfl
    · rw [if_neg (fun h => hq (dec_true.1 h))]; rfl)]
  rfl
theorem oUpdate_eq {n : Int} (hn : n ≤ 24) {s : List Int} (hs : SetN s n) {x : TOutcome} (hx : xSets x n) : strips_Update s x.add x.del = some (efc n s x) := by
  have := hx.2.1.len
  rw [update_eq (n := n) (by omega) hx.2.1.1 (by omega) hs hx.1]
  exact congrArg some (setOf_congr fun _ _ _ => Or.comm)
/-! ### Policies -/
theorem ord_of_adj : ∀ {l : List (List Int)}, (∀ (k : Nat) a b, l[k]? = some a → l[k + 1]? = some b → llt a b) → Ord l
  | [], _ => .nil
  | [_], _ => by simp
  | a :: b :: l, h => by
    have ih : Ord (b :: l) := ord_of_adj fun k x y h1 h2 => h (k + 1) x y (by simpa using h1) (by simpa using h2)
    have hab : llt a b := h 0 a b rfl rfl
    refine List.pairwise_cons.2 ⟨fun c hc => ?_, ih⟩
    rcases List.mem_cons.1 hc with rfl | hc
    · exact hab
    · exact llt_trans hab ((List.pairwise_cons.1 ih).1 c hc)
structure PolOk (t : TOpenTask) (p : List TChoice) : Prop where
  len : p.length ≤ 200
  ord : Ord (p.map TChoice.state)
  set : ∀ c ∈ p, SetN c.state t.facts
  op : ∀ c ∈ p, 0 ≤ c.operator ∧ c.operator < t.operators.length
  can : ∀ c ∈ p, oCan t c.state c.operator
def pSet (t : TOpenTask) (p : List TChoice) (j : Int) (c : TChoice) : Prop := SetN c.state t.facts ∧ ∀ b, 0 < j → ix p (j - 1) = some b → llt b.state c.state
noncomputable def pCode (t : TOpenTask) (p : List TChoice) (j : Int) (c : TChoice) : Int := if dec (pSet t p j c) = true then if dec (0 ≤ c.operator ∧ c.operator < t.operators.length) = true then if dec (oCan t c.state c.operator) = true then 0 else 11 else 3 else 5
theorem pCode_zero {t : TOpenTask} {p : List TChoice} {j : Int} {c : TChoice} : pCode t p j c = 0 → pSet t p j c ∧ (0 ≤ c.operator ∧ c.operator < t.operators.length) ∧ oCan t c.state c.operator := by
  unfold pCode
  by_cases c1 : pSet t p j c
  · rw [ifP c1]
    by_cases c2 : 0 ≤ c.operator ∧ c.operator < t.operators.length
    · rw [ifP c2]
      by_cases c3 : oCan t c.state c.operator
      · rw [ifP c3]; exact fun _ => ⟨c1, c2, c3⟩
      · rw [ifN c3]; exact fun h => by omega
    · rw [ifN c2]; exact fun h => by omega
  · rw [ifN c1]; exact fun h => by omega
theorem pCode_of {t : TOpenTask} {p : List TChoice} (hp : PolOk t p) {j : Int} {c : TChoice} (hc : ix p j = some c) : pCode t p j c = 0 := by
  have hm := ix_mem hc
  unfold pCode
  rw [ifP ⟨hp.set c hm, fun b _ hb => ordMap_get hp.ord hb hc (by omega)⟩, ifP (hp.op c hm), ifP (hp.can c hm)]
theorem pol1 {t : TOpenTask} (ht : OTaskOk t) {p : List TChoice} {j : Int} {c : TChoice} (hl : p.length ≤ 200) (hc : ix p j = some c) : open_ValidatePolicy_l1 t p j () = some (if pCode t p j c = 0 then .inl () else .inr ⟨pCode t p j c, -9 - j⟩) := by
  obtain ⟨j0, j1, _⟩ := ix_lo hc
  have hn := ht.n1
  unfold open_ValidatePolicy_l1
  rw [hc]
  simp only [Option.bind_some, isSet_eq, dec_not]
  have key : (if dec (¬ SetN c.state t.facts) = true then some true else if 0 < j then Option.bind (ix p (j - 1)) fun a40 => Option.bind (slices_Compare_int_int a40.state c.state) fun a45 => some (decide (0 ≤ a45)) else some false) = some (dec (¬ pSet t p j c)) := by
    by_cases g1 : SetN c.state t.facts
    · rw [ifNN g1]
      by_cases g2 : 0 < j
      · rw [if_pos g2]
        obtain ⟨b, hb, _⟩ := ix_of (l := p) (i := j - 1) (by omega) (by omega)
        rw [hb]
        simp only [Option.bind_some, compare_eq, decide_dec]
        refine congrArg some (dec_congr ?_)
        rw [cmpL_ge]
        exact ⟨fun h g => h (g.2 b g2 hb), fun h g => h ⟨g1, fun b' _ hb' => by rw [hb] at hb'; cases hb'; exact g⟩⟩
      · rw [if_neg g2, dec_no]
        exact fun h => h ⟨g1, fun _ g => absurd g g2⟩
    · rw [ifP g1, dec_of (fun h => g1 h.1)]
  rw [key]
  simp only [Option.bind_some]
  rw [w64_of (by omega) (by omega)]
  unfold pCode
  by_cases g1 : pSet t p j c
  · rw [ifNN g1, ifP g1]
    by_cases g2 : 0 ≤ c.operator ∧ c.operator < t.operators.length
    · rw [if_neg (show ¬ ((decide (c.operator < 0)) || (decide ((t.operators.length : Int) ≤ c.operator))) = true by rw [Bool.or_eq_true, decide_eq_true_eq, decide_eq_true_eq]; omega), ifP g2, oCan_eq ht g2.1 g2.2 g1.1]
      simp only [Option.bind_some, dec_not]
      by_cases g3 : oCan t c.state c.operator
      · rw [ifNN g3, ifP g3]; rfl
      · rw [ifP g3, ifN g3]; rfl
    · rw [if_pos (show ((decide (c.operator < 0)) || (decide ((t.operators.length : Int) ≤ c.operator))) = true by rw [Bool.or_eq_true, decide_eq_true_eq, decide_eq_true_eq]; omega), ifN g2]; rfl
  · rw [ifP g1, ifN g1]; rfl
theorem pol2 {t : TOpenTask} (ht : OTaskOk t) {p : List TChoice} {j : Int} {c : TChoice} (hl : p.length ≤ 200) (hw : 0 < j → ∀ b, ix p (j - 1) = some b → b.state.length ≤ 1000000) (hc : ix p j = some c) : ref8_PolicyFault_l1 t p j () = some (if pCode t p j c = 0 then .inl () else .inr ⟨pCode t p j c, -9 - j⟩) := by
  obtain ⟨j0, j1, _⟩ := ix_lo hc
  have hn := ht.n1; have hn0 := ht.n0; have ho := ht.ops
  unfold ref8_PolicyFault_l1
  rw [hc]
  simp only [Option.bind_some, rIsSet_eq (n := t.facts) _ (show -9223372036854775808 < t.facts by omega) (show t.facts ≤ 9223372036854775807 by omega), in_eq, at_eq, dec_not]
  have key : (if dec (¬ SetN c.state t.facts) = true then some true else if 0 < j then Option.bind (ix p (j - 1)) fun a39 => Option.bind (ref7_Before a39.state c.state) fun a47 => some (!a47) else some false) = some (dec (¬ pSet t p j c)) := by
    by_cases g1 : SetN c.state t.facts
    · rw [ifNN g1]
      by_cases g2 : 0 < j
      · rw [if_pos g2]
        obtain ⟨b, hb, _⟩ := ix_of (l := p) (i := j - 1) (by omega) (by omega)
        rw [hb]
        simp only [Option.bind_some, before_eq (hw g2 b hb), dec_not]
        refine congrArg some (dec_congr ?_)
        exact ⟨fun h g => h (g.2 b g2 hb), fun h g => h ⟨g1, fun b' _ hb' => by rw [hb] at hb'; cases hb'; exact g⟩⟩
      · rw [if_neg g2, dec_no]
        exact fun h => h ⟨g1, fun _ g => absurd g g2⟩
    · rw [ifP g1, dec_of (fun h => g1 h.1)]
  rw [key]
  simp only [Option.bind_some]
  rw [w64_of (n := -9 - j) (by omega) (by omega), w64_of (n := (t.operators.length : Int) - 1) (by omega) (by omega)]
  unfold pCode
  by_cases g1 : pSet t p j c
  · rw [ifNN g1, ifP g1]
    by_cases g2 : 0 ≤ c.operator ∧ c.operator < t.operators.length
    · rw [ifN (show ¬ ¬ (0 ≤ c.operator ∧ c.operator ≤ (t.operators.length : Int) - 1) by omega), ifP g2, oApplies_eq g2.1 g2.2]
      simp only [Option.bind_some, dec_not]
      by_cases g3 : oCan t c.state c.operator
      · rw [ifNN g3, ifP g3]; rfl
      · rw [ifP g3, ifN g3]; rfl
    · rw [ifP (show ¬ (0 ≤ c.operator ∧ c.operator ≤ (t.operators.length : Int) - 1) by omega), ifN g2]; rfl
  · rw [ifP g1, ifN g1]; rfl
theorem policy_eq (t : TOpenTask) (p : List TChoice) : ∃ f, open_ValidatePolicy t p = some f ∧ ref8_PolicyFault t p = some f ∧ ((f = ⟨0, 0⟩ ∧ OTaskOk t ∧ PolOk t p) ∨ (f.code ≠ 0 ∧ ¬ (OTaskOk t ∧ PolOk t p))) := by
  obtain ⟨f, h1, h2, h3⟩ := oValidate_eq t
  unfold open_ValidatePolicy ref8_PolicyFault
  rw [h1, h2]
  simp only [Option.bind_some]
  rcases h3 with ⟨rfl, ht⟩ | ⟨hc, hnt⟩
  · rw [if_neg (by simp), if_pos rfl]
    by_cases c1 : 200 < (p.length : Int)
    · rw [if_pos c1, if_pos c1, at_eq]
      exact ⟨_, rfl, rfl, .inr ⟨by simp, fun h => by have := h.2.len; omega⟩⟩
    · rw [if_neg c1, if_neg c1]
      have hn := ht.n1
      have hset : ∀ j : Int, (∀ i, 0 ≤ i → i < j → (match ix p i with | some c => if pCode t p i c = 0 then none else some (⟨pCode t p i c, -9 - i⟩ : TFault) | none => none) = none) → 0 < j → ∀ b, ix p (j - 1) = some b → b.state.length ≤ 1000000 := fun j hj j0 b hb => by
        have := hj (j - 1) (by omega) (by omega)
        rw [hb] at this
        dsimp only at this
        split at this
        · rename_i e
          have := (pCode_zero e).1.1.len
          omega
        · cases this
      rcases rngX_test (body := open_ValidatePolicy_l1 t p) (n := (p.length : Int)) (fun j => match ix p j with | some c => if pCode t p j c = 0 then none else some (⟨pCode t p j c, -9 - j⟩ : TFault) | none => none) (by omega) (fun j h0 h1 _ => by
        obtain ⟨c, e0, _⟩ := ix_of (l := p) h0 h1
        rw [pol1 ht (by omega) e0, e0]
        dsimp only
        split <;> rfl) with ⟨a1, a2⟩ | ⟨j, f, a0, a1, a2, a3, a4⟩
      · rcases rngX_test (body := ref8_PolicyFault_l1 t p) (n := (p.length : Int)) (fun j => match ix p j with | some c => if pCode t p j c = 0 then none else some (⟨pCode t p j c, -9 - j⟩ : TFault) | none => none) (by omega) (fun j h0 h1 hj => by
          obtain ⟨c, e0, _⟩ := ix_of (l := p) h0 h1
          rw [pol2 ht (by omega) (hset j hj) e0, e0]
          dsimp only
          split <;> rfl) with ⟨b1, b2⟩ | ⟨j', f', b0, b1, b2, b3, b4⟩
        · rw [a1, b1]
          have all : ∀ j c, ix p j = some c → pSet t p j c ∧ (0 ≤ c.operator ∧ c.operator < t.operators.length) ∧ oCan t c.state c.operator := fun j c hc => by
            have := a2 j (ix_lo hc).1 (ix_lo hc).2.1
            rw [hc] at this
            dsimp only at this
            split at this
            · rename_i e; exact pCode_zero e
            · cases this
          have all' : ∀ c ∈ p, SetN c.state t.facts ∧ (0 ≤ c.operator ∧ c.operator < t.operators.length) ∧ oCan t c.state c.operator := fun c hc => by
            obtain ⟨j, _, _, hj⟩ := mem_ix hc
            obtain ⟨g1, g2, g3⟩ := all j c hj
            exact ⟨g1.1, g2, g3⟩
          refine ⟨_, rfl, rfl, .inl ⟨rfl, ht, by omega, ord_of_adj fun k a b ha hb => ?_, fun c hc => (all' c hc).1, fun c hc => (all' c hc).2.1, fun c hc => (all' c hc).2.2⟩⟩
          rw [List.getElem?_map] at ha hb
          cases ha' : p[k]? with
          | none => rw [ha'] at ha; cases ha
          | some a' =>
            cases hb' : p[k + 1]? with
            | none => rw [hb'] at hb; cases hb
            | some b' =>
              rw [ha'] at ha; rw [hb'] at hb; cases ha; cases hb
              refine (all ((k + 1 : Nat) : Int) b' (by rw [ix_nat, hb'])).1.2 a' (by omega) ?_
              rw [show ((k + 1 : Nat) : Int) - 1 = (k : Nat) by omega, ix_nat, ha']
        · rw [a2 j' b0 b1] at b2; cases b2
      · rcases rngX_test (body := ref8_PolicyFault_l1 t p) (n := (p.length : Int)) (fun j => match ix p j with | some c => if pCode t p j c = 0 then none else some (⟨pCode t p j c, -9 - j⟩ : TFault) | none => none) (by omega) (fun j h0 h1 hj => by
          obtain ⟨c, e0, _⟩ := ix_of (l := p) h0 h1
          rw [pol2 ht (by omega) (hset j hj) e0, e0]
          dsimp only
          split <;> rfl) with ⟨b1, b2⟩ | ⟨j', f', b0, b1, b2, b3, b4⟩
        · rw [b2 j a0 a1] at a2; cases a2
        · have ej : j = j' := by
            rcases Int.lt_trichotomy j j' with h | h | h
            · rw [b3 j a0 h] at a2; cases a2
            · exact h
            · rw [a3 j' b0 h] at b2; cases b2
          subst ej
          rw [a2] at b2
          cases b2
          rw [a4, b4]
          refine ⟨_, rfl, rfl, .inr ?_⟩
          obtain ⟨c, e0, _⟩ := ix_of (l := p) a0 a1
          rw [e0] at a2
          dsimp only at a2
          split at a2
          · cases a2
          · rename_i e; cases a2; exact ⟨e, fun h => e (pCode_of h.2 e0)⟩
  · rw [if_pos (fault_no hc), if_neg hc]
    exact ⟨f, rfl, rfl, .inr ⟨hc, fun h => hnt h.1⟩⟩
/-! ### What a policy chooses -/
theorem rChosen_eq (p : List TChoice) (s : List Int) : ∃ r, ref8_Chosen p s = some r ∧ ((r = -1 ∧ ∀ c ∈ p, c.state ≠ s) ∨ ∃ c, c ∈ p ∧ c.state = s ∧ r = c.operator) := by
  unfold ref8_Chosen
  rcases rngX_test (body := ref8_Chosen_l1 p s) (n := (p.length : Int)) (fun j => match ix p j with | some c => if dec (c.state = s) = true then some c.operator else none | none => none) (by omega) (fun j h0 h1 _ => by
    obtain ⟨x, hx, _⟩ := ix_of (l := p) h0 h1
    unfold ref8_Chosen_l1
    simp only [hx, Option.bind_some, ints_eq]
    by_cases e : x.state = s
    · rw [ifP e, ifP e]
    · rw [ifN e, ifN e]) with ⟨h1, h2⟩ | ⟨j, o, h0, h1, h2, h3, h4⟩
  · rw [h1]
    refine ⟨-1, rfl, .inl ⟨rfl, fun c hc he => ?_⟩⟩
    obtain ⟨i, i0, i1, hi⟩ := mem_ix hc
    have := h2 i i0 i1
    rw [hi] at this
    dsimp only at this
    rw [ifP he] at this
    cases this
  · rw [h4]
    obtain ⟨c, hc, _⟩ := ix_of (l := p) h0 h1
    rw [hc] at h2
    dsimp only at h2
    split at h2
    · rename_i e
      cases h2
      exact ⟨_, rfl, .inr ⟨c, ix_mem hc, dec_true.1 e, rfl⟩⟩
    · cases h2
theorem chosen_eq {t : TOpenTask} {p : List TChoice} (hp : PolOk t p) (s : List Int) : ∃ r, open_Chosen p s = some r ∧ ref8_Chosen p s = some r ∧ (r = -1 ∨ (0 ≤ r ∧ r < t.operators.length ∧ oCan t s r)) := by
  obtain ⟨r, h1, h2⟩ := rChosen_eq p s
  refine ⟨r, ?_, h1, ?_⟩
  · unfold open_Chosen
    obtain ⟨i, g1, g2, g3⟩ := bsf_eq (key := TChoice.state) (xs := p) (t := s) (cmp := open_Chosen_1) hp.ord (by have := hp.len; omega) (fun a => by unfold open_Chosen_1; rw [compare_eq]; rfl)
    have : slices_BinarySearchFunc_api_Choice_api_Choice_int p s open_Chosen_1 = bsf p s open_Chosen_1 := rfl
    rw [this, g1]
    simp only [Option.bind_some, dec_not]
    rcases h2 with ⟨rfl, h⟩ | ⟨c, hc, he, rfl⟩
    · rw [ifP]
      rintro ⟨a, ha, e⟩; exact h a ha e
    · rw [ifNN ⟨c, hc, he⟩]
      obtain ⟨k, _, _, hk⟩ := mem_ix hc
      have := g3 k c hk he
      subst this
      rw [hk]; rfl
  · rcases h2 with ⟨rfl, h⟩ | ⟨c, hc, he, rfl⟩
    · exact .inl rfl
    · have := hp.op c hc
      exact .inr ⟨this.1, this.2, he ▸ hp.can c hc⟩
end Ab
end
section
namespace Ab
open Go
theorem ix_map {α β : Type} {f : α → β} {l : List α} {i : Int} : ix (l.map f) i = (ix l i).map f := by
  simp only [ix]
  split
  · rw [List.getElem?_map]
  · rfl
theorem Ord.one {l m : List (List Int)} (hl : Ord l) (hm : Ord m) {p : List Int → Prop} (h1 : ∀ y, y ∈ l ↔ p y) (h2 : ∀ y, y ∈ m ↔ p y) : l = m := Ord.ext hl hm fun y => (h1 y).trans (h2 y).symm
theorem cloneLL_eq {s : List (List Int)} (h : s.length ≤ 1000000) : slices_Clone_Lint_int s = some s := by
  rw [slices_Clone_Lint_int, app, if_pos (by simp; omega)]; rfl
theorem results1 {t : TOpenTask} {o : TOpenOperator} (ho : OOk o t.facts) (hn : t.facts ≤ 24) {s : List Int} (hs : SetN s t.facts) : forR 0 (o.outcomes.length : Int) (open_Results_l1 s o) [] = some (o.outcomes.map (efc t.facts s)) := by
  have hl := ho.l1
  obtain ⟨c, h1, h2⟩ := forR_inv (body := open_Results_l1 s o) (n := (o.outcomes.length : Int)) (s := []) (fun j c => c = (o.outcomes.take j.toNat).map (efc t.facts s)) (by omega) (by simp) (fun j c j0 j1 hP => by
    obtain ⟨x, hx, gx⟩ := ix_of (l := o.outcomes) j0 j1
    unfold open_Results_l1
    rw [hx]
    simp only [Option.bind_some]
    rw [oUpdate_eq hn hs (ho.xs x (ix_mem hx)).1]
    simp only [Option.bind_some]
    have hlen : c.length ≤ 4 := by rw [hP, List.length_map, List.length_take]; omega
    rw [app, if_pos (by simp; omega)]
    refine ⟨_, rfl, ?_⟩
    rw [show (j + 1).toNat = j.toNat + 1 by omega, List.take_add_one, gx, hP, List.map_append]; rfl)
  rw [h1, h2]
  simp
theorem oResults_eq {t : TOpenTask} (ht : OTaskOk t) {op : Int} (h0 : 0 ≤ op) (h1 : op < t.operators.length) {s : List Int} (hs : SetN s t.facts) : ∃ st w, open_Results t s op = some (st, w) ∧ Ord st ∧ (∀ y, y ∈ st ↔ ∃ x ∈ (ooAt t op).outcomes, efc t.facts s x = y) ∧ st.length ≤ 4 ∧ w.length = st.length ∧ forR 0 ((ooAt t op).outcomes.length : Int) (open_Results_l2 ((ooAt t op).outcomes.map (efc t.facts s)) st (ooAt t op)) (List.replicate st.length 0) = some w := by
  have ho := ht.at h0 h1
  have hl := ho.l1
  unfold open_Results
  rw [ix_oo h0 h1]
  simp only [Option.bind_some]
  rw [results1 ho ht.n1 hs]
  simp only [Option.bind_some]
  rw [cloneLL_eq (by simp; omega)]
  simp only [Option.bind_some]
  obtain ⟨st, n1, n2, n3, n4⟩ := normal_eq (l := (ooAt t op).outcomes.map (efc t.facts s)) (by simp; omega)
  have n4' : st.length ≤ 4 := by rw [List.length_map] at n4; omega
  have hm : mkL 8 (st.length : Int) (0 : Int) = some (List.replicate st.length 0) := by
    rw [mkL, if_pos (by omega)]; simp
  obtain ⟨w, w1, w2⟩ := forR_inv (body := open_Results_l2 ((ooAt t op).outcomes.map (efc t.facts s)) st (ooAt t op)) (n := ((ooAt t op).outcomes.length : Int)) (s := List.replicate st.length 0) (fun j c => c.length = st.length) (by omega) (by simp) (fun j c j0 j1 hP => by
    obtain ⟨x, hx, gx⟩ := ix_of (l := (ooAt t op).outcomes) j0 j1
    have hmem : efc t.facts s x ∈ st := (n3 _).2 (List.mem_map.2 ⟨x, ix_mem hx, rfl⟩)
    obtain ⟨i, e1, e2, e3⟩ := bsets_eq (t := efc t.facts s x) n2 (by omega)
    obtain ⟨k, k0, k1, hk⟩ := mem_ix hmem
    have := e3 k hk
    subst this
    obtain ⟨z, hz, gz⟩ := ix_of (l := c) (i := k) k0 (by omega)
    unfold open_Results_l2
    rw [hx, ix_map, hx]
    simp only [Option.bind_some, Option.map_some, e1, hz]
    exact ⟨_, rfl, by rw [List.length_set]; exact hP⟩)
  rw [n1]
  simp only [Option.bind_some, hm, w1]
  exact ⟨st, w, rfl, n2, fun y => by rw [n3, List.mem_map], n4', w2, w1⟩
/-! ### The coin -/
end Ab
end
section
namespace Ab
open Go
noncomputable def chO (p : List TChoice) (s : List Int) : Int := (ref8_Chosen p s).getD (-1)
theorem chosen_chO {t : TOpenTask} {p : List TChoice} (hp : PolOk t p) (s : List Int) : open_Chosen p s = some (chO p s) ∧ (chO p s = -1 ∨ (0 ≤ chO p s ∧ chO p s < t.operators.length ∧ oCan t s (chO p s))) := by
  obtain ⟨r, h1, h2, h3⟩ := chosen_eq hp s
  have : chO p s = r := by rw [chO, h2]; rfl
  rw [this]
  exact ⟨h1, h3⟩
theorem ifOr {a b : Prop} : (if dec a = true then some true else some (dec b)) = some (dec (a ∨ b)) := by
  by_cases h : a
  · rw [ifP h, dec_of (.inl h)]
  · rw [ifN h]; exact congrArg some (dec_congr ⟨.inr, fun g => g.resolve_left h⟩)
end Ab
end
section
namespace Ab
open Go
end Ab
end
section
namespace Ab
open Go
/-- A number under 100 in decimal digits. -/
def dg (x : Int) : List Int := if x < 10 then [48 + x] else [48 + x / 10, 48 + x % 10]
def encS (s : List Int) : List Int := s.flatMap (fun x => dg x ++ [44]) ++ [59]
def encK (l : List (List Int)) : List Int := l.flatMap encS
def small (s : List Int) : Prop := ∀ x ∈ s, 0 ≤ x ∧ x < 100
theorem dg_split {x y : Int} (hx : 0 ≤ x ∧ x < 100) (hy : 0 ≤ y ∧ y < 100) {r r' : List Int} (h : dg x ++ 44 :: r = dg y ++ 44 :: r') : x = y ∧ r = r' := by
  unfold dg at h
  split at h <;> split at h <;> simp only [List.cons_append, List.nil_append, List.cons.injEq] at h
  · exact ⟨by omega, h.2.2⟩
  · exfalso; omega
  · exfalso; omega
  · exact ⟨by omega, h.2.2.2⟩
theorem dg_head {x : Int} (hx : 0 ≤ x ∧ x < 100) : ∃ a l, dg x = a :: l ∧ 48 ≤ a ∧ a < 58 := by
  unfold dg
  split
  · exact ⟨_, _, rfl, by omega, by omega⟩
  · exact ⟨_, _, rfl, by omega, by omega⟩
theorem encS_cons (x : Int) (s : List Int) : encS (x :: s) = dg x ++ 44 :: encS s := by simp [encS]
theorem encS_inj : ∀ {s s' r r' : List Int}, small s → small s' → encS s ++ r = encS s' ++ r' → s = s' ∧ r = r'
  | [], [], r, r', _, _, h => by simp [encS] at h; exact ⟨rfl, h⟩
  | [], y :: s', r, r', _, h2, h => by
    obtain ⟨a, l, ha, h3, h4⟩ := dg_head (h2 y (by simp))
    rw [encS_cons, ha] at h
    simp only [encS, List.flatMap_nil, List.nil_append, List.cons_append, List.cons.injEq] at h
    omega
  | x :: s, [], r, r', h1, _, h => by
    obtain ⟨a, l, ha, h3, h4⟩ := dg_head (h1 x (by simp))
    rw [encS_cons, ha] at h
    simp only [encS, List.flatMap_nil, List.nil_append, List.cons_append, List.cons.injEq] at h
    omega
  | x :: s, y :: s', r, r', h1, h2, h => by
    rw [encS_cons, encS_cons, List.append_assoc, List.append_assoc, List.cons_append, List.cons_append] at h
    obtain ⟨rfl, g⟩ := dg_split (h1 x (by simp)) (h2 y (by simp)) h
    obtain ⟨e1, e2⟩ := encS_inj (s := s) (s' := s') (fun z hz => h1 z (List.mem_cons_of_mem _ hz)) (fun z hz => h2 z (List.mem_cons_of_mem _ hz)) g
    exact ⟨by rw [e1], e2⟩
theorem encK_inj : ∀ {l l' : List (List Int)}, (∀ s ∈ l, small s) → (∀ s ∈ l', small s) → encK l = encK l' → l = l'
  | [], [], _, _, _ => rfl
  | [], s :: l', _, _, h => by
    have h := congrArg List.length h
    simp only [encK, encS, List.flatMap_nil, List.flatMap_cons, List.length_append, List.length_nil, List.length_cons] at h
    omega
  | s :: l, [], _, _, h => by
    have h := congrArg List.length h
    simp only [encK, encS, List.flatMap_nil, List.flatMap_cons, List.length_append, List.length_nil, List.length_cons] at h
    omega
  | s :: l, s' :: l', h1, h2, h => by
    have h : encS s ++ encK l = encS s' ++ encK l' := h
    obtain ⟨e1, e2⟩ := encS_inj (h1 s (List.mem_cons_self ..)) (h2 s' (List.mem_cons_self ..)) h
    have e3 := encK_inj (l := l) (l' := l') (fun z hz => h1 z (List.mem_cons_of_mem _ hz)) (fun z hz => h2 z (List.mem_cons_of_mem _ hz)) e2
    rw [e1, e3]
theorem dg_byte {x : Int} (hx : 0 ≤ x ∧ x < 100) : ∀ a ∈ dg x, 0 ≤ a ∧ a < 256 := by
  intro a ha
  unfold dg at ha
  split at ha <;> simp at ha <;> omega
theorem encS_byte {s : List Int} (h : small s) : ∀ a ∈ encS s, 0 ≤ a ∧ a < 256 := by
  intro a ha
  simp only [encS, List.mem_append, List.mem_flatMap, List.mem_singleton] at ha
  rcases ha with ⟨x, hx, h1 | h1⟩ | h1
  · exact dg_byte (h x hx) a h1
  · omega
  · omega
theorem encK_byte {l : List (List Int)} (h : ∀ s ∈ l, small s) : ∀ a ∈ encK l, 0 ≤ a ∧ a < 256 := by
  intro a ha
  simp only [encK, List.mem_flatMap] at ha
  obtain ⟨s, hs, h1⟩ := ha
  exact encS_byte (h s hs) a h1
theorem strB_inj {l l' : List Int} (h1 : ∀ a ∈ l, 0 ≤ a ∧ a < 256) (h2 : ∀ a ∈ l', 0 ≤ a ∧ a < 256) (h : strB l = strB l') : l = l' := by
  have h3 : l.map (fun n => UInt8.ofNat n.toNat) = l'.map (fun n => UInt8.ofNat n.toNat) := by
    have := congrArg ByteArray.data h
    simpa [strB] using this
  have back : ∀ {m : List Int}, (∀ a ∈ m, 0 ≤ a ∧ a < 256) → (m.map (fun n => UInt8.ofNat n.toNat)).map (fun b => (b.toNat : Int)) = m := by
    intro m hm
    rw [List.map_map]
    conv => rhs; rw [← List.map_id m]
    apply List.map_congr_left
    intro a ha
    have := hm a ha
    simp only [Function.comp_apply, id_eq, UInt8.toNat_ofNat']
    omega
  rw [← back h1, ← back h2, h3]
/-- The key of a list of sets. -/
def keyK (l : List (List Int)) : ByteArray := strB (encK l)
theorem keyK_inj {l l' : List (List Int)} (h1 : ∀ s ∈ l, small s) (h2 : ∀ s ∈ l', small s) (h : keyK l = keyK l') : l = l' := encK_inj h1 h2 (strB_inj (encK_byte h1) (encK_byte h2) h)
/-! ### Maps -/
theorem mget_mset {K V : Type} [DecidableEq K] (k k' : K) (v : V) : ∀ m : List (K × V), mget (mset m k v) k' = if k' = k then some v else mget m k'
  | [] => by
    simp only [mset, mget]
  | p :: r => by
    simp only [mset]
    by_cases h : k = p.1
    · rw [if_pos h]
      simp only [mget]
      by_cases h2 : k' = k
      · rw [if_pos h2, if_pos h2]
      · rw [if_neg h2, if_neg h2, if_neg (by rw [← h]; exact h2)]
    · rw [if_neg h]
      simp only [mget]
      rw [mget_mset k k' v r]
      by_cases h2 : k' = p.1
      · rw [if_pos h2, if_pos h2, if_neg (fun e => h (e.symm.trans h2))]
      · rw [if_neg h2, if_neg h2]
end Ab
end
section
namespace Ab
open Go
/-- A list made by appending a piece for each element. -/
theorem forR_flatMap {α β : Type} {l : List α} {body : Int → List β → Option (List β)} (g : α → List β) (N : Nat) (c0 : List β)
    (hb : ∀ j a c, ix l j = some a → c.length + (g a).length ≤ N → body j c = some (c ++ g a)) (hN : c0.length + (l.flatMap g).length ≤ N) :
    forR 0 (l.length : Int) body c0 = some (c0 ++ l.flatMap g) := by
  obtain ⟨s', h1, h2⟩ := forR_inv (body := body) (n := (l.length : Int)) (s := c0) (fun j c => c = c0 ++ (l.take j.toNat).flatMap g) (by omega) (by simp) (fun j c h0 h1 hP => by
    obtain ⟨a, g1, g2⟩ := ix_of h0 h1
    have e : (j + 1).toNat = j.toNat + 1 := by omega
    have ht : l.take (j + 1).toNat = l.take j.toNat ++ [a] := by rw [e, List.take_add_one, g2]; rfl
    refine ⟨c ++ g a, hb j a c g1 ?_, ?_⟩
    · have hs : l = l.take j.toNat ++ [a] ++ l.drop (j + 1).toNat := by rw [← ht, List.take_append_drop]
      have hl : (l.flatMap g).length = ((l.take j.toNat).flatMap g).length + (g a).length + ((l.drop (j + 1).toNat).flatMap g).length := by
        conv => lhs; rw [hs]
        simp [List.flatMap_append]; omega
      rw [hP, List.length_append]; omega
    · rw [ht, List.flatMap_append, hP]; simp)
  rw [h1, h2]
  simp
theorem small_eq : ∀ n : Fin 100, (internal_strconv_small (n : Nat)).map strL = some (dg (n : Nat)) := by decide +kernel
theorem appendInt_eq {x : Int} (hx : 0 ≤ x ∧ x < 100) {l : List Int} (hl : l.length ≤ 1000000) : strconv_AppendInt_w1 x 10 l = some (l ++ dg x) := by
  have h := small_eq ⟨x.toNat, by omega⟩
  rw [show (((⟨x.toNat, by omega⟩ : Fin 100) : Nat) : Int) = x by simp; omega] at h
  obtain ⟨b, h1, h2⟩ := Option.map_eq_some_iff.1 h
  first
    | unfold strconv_AppendInt_w1 internal_strconv_AppendInt_w1 internal_strconv_AppendUint_w1
    | unfold strconv_AppendInt_w1 internal_strconv_AppendInt_w2 internal_strconv_AppendUint_w3
  rw [if_neg (by omega), IntKind.wrap_u64, Int.emod_eq_of_lt (by omega) (by omega)]
  simp only [Option.bind_some, if_true]
  rw [if_pos hx.2, w64_of (by omega) (by omega), h1]
  simp only [Option.bind_some, h2]
  have : (dg x).length ≤ 2 := by unfold dg; split <;> simp
  rw [app, if_pos (by omega)]
  rfl
theorem dg_len (x : Int) : (dg x).length ≤ 2 := by unfold dg; split <;> simp
theorem key_eq {l : List (List Int)} (hs : ∀ s ∈ l, small s) (hN : (encK l).length ≤ 900000) : belief_Key l = some (keyK l) := by
  unfold belief_Key
  rw [forR_flatMap encS 900000 [] (fun j s c hj hc => by
    unfold belief_Key_l1
    rw [hj]
    simp only [Option.bind_some]
    have hlen : (encS s).length = (s.flatMap fun x => dg x ++ [44]).length + 1 := by simp [encS]
    rw [forR_flatMap (fun x => dg x ++ [44]) 900000 c (fun i x c' hi hc' => by
      unfold belief_Key_l2
      rw [hi]
      simp only [List.length_append, List.length_singleton] at hc'
      simp only [Option.bind_some, appendInt_eq (hs s (ix_mem hj) x (ix_mem hi)) (l := c') (by omega)]
      rw [app, if_pos (by simp; omega)]
      simp) (by omega)]
    simp only [Option.bind_some]
    rw [app, if_pos (by rw [List.length_append]; simp only [List.length_singleton]; omega)]
    simp [encS]) (by simpa [encK] using hN)]
  rfl
theorem encS_len : ∀ s : List Int, (encS s).length ≤ 3 * s.length + 1
  | [] => by simp [encS]
  | x :: s => by
    have := encS_len s
    have := dg_len x
    rw [encS_cons]
    simp only [List.length_append, List.length_cons]
    omega
end Ab
end
section
namespace Ab
open Go
/-! ### Loops side by side -/
theorem rngN_sim {S1 S2 O1 O2 : Type} {b1 : Int → S1 → Option (S1 ⊕ O1)} {b2 : Int → S2 → Option (S2 ⊕ O2)} (R : Int → S1 → S2 → Prop) (Q : O1 → O2 → Prop) : ∀ (k : Nat) (i : Int) (s1 : S1) (s2 : S2), R i s1 s2 →
    (∀ j s1 s2, i ≤ j → j < i + k → R j s1 s2 → (∃ t1 t2, b1 j s1 = some (.inl t1) ∧ b2 j s2 = some (.inl t2) ∧ R (j + 1) t1 t2) ∨ ∃ o1 o2, b1 j s1 = some (.inr o1) ∧ b2 j s2 = some (.inr o2) ∧ Q o1 o2) →
    (∃ t1 t2, rngN b1 k i s1 = some (.inl t1) ∧ rngN b2 k i s2 = some (.inl t2) ∧ R (i + k) t1 t2) ∨ ∃ o1 o2, rngN b1 k i s1 = some (.inr o1) ∧ rngN b2 k i s2 = some (.inr o2) ∧ Q o1 o2
  | 0, i, s1, s2, h, _ => .inl ⟨s1, s2, rfl, rfl, by simpa using h⟩
  | k + 1, i, s1, s2, h, hb => by
    rcases hb i s1 s2 (Int.le_refl _) (by omega) h with ⟨t1, t2, h1, h2, h3⟩ | ⟨o1, o2, h1, h2, h3⟩
    · rcases rngN_sim R Q k (i + 1) t1 t2 h3 (fun j s1 s2 g1 g2 => hb j s1 s2 (by omega) (by omega)) with ⟨u1, u2, g1, g2, g3⟩ | ⟨o1, o2, g1, g2, g3⟩
      · exact .inl ⟨u1, u2, by simp only [rngN, h1]; exact g1, by simp only [rngN, h2]; exact g2, by rw [show i + ((k + 1 : Nat) : Int) = i + 1 + k by omega]; exact g3⟩
      · exact .inr ⟨o1, o2, by simp only [rngN, h1]; exact g1, by simp only [rngN, h2]; exact g2, g3⟩
    · exact .inr ⟨o1, o2, by simp only [rngN, h1], by simp only [rngN, h2], h3⟩
theorem rngX_sim {S1 S2 O1 O2 : Type} {b1 : Int → S1 → Option (S1 ⊕ O1)} {b2 : Int → S2 → Option (S2 ⊕ O2)} {n : Int} (R : Int → S1 → S2 → Prop) (Q : O1 → O2 → Prop) {s1 : S1} {s2 : S2} (hn : 0 ≤ n) (h0 : R 0 s1 s2)
    (hb : ∀ j s1 s2, 0 ≤ j → j < n → R j s1 s2 → (∃ t1 t2, b1 j s1 = some (.inl t1) ∧ b2 j s2 = some (.inl t2) ∧ R (j + 1) t1 t2) ∨ ∃ o1 o2, b1 j s1 = some (.inr o1) ∧ b2 j s2 = some (.inr o2) ∧ Q o1 o2) :
    (∃ t1 t2, rngX 0 n b1 s1 = some (.inl t1) ∧ rngX 0 n b2 s2 = some (.inl t2) ∧ R n t1 t2) ∨ ∃ o1 o2, rngX 0 n b1 s1 = some (.inr o1) ∧ rngX 0 n b2 s2 = some (.inr o2) ∧ Q o1 o2 := by
  rcases rngN_sim R Q (n - 0).toNat 0 s1 s2 h0 (fun j s1 s2 g1 g2 => hb j s1 s2 g1 (by omega)) with ⟨t1, t2, h1, h2, h3⟩ | h
  · exact .inl ⟨t1, t2, h1, h2, by rwa [show (0 : Int) + ((n - 0).toNat : Int) = n by omega] at h3⟩
  · exact .inr h
theorem Loop_sim {S1 S2 O1 O2 : Type} {b1 : S1 → Option (S1 ⊕ O1)} {b2 : S2 → Option (S2 ⊕ O2)} (R : S1 → S2 → Prop) (Q : O1 → O2 → Prop) (μ : S1 → Nat)
    (hb : ∀ s1 s2, R s1 s2 → (∃ t1 t2, b1 s1 = some (.inl t1) ∧ b2 s2 = some (.inl t2) ∧ R t1 t2 ∧ μ t1 < μ s1) ∨ ∃ o1 o2, b1 s1 = some (.inr o1) ∧ b2 s2 = some (.inr o2) ∧ Q o1 o2) :
    ∀ (k : Nat) (s1 : S1) (s2 : S2), μ s1 < k → R s1 s2 → ∃ o1 o2, Loop b1 s1 = some o1 ∧ Loop b2 s2 = some o2 ∧ Q o1 o2
  | 0, _, _, h, _ => by omega
  | k + 1, s1, s2, h, hs => by
    rcases hb s1 s2 hs with ⟨t1, t2, h1, h2, h3, h4⟩ | ⟨o1, o2, h1, h2, h3⟩
    · obtain ⟨o1, o2, g1, g2, g3⟩ := Loop_sim R Q μ hb k t1 t2 (by omega) h3
      exact ⟨o1, o2, by rw [Loop_eq, h1]; exact g1, by rw [Loop_eq, h2]; exact g2, g3⟩
    · exact ⟨o1, o2, by rw [Loop_eq, h1], by rw [Loop_eq, h2], h3⟩
/-! ### States as' numbers -/
def wsN : List Int → Nat
  | [] => 0
  | a :: l => 2 ^ a.toNat + wsN l
theorem wsN_append : ∀ {l m : List Int}, wsN (l ++ m) = wsN l + wsN m
  | [], m => by simp [wsN]
  | a :: l, m => by simp only [List.cons_append, wsN, wsN_append (l := l)]; omega
theorem wsN_le : ∀ {l : List Int}, (∀ x ∈ l, x < 24) → wsN l ≤ l.length * 16777216
  | [], _ => by simp [wsN]
  | a :: l, h => by
    have h1 := wsN_le (l := l) fun x hx => h x (List.mem_cons_of_mem _ hx)
    have h2 : 2 ^ a.toNat ≤ 2 ^ 24 := Nat.pow_le_pow_right (by decide) (by have := h a (by simp); omega)
    simp only [wsN, List.length_cons]
    omega
theorem wsN_dvd {k : Nat} : ∀ {l : List Int}, (∀ x ∈ l, k ≤ x.toNat) → 2 ^ k ∣ wsN l
  | [], _ => ⟨0, rfl⟩
  | a :: l, h => Nat.dvd_add (Nat.pow_dvd_pow 2 (h a (by simp))) (wsN_dvd fun x hx => h x (List.mem_cons_of_mem _ hx))
theorem two_pow_no {k : Nat} (h : 2 ^ (k + 1) ∣ 2 ^ k) : False := by
  have h1 := Nat.le_of_dvd (Nat.two_pow_pos k) h
  have h2 := Nat.two_pow_pos k
  rw [Nat.pow_succ] at h1
  omega
theorem wsN_ne {a : Int} {l m : List Int} (ha : 0 ≤ a) (hl : ∀ x ∈ l, a < x) (hm : ∀ x ∈ m, a < x) : wsN (a :: l) ≠ wsN m := fun h => by
  have d1 : 2 ^ (a.toNat + 1) ∣ wsN l := wsN_dvd fun x hx => by have := hl x hx; omega
  have d2 : 2 ^ (a.toNat + 1) ∣ wsN m := wsN_dvd fun x hx => by have := hm x hx; omega
  rw [← h, wsN] at d2
  exact two_pow_no ((Nat.dvd_add_left d1).1 d2)
theorem wsN_inj : ∀ {l m : List Int}, Inc l → Inc m → (∀ x ∈ l, 0 ≤ x) → (∀ x ∈ m, 0 ≤ x) → wsN l = wsN m → l = m
  | [], [], _, _, _, _, _ => rfl
  | [], b :: m, _, _, _, _, h => by
    have := Nat.two_pow_pos b.toNat
    simp only [wsN] at h; omega
  | a :: l, [], _, _, _, _, h => by
    have := Nat.two_pow_pos a.toNat
    simp only [wsN] at h; omega
  | a :: l, b :: m, h1, h2, h3, h4, h => by
    obtain ⟨l1, l2⟩ := List.pairwise_cons.1 h1
    obtain ⟨m1, m2⟩ := List.pairwise_cons.1 h2
    rcases Int.lt_trichotomy a b with c | c | c
    · exact absurd h (wsN_ne (h3 a (by simp)) l1 fun x hx => by
        rcases List.mem_cons.1 hx with rfl | hx
        · exact c
        · have := m1 x hx; omega)
    · subst c
      simp only [wsN] at h
      rw [wsN_inj l2 m2 (fun x hx => h3 x (List.mem_cons_of_mem _ hx)) (fun x hx => h4 x (List.mem_cons_of_mem _ hx)) (by omega)]
    · exact absurd h.symm (wsN_ne (h4 b (by simp)) m1 fun x hx => by
        rcases List.mem_cons.1 hx with rfl | hx
        · exact c
        · have := l1 x hx; omega)
theorem SetN.word_inj {s s' : List Int} {n : Int} (h : SetN s n) (h' : SetN s' n) (e : wsN s = wsN s') : s = s' :=
  wsN_inj h.1 h'.1 (fun x hx => (h.2 x hx).1) (fun x hx => (h'.2 x hx).1) e
theorem word_eq {s : List Int} {n : Int} (hs : SetN s n) (hn : n ≤ 24) : ref1_Word s = some (wsN s : Int) := by
  have hl := hs.len
  unfold ref1_Word
  obtain ⟨w, h1, h2⟩ := forR_inv (body := ref1_Word_l1 s) (n := (s.length : Int)) (s := 0) (fun j w => w = (wsN (s.take j.toNat) : Int)) (by omega) (by simp [wsN]) (fun j w j0 j1 hP => by
    obtain ⟨a, ha, ga⟩ := ix_of (l := s) j0 j1
    have hb := hs.2 a (ix_mem ha)
    have ht : s.take (j + 1).toNat = s.take j.toNat ++ [a] := by rw [show (j + 1).toNat = j.toNat + 1 by omega, List.take_add_one, ga]; rfl
    have b1 : wsN (s.take j.toNat) ≤ (s.take j.toNat).length * 16777216 := wsN_le fun x hx => by have := hs.2 x (List.mem_of_mem_take hx); omega
    have b2 : (s.take j.toNat).length ≤ 24 := by rw [List.length_take]; omega
    have b4 : (s.take j.toNat).length * 16777216 ≤ 24 * 16777216 := Nat.mul_le_mul_right _ b2
    obtain ⟨q, hq⟩ : ∃ q : Nat, q = 2 ^ a.toNat := ⟨_, rfl⟩
    have b3 : q ≤ 16777216 := by rw [hq]; exact (Nat.pow_le_pow_right (by decide) (by omega) : 2 ^ a.toNat ≤ 2 ^ 24)
    have ep : (2 : Int) ^ a.toNat = (q : Int) := by rw [hq]; push_cast; rfl
    unfold ref1_Word_l1
    rw [ha]
    simp only [Option.bind_some]
    rw [IntKind.wrap_u64, Int.emod_eq_of_lt (by omega) (by omega), chk0, if_neg (by omega)]
    simp only [Option.bind_some]
    have es : shlW .i64 1 a = (q : Int) := by
      unfold shlW
      rw [show min a.toNat (IntKind.i64).bits = a.toNat by simp only [IntKind.bits]; omega, Int.one_mul, ep]
      exact w64_of (by omega) (by omega)
    rw [es, w64_of (by omega) (by omega), ht, wsN_append, hP]
    refine ⟨_, rfl, ?_⟩
    simp only [wsN, ← hq]
    omega)
  rw [h1, h2, Int.toNat_natCast, List.take_length]
  rfl
theorem SetN.small {s : List Int} {n : Int} (h : SetN s n) (hn : n ≤ 24) : small s := fun x hx => by have := h.2 x hx; omega
theorem key1_eq {s : List Int} (hs : small s) (h1 : s.length ≤ 1000) : belief_Key [s] = some (keyK [s]) := by
  refine key_eq (by simpa using hs) ?_
  have := encS_len s
  simp only [encK, List.flatMap_cons, List.flatMap_nil, List.length_append, List.append_nil]
  omega
theorem SetN.key_inj {s s' : List Int} {n : Int} (hn : n ≤ 24) (h : SetN s n) (h' : SetN s' n) (e : keyK [s] = keyK [s']) : s = s' := by
  have := keyK_inj (l := [s]) (l' := [s']) (by simpa using h.small hn) (by simpa using h'.small hn) e
  simpa using this
theorem oAfter_eq {t : TOpenTask} (ht : OTaskOk t) {op : Int} (h0 : 0 ≤ op) (h1 : op < t.operators.length) {s : List Int} (hs : SetN s t.facts) : ref8_After t s op = open_Results t s op := by
  obtain ⟨st, w, r1, r2, r3, r4, r5, r6⟩ := oResults_eq ht h0 h1 hs
  have ho := ht.at h0 h1
  have hl := ho.l1
  have hn := ht.n1
  rw [r1]
  unfold ref8_After
  rw [ix_oo h0 h1]
  simp only [Option.bind_some]
  obtain ⟨l, a1, a2, a3, a4, a5⟩ := forR_inv (body := ref8_After_l1 t s (ooAt t op)) (n := ((ooAt t op).outcomes.length : Int)) (s := []) (fun j l => Ord l ∧ (l.length : Int) ≤ j ∧ (∀ y ∈ l, y.length ≤ 24) ∧ ∀ y, y ∈ l ↔ ∃ k x, k < j ∧ ix (ooAt t op).outcomes k = some x ∧ efc t.facts s x = y) (by omega) ⟨.nil, by simp, by simp, fun y => ⟨fun h => by (cases h), fun ⟨k, x, k1, k2, _⟩ => by have := (ix_lo k2).1; omega⟩⟩ (fun j l j0 j1 ⟨p1, p2, p3, p4⟩ => by
    obtain ⟨x, hx, _⟩ := ix_of (l := (ooAt t op).outcomes) j0 j1
    unfold ref8_After_l1
    rw [hx]
    simp only [Option.bind_some, effect_eq ht]
    obtain ⟨l', m1, m2, m3, m4⟩ := insert_eq p1 (by omega) (fun y hy => by have := p3 y hy; omega) (efc t.facts s x)
    rw [m1]
    have e24 := (setN_efc t.facts s x).len
    refine ⟨l', rfl, m2, by omega, fun y hy => ?_, fun y => ?_⟩
    · rcases (m3 y).1 hy with rfl | h
      · omega
      · exact p3 y h
    · rw [m3, p4]
      constructor
      · rintro (rfl | ⟨k, x', k1, k2⟩)
        · exact ⟨j, x, by omega, hx, rfl⟩
        · exact ⟨k, x', by omega, k2⟩
      · rintro ⟨k, x', k1, k2, k3⟩
        by_cases ek : k = j
        · subst ek
          rw [hx] at k2; cases k2
          exact .inl k3.symm
        · exact .inr ⟨k, x', by omega, k2, k3⟩)
  have hst : l = st := Ord.ext a2 r2 fun y => by
    rw [a5, r3]
    constructor
    · rintro ⟨k, x, _, k2, k3⟩; exact ⟨x, ix_mem k2, k3⟩
    · rintro ⟨x, hx, k3⟩
      obtain ⟨k, k0, k1, k2⟩ := mem_ix hx
      exact ⟨k, x, k1, k2, k3⟩
  subst hst
  have hm : mkL 8 (l.length : Int) (0 : Int) = some (List.replicate l.length 0) := by
    rw [mkL, if_pos (by omega)]; simp
  rw [a1]
  simp only [Option.bind_some, hm]
  have e : forR 0 ((ooAt t op).outcomes.length : Int) (ref8_After_l2 t s (ooAt t op) l) (List.replicate l.length 0) = some w := by
    rw [← r6]
    refine forR_congr fun j c j0 j1 => ?_
    obtain ⟨x, hx, _⟩ := ix_of (l := (ooAt t op).outcomes) j0 j1
    obtain ⟨i, e1, e2, e3⟩ := bsets_eq (t := efc t.facts s x) r2 (by omega)
    obtain ⟨r, g1, g2⟩ := place_eq l (efc t.facts s x)
    unfold ref8_After_l2 open_Results_l2
    rw [hx, ix_map, hx]
    simp only [Option.bind_some, Option.map_some, effect_eq ht, e1, g1]
    rcases g2 with ⟨_, h⟩ | ⟨_, _, h, _⟩
    · exact absurd ((r3 _).2 ⟨x, ix_mem hx, rfl⟩) h
    · rw [e3 r h]
  rw [e]
  rfl
end Ab
end
section
namespace Ab
open Go
def Ext (a b : List (List Int)) : Prop := ∀ k y, ix a k = some y → ix b k = some y
theorem Ext.refl (a : List (List Int)) : Ext a a := fun _ _ h => h
theorem Ext.mem {a b : List (List Int)} (h : Ext a b) {y : List Int} (hy : y ∈ a) : y ∈ b := by
  obtain ⟨k, _, _, hk⟩ := mem_ix hy
  exact ix_mem (h k y hk)
theorem Ext.snoc {a b : List (List Int)} (h : Ext a b) (z : List Int) : Ext a (b ++ [z]) := fun k y hk => by
  obtain ⟨i0, i1, g⟩ := ix_lo (h k y hk)
  rw [ix, if_pos i0, List.getElem?_append_left (by omega), g]
theorem Ext.len {a b : List (List Int)} (h : Ext a b) : a.length ≤ b.length := by
  by_cases c : a.length = 0
  · omega
  · obtain ⟨y, hy, _⟩ := ix_of (l := a) (i := (a.length : Int) - 1) (by omega) (by omega)
    have := (ix_lo (h _ y hy)).2.1
    omega
structure Rc (t : TOpenTask) (l : List (List Int)) (m : List (ByteArray × Int)) (ws : List Int) : Prop where
  set : ∀ s ∈ l, SetN s t.facts
  len : l.length ≤ 2000
  map : ∀ s, SetN s t.facts → (0 < Option.getD (mget m (keyK [s])) 0 ↔ s ∈ l)
  wrd : ws = l.map fun s => (wsN s : Int)
theorem Rc.has {t : TOpenTask} {l : List (List Int)} {m : List (ByteArray × Int)} {ws : List Int} (h : Rc t l m ws) {s : List Int} (hs : SetN s t.facts) : (wsN s : Int) ∈ ws ↔ s ∈ l := by
  rw [h.wrd, List.mem_map]
  constructor
  · rintro ⟨a, ha, e⟩
    have : a = s := (h.set a ha).word_inj hs (by omega)
    exact this ▸ ha
  · intro hm; exact ⟨s, hm, rfl⟩
theorem Rc.put {t : TOpenTask} (hn : t.facts ≤ 24) {l : List (List Int)} {m : List (ByteArray × Int)} {ws : List Int} (h : Rc t l m ws) {s : List Int} (hs : SetN s t.facts) (hl : l.length < 2000) : Rc t (l ++ [s]) (mset m (keyK [s]) 1) (ws ++ [(wsN s : Int)]) := by
  refine ⟨fun y hy => ?_, by simp; omega, fun y hy => ?_, by rw [h.wrd]; simp⟩
  · rcases List.mem_append.1 hy with g | g
    · exact h.set y g
    · simp only [List.mem_singleton] at g; subst g; exact hs
  · rw [mget_mset, List.mem_append, List.mem_singleton]
    by_cases e : keyK [y] = keyK [s]
    · have := SetN.key_inj hn hy hs e
      subst this
      rw [if_pos rfl]
      simp
    · rw [if_neg e, h.map y hy]
      constructor
      · exact .inl
      · rintro (g | g)
        · exact g
        · exact absurd (by rw [g]) e
theorem reach4 {t : TOpenTask} (ht : OTaskOk t) {st : List (List Int)} {w : List Int} (hst : ∀ y ∈ st, SetN y t.facts) {l0 : List (List Int)} {m0 : List (ByteArray × Int)} {ws0 : List Int} (h0 : Rc t l0 m0 ws0) :
    (∃ p q, rngX 0 (st.length : Int) (open_Reach_l4 (st, w)) (l0, m0) = some (.inl p) ∧ rngX 0 (st.length : Int) (ref8_Reached_l4 2000 (st, w)) (l0, ws0) = some (.inl q) ∧ q.1 = p.1 ∧ Rc t p.1 p.2 q.2 ∧ Ext l0 p.1 ∧ ∀ y ∈ st, y ∈ p.1) ∨ ∃ o1 o2, rngX 0 (st.length : Int) (open_Reach_l4 (st, w)) (l0, m0) = some (.inr o1) ∧ rngX 0 (st.length : Int) (ref8_Reached_l4 2000 (st, w)) (l0, ws0) = some (.inr o2) ∧ o1 = ([], false) ∧ o2 = ([], false) := by
  have hn := ht.n1
  rcases rngX_sim (b1 := open_Reach_l4 (st, w)) (b2 := ref8_Reached_l4 2000 (st, w)) (n := (st.length : Int)) (s1 := (l0, m0)) (s2 := (l0, ws0)) (fun j p q => q.1 = p.1 ∧ Rc t p.1 p.2 q.2 ∧ Ext l0 p.1 ∧ ∀ k y, k < j → ix st k = some y → y ∈ p.1) (fun o1 o2 => o1 = ([], false) ∧ o2 = ([], false)) (by omega) ⟨rfl, h0, .refl _, fun k y k0 hk => by have := (ix_lo hk).1; omega⟩ (fun j ⟨l, m⟩ ⟨l', ws⟩ j0 j1 ⟨e, g1, g2, g3⟩ => by
    dsimp only at e g1 g2 g3
    subst e
    obtain ⟨y, hy, _⟩ := ix_of (l := st) j0 j1
    have hs := hst y (ix_mem hy)
    have hyl := hs.len
    unfold open_Reach_l4 ref8_Reached_l4
    dsimp only
    rw [hy]
    simp only [Option.bind_some]
    rw [key1_eq (hs.small hn) (by omega), word_eq hs hn]
    simp only [Option.bind_some, has_eq]
    have mono : ∀ {l2 : List (List Int)}, Ext l' l2 → y ∈ l2 → ∀ k z, k < j + 1 → ix st k = some z → z ∈ l2 := fun h1 h2 k z hk hz => by
      by_cases ek : k = j
      · subst ek; rw [hy] at hz; cases hz; exact h2
      · exact h1.mem (g3 k z (by omega) hz)
    by_cases c : y ∈ l'
    · rw [if_pos ((g1.map y hs).2 c), ifP ((g1.has hs).2 c)]
      exact .inl ⟨_, _, rfl, rfl, rfl, g1, g2, mono (.refl _) c⟩
    · rw [if_neg (fun h => c ((g1.map y hs).1 h)), ifN (fun h => c ((g1.has hs).1 h))]
      have hlen := g1.len
      by_cases c2 : (l'.length : Int) = 2000
      · rw [if_pos c2, if_pos (by omega)]
        exact .inr ⟨_, _, rfl, rfl, rfl, rfl⟩
      · rw [if_neg c2, if_neg (by omega), app, if_pos (by simp; omega)]
        simp only [Option.bind_some]
        rw [app, if_pos (by rw [g1.wrd]; simp; omega)]
        exact .inl ⟨_, _, rfl, rfl, rfl, g1.put hn hs (by omega), g2.snoc _, mono ((Ext.refl _).snoc _) (by simp)⟩) with ⟨p, q, h1, h2, h3, h4, h5, h6⟩ | h
  · refine .inl ⟨p, q, h1, h2, h3, h4, h5, fun y hy => ?_⟩
    obtain ⟨k, _, k1, hk⟩ := mem_ix hy
    exact h6 k y k1 hk
  · exact .inr h
/-- What follows a state lies in a list, for the first operators. -/
def ClS (t : TOpenTask) (l : List (List Int)) (s : List Int) (n : Int) : Prop := ∀ op : Int, 0 ≤ op → op < n → oCan t s op → ∀ x ∈ (ooAt t op).outcomes, efc t.facts s x ∈ l
theorem ClS.ext {t : TOpenTask} {l l' : List (List Int)} {s : List Int} {n : Int} (h : ClS t l s n) (e : Ext l l') : ClS t l' s n := fun op h0 h1 hc x hx => e.mem (h op h0 h1 hc x hx)
theorem reach2 {t : TOpenTask} (ht : OTaskOk t) {l0 : List (List Int)} {m0 : List (ByteArray × Int)} {ws0 : List Int} (h0 : Rc t l0 m0 ws0) {at_ : Int} {s : List Int} (hs : ix l0 at_ = some s) :
    (∃ p q, rngX 0 (t.operators.length : Int) (open_Reach_l2 t at_) (l0, m0) = some (.inl p) ∧ rngX 0 (t.operators.length : Int) (ref8_Reached_l2 t 2000 at_) (l0, ws0) = some (.inl q) ∧ q.1 = p.1 ∧ Rc t p.1 p.2 q.2 ∧ Ext l0 p.1 ∧ ClS t p.1 s t.operators.length) ∨ ∃ o1 o2, rngX 0 (t.operators.length : Int) (open_Reach_l2 t at_) (l0, m0) = some (.inr o1) ∧ rngX 0 (t.operators.length : Int) (ref8_Reached_l2 t 2000 at_) (l0, ws0) = some (.inr o2) ∧ o1 = ([], false) ∧ o2 = ([], false) := by
  have hset := h0.set s (ix_mem hs)
  exact rngX_sim (b1 := open_Reach_l2 t at_) (b2 := ref8_Reached_l2 t 2000 at_) (n := (t.operators.length : Int)) (s1 := (l0, m0)) (s2 := (l0, ws0)) (fun j p q => q.1 = p.1 ∧ Rc t p.1 p.2 q.2 ∧ Ext l0 p.1 ∧ ClS t p.1 s j) (fun o1 o2 => o1 = ([], false) ∧ o2 = ([], false)) (by omega) ⟨rfl, h0, .refl _, fun op a b => by omega⟩ (fun j ⟨l, m⟩ ⟨l', ws⟩ j0 j1 ⟨e, g1, g2, g3⟩ => by
    dsimp only at e g1 g2 g3
    subst e
    unfold open_Reach_l2 ref8_Reached_l2
    dsimp only
    rw [g2 _ _ hs]
    simp only [Option.bind_some]
    rw [oCan_eq ht j0 j1 hset, oApplies_eq j0 j1]
    simp only [Option.bind_some, dec_not]
    have step : ∀ {l2 : List (List Int)}, Ext l' l2 → (oCan t s j → ∀ x ∈ (ooAt t j).outcomes, efc t.facts s x ∈ l2) → ClS t l2 s (j + 1) := fun h1 h2 op a b hc x hx => by
      by_cases eo : op = j
      · subst eo; exact h2 hc x hx
      · exact h1.mem (g3 op a (by omega) hc x hx)
    by_cases c : oCan t s j
    · rw [ifNN c, ifNN c, oAfter_eq ht j0 j1 hset]
      obtain ⟨st, w, r1, r2, r3, _⟩ := oResults_eq ht j0 j1 hset
      rw [r1]
      simp only [Option.bind_some]
      rcases reach4 ht (st := st) (w := w) (fun y hy => by
        obtain ⟨x, _, rfl⟩ := (r3 y).1 hy
        exact setN_efc _ _ _) g1 with ⟨p, q, h1, h2, h3, h4, h5, h6⟩ | ⟨o1, o2, h1, h2, h3, h4⟩
      · rw [h1, h2]
        refine .inl ⟨p, q, rfl, rfl, h3, h4, fun k y hk => h5 k y (g2 k y hk), step h5 fun _ x hx => h6 _ ((r3 _).2 ⟨x, hx, rfl⟩)⟩
      · rw [h1, h2]
        exact .inr ⟨o1, o2, rfl, rfl, h3, h4⟩
    · rw [ifP c, ifP c]
      exact .inl ⟨_, _, rfl, rfl, rfl, g1, g2, step (.refl _) fun h => absurd h c⟩)
/-- What is known of the states that are reached. -/
structure Cl (t : TOpenTask) (l : List (List Int)) : Prop where
  len : l.length ≤ 2000
  set : ∀ s ∈ l, SetN s t.facts
  init : t.init ∈ l
  closed : ∀ s ∈ l, ClS t l s t.operators.length
theorem reach_full {t : TOpenTask} (ht : OTaskOk t) : (∃ out, open_Reach t = some (out, true) ∧ ref8_Reached t 2000 = some (out, true) ∧ Cl t out ∧ Ord out ∧ ∃ l, Loop (ref8_Reached_l1 t 2000) ([t.init], [(wsN t.init : Int)], 0) = some (.inl l) ∧ out.length ≤ l.length) ∨ (open_Reach t = some ([], false) ∧ ref8_Reached t 2000 = some ([], false)) := by
  have hn := ht.n1
  have hi := ht.init
  have hil := hi.len
  unfold open_Reach ref8_Reached
  rw [clone_eq (by omega)]
  simp only [Option.bind_some]
  rw [key1_eq (hi.small hn) (by omega), word_eq hi hn]
  simp only [Option.bind_some]
  rw [app, if_pos (by simp)]
  simp only [Option.bind_some, List.nil_append]
  have r0 : Rc t [t.init] (mset ([] : List (ByteArray × Int)) (keyK [t.init]) 1) [(wsN t.init : Int)] := by
    refine ⟨by simpa using hi, by simp, fun s hs => ?_, rfl⟩
    rw [mget_mset]
    by_cases e : keyK [s] = keyK [t.init]
    · rw [if_pos e, SetN.key_inj hn hs hi e]; simp
    · rw [if_neg e]
      simp only [mget, List.mem_singleton, Option.getD_none]
      exact ⟨fun h => by omega, fun h => absurd (by rw [h]) e⟩
  obtain ⟨o1, o2, q1, q2, q3⟩ := Loop_sim (b1 := open_Reach_l1 t) (b2 := ref8_Reached_l1 t 2000) (fun p q => q.1 = p.1 ∧ q.2.2 = p.2.2 ∧ Rc t p.1 p.2.1 q.2.1 ∧ 0 ≤ p.2.2 ∧ p.2.2 ≤ p.1.length ∧ t.init ∈ p.1 ∧ ∀ i s, i < p.2.2 → ix p.1 i = some s → ClS t p.1 s t.operators.length) (fun o1 o2 => (∃ l, o1 = .inl l ∧ o2 = .inl l ∧ Cl t l) ∨ (o1 = .inr ([], false) ∧ o2 = .inr ([], false))) (fun p => (2000 - p.2.2).toNat) (fun ⟨l, m, a⟩ ⟨l', ws, a'⟩ ⟨e1, e2, g1, g2, g3, g4, g5⟩ => by
    dsimp only at e1 e2 g1 g2 g3 g4 g5
    subst e1 e2
    have hlen := g1.len
    unfold open_Reach_l1 ref8_Reached_l1
    dsimp only
    by_cases c : a' < l'.length
    · rw [if_pos c, if_pos c]
      obtain ⟨s, hs, _⟩ := ix_of (l := l') g2 c
      rcases reach2 ht g1 hs with ⟨p, q, h1, h2, h3, h4, h5, h6⟩ | ⟨o1, o2, h1, h2, h3, h4⟩
      · rw [h1, h2]
        have := h5.len
        have := h4.len
        simp only [Option.bind_some]
        rw [w64_of (by omega) (by omega)]
        refine .inl ⟨_, _, rfl, rfl, ⟨h3, rfl, h4, by dsimp only; omega, by dsimp only; omega, h5.mem g4, fun i s' hi' hs' => ?_⟩, by dsimp only; omega⟩
        dsimp only at hi' hs' ⊢
        by_cases ei : i = a'
        · subst ei
          rw [h5 _ _ hs] at hs'; cases hs'
          exact h6
        · obtain ⟨y, hy, _⟩ := ix_of (l := l') (i := i) (ix_lo hs').1 (by omega)
          have hy2 := h5 _ _ hy
          rw [hs'] at hy2
          cases hy2
          exact (g5 i s' (by omega) hy).ext h5
      · rw [h1, h2]
        refine .inr ⟨_, _, rfl, rfl, .inr ⟨by rw [h3], by rw [h4]⟩⟩
    · rw [if_neg c, if_neg c]
      refine .inr ⟨_, _, rfl, rfl, .inl ⟨l', rfl, rfl, g1.len, g1.set, g4, fun s hs => ?_⟩⟩
      obtain ⟨i, i0, i1, hi⟩ := mem_ix hs
      exact g5 i s (by omega) hi) _ ([t.init], mset ([] : List (ByteArray × Int)) (keyK [t.init]) 1, 0) ([t.init], [(wsN t.init : Int)], 0) (Nat.lt_succ_self _) ⟨rfl, rfl, r0, by simp, by simp, by simp, fun i s hi hs => by have := (ix_lo hs).1; dsimp only at hi; omega⟩
  rw [q1, q2]
  rcases q3 with ⟨l, rfl, rfl, hc⟩ | ⟨rfl, rfl⟩
  · left
    simp only [Option.bind_some]
    have hcl := hc.len
    obtain ⟨r, n1, n2, n3, n4⟩ := normal_eq (l := l) (by omega)
    rw [n1]
    obtain ⟨l', a1, a2, a3, a4, a5⟩ := forR_inv (body := ref8_Reached_l6 l) (n := (l.length : Int)) (s := []) (fun j l' => Ord l' ∧ (l'.length : Int) ≤ j ∧ (∀ y ∈ l', y.length ≤ 24) ∧ ∀ y, y ∈ l' ↔ ∃ k, k < j ∧ ix l k = some y) (by omega) ⟨.nil, by simp, by simp, fun y => ⟨fun h => by (cases h), fun ⟨k, k1, k2⟩ => by have := (ix_lo k2).1; omega⟩⟩ (fun j l' j0 j1 ⟨p1, p2, p3, p4⟩ => by
      obtain ⟨s, hs, _⟩ := ix_of (l := l) j0 j1
      unfold ref8_Reached_l6
      rw [hs]
      simp only [Option.bind_some]
      obtain ⟨l2, m1, m2, m3, m4⟩ := insert_eq p1 (by omega) (fun y hy => by have := p3 y hy; omega) s
      rw [m1]
      have e24 := (hc.set s (ix_mem hs)).len
      refine ⟨l2, rfl, m2, by omega, fun y hy => ?_, fun y => ?_⟩
      · rcases (m3 y).1 hy with rfl | h
        · omega
        · exact p3 y h
      · rw [m3, p4]
        constructor
        · rintro (rfl | ⟨k, k1, k2⟩)
          · exact ⟨j, by omega, hs⟩
          · exact ⟨k, by omega, k2⟩
        · rintro ⟨k, k1, k2⟩
          by_cases ek : k = j
          · subst ek
            rw [hs] at k2; cases k2
            exact .inl rfl
          · exact .inr ⟨k, by omega, k2⟩)
    rw [a1]
    have : l' = r := Ord.ext a2 n2 fun y => by
      rw [a5, n3]
      constructor
      · rintro ⟨k, _, k2⟩; exact ix_mem k2
      · intro hy
        obtain ⟨k, _, k1, hk⟩ := mem_ix hy
        exact ⟨k, k1, hk⟩
    subst this
    refine ⟨l', rfl, rfl, ⟨by omega, fun s hs => hc.set s ((n3 s).1 hs), (n3 _).2 hc.init, fun s hs op h0 h1 hcan x hx => (n3 _).2 (hc.closed s ((n3 s).1 hs) op h0 h1 hcan x hx)⟩, a2, l, rfl, n4⟩
  · right
    exact ⟨rfl, rfl⟩
theorem explore_ok {t : TOpenTask} (ht : OTaskOk t) : open_Explore t = (open_Reach t).bind fun r => if r.2 = true then some (r.1, ⟨0, 0⟩) else some ([], ⟨10, -7⟩) := by
  obtain ⟨f, h1, _, h3⟩ := oValidate_eq t
  rcases h3 with ⟨rfl, _⟩ | ⟨_, hn⟩
  · unfold open_Explore
    rw [h1]
    simp only [Option.bind_some]
    rw [if_neg (by simp)]
    congr 1
    funext r
    cases r.2 <;> rfl
  · exact absurd ht hn
end Ab
end
section
namespace Ab
open Go
theorem nodup_len {α : Type} [DecidableEq α] : ∀ {c S : List α}, c.Nodup → (∀ x ∈ c, x ∈ S) → c.length ≤ S.length
  | [], _, _, _ => Nat.zero_le _
  | a :: c, S, h, hs => by
    obtain ⟨h1, h2⟩ := List.nodup_cons.1 h
    have ha := hs a (by simp)
    have := nodup_len (c := c) (S := S.erase a) h2 fun x hx => by
      have hne : x ≠ a := fun e => h1 (e ▸ hx)
      exact (List.mem_erase_of_ne hne).2 (hs x (List.mem_cons_of_mem _ hx))
    rw [List.length_erase_of_mem ha] at this
    have : 0 < S.length := List.length_pos_of_mem ha
    simp only [List.length_cons]
    omega
section
variable {α : Type}
/-- Surely over within k steps. -/
def Dn (G L : α → Prop) (nx : α → List α) : Nat → α → Prop
  | 0, s => G s
  | k + 1, s => G s ∨ (L s ∧ ∀ y ∈ nx s, Dn G L nx k y)
variable {G L : α → Prop} {nx : α → List α}
theorem Dn.goal {k : Nat} {s : α} (h : G s) : Dn G L nx k s := by
  cases k with
  | zero => exact h
  | succ k => exact .inl h
theorem Dn.succ : ∀ {k : Nat} {s : α}, Dn G L nx k s → Dn G L nx (k + 1) s
  | 0, s, h => .inl h
  | k + 1, s, h => by
    rcases h with h | ⟨h1, h2⟩
    · exact .inl h
    · exact .inr ⟨h1, fun y hy => (h2 y hy).succ⟩
theorem Dn.mono {k m : Nat} {s : α} (h : Dn G L nx k s) (hm : k ≤ m) : Dn G L nx m s := by
  induction hm with
  | refl => exact h
  | step _ ih => exact ih.succ
/-- The exact number of steps in the worst case. -/
def Ht (G L : α → Prop) (nx : α → List α) (k : Nat) (s : α) : Prop := Dn G L nx k s ∧ ∀ j, j < k → ¬ Dn G L nx j s
theorem Ht.unique {k m : Nat} {s : α} (h : Ht G L nx k s) (h' : Ht G L nx m s) : k = m := by
  rcases Nat.lt_trichotomy k m with c | c | c
  · exact absurd h.1 (h'.2 k c)
  · exact c
  · exact absurd h'.1 (h.2 m c)
theorem Ht.le {k m : Nat} {s : α} (h : Ht G L nx k s) (h' : Dn G L nx m s) : k ≤ m := by
  rcases Nat.lt_or_ge m k with c | c
  · exact absurd h' (h.2 m c)
  · exact c
theorem Ht.of_dn : ∀ {k : Nat} {s : α}, Dn G L nx k s → ∃ m, m ≤ k ∧ Ht G L nx m s
  | 0, s, h => ⟨0, Nat.le_refl _, h, fun j hj => by omega⟩
  | k + 1, s, h => by
    by_cases c : Dn G L nx k s
    · obtain ⟨m, h1, h2⟩ := Ht.of_dn c
      exact ⟨m, by omega, h2⟩
    · exact ⟨k + 1, Nat.le_refl _, h, fun j hj hd => c (hd.mono (by omega))⟩
theorem Ht.zero {s : α} (h : G s) : Ht G L nx 0 s := ⟨h, fun j hj => by omega⟩
theorem Ht.goal {k : Nat} {s : α} (h : Ht G L nx k s) (hg : G s) : k = 0 := h.unique (.zero hg)
/-- A state that is not over has a successor one step nearer, and none further. -/
theorem Ht.step {k : Nat} {s : α} (h : Ht G L nx k s) (hg : ¬ G s) (hne : ∀ s, L s → nx s ≠ []) : ∃ m, k = m + 1 ∧ L s ∧ (∀ y ∈ nx s, ∃ j, j ≤ m ∧ Ht G L nx j y) ∧ ∃ y ∈ nx s, Ht G L nx m y := by
  cases k with
  | zero => exact absurd h.1 hg
  | succ m =>
    rcases h.1 with g | ⟨h1, h2⟩
    · exact absurd g hg
    · refine ⟨m, rfl, h1, fun y hy => Ht.of_dn (h2 y hy), ?_⟩
      cases m with
      | zero =>
        obtain ⟨y, hy⟩ := List.exists_mem_of_ne_nil _ (hne s h1)
        exact ⟨y, hy, h2 y hy, fun j hj => by omega⟩
      | succ m =>
        have hn := h.2 (m + 1) (by omega)
        have : ∃ y ∈ nx s, ¬ Dn G L nx m y := Classical.byContradiction fun hc => hn (.inr ⟨h1, fun y hy => Classical.byContradiction fun hy2 => hc ⟨y, hy, hy2⟩⟩)
        obtain ⟨y, hy, hy2⟩ := this
        exact ⟨y, hy, h2 y hy, fun j hj hd => hy2 (hd.mono (by omega))⟩
/-- The other way round. -/
theorem Ht.of_succ {m : Nat} {s : α} (hg : ¬ G s) (hL : L s) (h1 : ∀ y ∈ nx s, ∃ j, j ≤ m ∧ Ht G L nx j y) (h2 : ∃ y ∈ nx s, Ht G L nx m y) : Ht G L nx (m + 1) s := by
  refine ⟨.inr ⟨hL, fun y hy => by obtain ⟨j, hj, h⟩ := h1 y hy; exact h.1.mono hj⟩, fun j hj hd => ?_⟩
  cases j with
  | zero => exact hg hd
  | succ j =>
    rcases hd with g | ⟨_, hd⟩
    · exact hg g
    · obtain ⟨y, hy, h⟩ := h2
      have := h.le (hd y hy)
      omega
theorem Ht.chain [DecidableEq α] {S : List α} (hcl : ∀ s ∈ S, ¬ G s → L s → ∀ y ∈ nx s, y ∈ S) (hne : ∀ s, L s → nx s ≠ []) : ∀ {k : Nat} {s : α}, Ht G L nx k s → s ∈ S → ∃ c : List α, c.length = k + 1 ∧ c.Nodup ∧ (∀ x ∈ c, x ∈ S) ∧ ∀ x ∈ c, ∃ j, j ≤ k ∧ Ht G L nx j x
  | 0, s, h, hs => ⟨[s], rfl, by simp, by simpa using hs, fun x hx => ⟨0, Nat.le_refl _, by simp only [List.mem_singleton] at hx; exact hx ▸ h⟩⟩
  | k + 1, s, h, hs => by
    have hg : ¬ G s := fun g => by have := h.goal g; omega
    obtain ⟨m, e, hL, _, y, hy, hy2⟩ := h.step hg hne
    have : m = k := by omega
    subst this
    obtain ⟨c, c1, c2, c3, c4⟩ := Ht.chain hcl hne hy2 (hcl s hs hg hL y hy)
    refine ⟨s :: c, by simp [c1], List.nodup_cons.2 ⟨fun hc => ?_, c2⟩, fun x hx => ?_, fun x hx => ?_⟩
    · obtain ⟨j, hj, hj2⟩ := c4 s hc
      have := hj2.unique h
      omega
    · rcases List.mem_cons.1 hx with rfl | hx
      · exact hs
      · exact c3 x hx
    · rcases List.mem_cons.1 hx with rfl | hx
      · exact ⟨_, Nat.le_refl _, h⟩
      · obtain ⟨j, hj, hj2⟩ := c4 x hx
        exact ⟨j, by omega, hj2⟩
/-- Heights are smaller than the number of states. -/
theorem Ht.lt [DecidableEq α] {S : List α} (hcl : ∀ s ∈ S, ¬ G s → L s → ∀ y ∈ nx s, y ∈ S) (hne : ∀ s, L s → nx s ≠ []) {k : Nat} {s : α} (h : Ht G L nx k s) (hs : s ∈ S) : k < S.length := by
  obtain ⟨c, c1, c2, c3, _⟩ := Ht.chain hcl hne h hs
  have := nodup_len c2 c3
  omega
end
end Ab
end
section
namespace Ab
open Go
def GoalS (t : TOpenTask) (s : List Int) : Prop := ∀ x ∈ t.goal, x ∈ s
noncomputable def LiveS (p : List TChoice) (s : List Int) : Prop := 0 ≤ chO p s
noncomputable def nxS (t : TOpenTask) (p : List TChoice) (s : List Int) : List (List Int) := (ooAt t (chO p s)).outcomes.map (efc t.facts s)
inductive Rch (t : TOpenTask) (p : List TChoice) : List Int → Prop
  | init : Rch t p t.init
  | step {s y : List Int} : Rch t p s → ¬ GoalS t s → LiveS p s → y ∈ nxS t p s → Rch t p y
theorem chO_mem {p : List TChoice} {s : List Int} (h : 0 ≤ chO p s) : ∃ c ∈ p, c.state = s ∧ chO p s = c.operator := by
  obtain ⟨r, h1, h2⟩ := rChosen_eq p s
  have e : chO p s = r := by rw [chO, h1]; rfl
  rw [e] at h ⊢
  rcases h2 with ⟨rfl, _⟩ | ⟨c, h3, h4, h5⟩
  · omega
  · exact ⟨c, h3, h4, h5⟩
theorem live_op {t : TOpenTask} {p : List TChoice} (hp : PolOk t p) {s : List Int} (h : LiveS p s) : (0 ≤ chO p s ∧ chO p s < t.operators.length) ∧ oCan t s (chO p s) := by
  obtain ⟨_, e⟩ := chosen_chO hp s
  unfold LiveS at h
  rcases e with e | e
  · omega
  · exact ⟨⟨e.1, e.2.1⟩, e.2.2⟩
theorem Rch.set {t : TOpenTask} (ht : OTaskOk t) {p : List TChoice} {s : List Int} (h : Rch t p s) : SetN s t.facts := by
  cases h with
  | init => exact ht.init
  | step _ _ _ hy =>
    obtain ⟨x, _, rfl⟩ := List.mem_map.1 hy
    exact setN_efc _ _ _
/-- All states that can be met. -/
noncomputable def candK (t : TOpenTask) (p : List TChoice) : List (List Int) := t.init :: p.flatMap fun c => (ooAt t c.operator).outcomes.map (efc t.facts c.state)
theorem flat_len {α β : Type} {f : α → List β} {n : Nat} : ∀ {l : List α}, (∀ a ∈ l, (f a).length ≤ n) → (l.flatMap f).length ≤ l.length * n
  | [], _ => by simp
  | a :: l, h => by
    have h1 := h a (by simp)
    have h2 := flat_len (l := l) fun b hb => h b (List.mem_cons_of_mem _ hb)
    rw [List.flatMap_cons, List.length_append, List.length_cons, Nat.succ_mul]
    omega
theorem candK_len {t : TOpenTask} (ht : OTaskOk t) {p : List TChoice} (hp : PolOk t p) : (candK t p).length ≤ 801 := by
  have h := flat_len (f := fun c : TChoice => (ooAt t c.operator).outcomes.map (efc t.facts c.state)) (n := 4) (l := p) fun c hc => by
    have := hp.op c hc
    have := (ht.at this.1 this.2).l1
    simpa using this
  have := hp.len
  have h2 : p.length * 4 ≤ 200 * 4 := Nat.mul_le_mul_right _ this
  unfold candK
  rw [List.length_cons]
  omega
theorem Rch.cand {t : TOpenTask} {p : List TChoice} {s : List Int} (h : Rch t p s) : s ∈ candK t p := by
  cases h with
  | init => exact List.mem_cons_self ..
  | @step s y _ _ hl hy =>
    obtain ⟨c, h1, h2, h3⟩ := chO_mem hl
    refine List.mem_cons_of_mem _ (List.mem_flatMap.2 ⟨c, h1, ?_⟩)
    unfold nxS at hy
    rw [h3] at hy
    rw [h2]
    exact hy
theorem rch_len {t : TOpenTask} (ht : OTaskOk t) {p : List TChoice} (hp : PolOk t p) {l : List (List Int)} (hn : l.Nodup) (h : ∀ s ∈ l, Rch t p s) : l.length ≤ 801 :=
  Nat.le_trans (nodup_len hn fun s hs => (h s hs).cand) (candK_len ht hp)
theorem Ord.nodup {l : List (List Int)} (h : Ord l) : l.Nodup := List.Pairwise.imp (fun {a b : List Int} (hab : llt a b) (e : a = b) => llt_irrefl a (by rw [← e] at hab; exact hab)) h
/-- What follows a state that is left lies in l. -/
def ClV (t : TOpenTask) (p : List TChoice) (l : List (List Int)) (s : List Int) : Prop := ¬ GoalS t s → LiveS p s → ∀ y ∈ nxS t p s, y ∈ l
/-- The states that a policy meets, in order. -/
structure Vis (t : TOpenTask) (p : List TChoice) (l : List (List Int)) : Prop where
  ord : Ord l
  mem : ∀ s, s ∈ l ↔ Rch t p s
theorem vis_of {t : TOpenTask} {p : List TChoice} {l : List (List Int)} (ho : Ord l) (hi : t.init ∈ l) (hr : ∀ s ∈ l, Rch t p s) (hc : ∀ s ∈ l, ClV t p l s) : Vis t p l := by
  refine ⟨ho, fun s => ⟨hr s, fun h => ?_⟩⟩
  induction h with
  | init => exact hi
  | step _ hg hl hy ih => exact hc _ ih hg hl _ hy
theorem containsLL_eq {l : List (List Int)} {s : List Int} : slices_ContainsFunc_LLint l (fun y => open_Visited_1 y s) = some (dec (s ∈ l)) := by
  unfold slices_ContainsFunc_LLint slices_IndexFunc_LLint
  rcases rngX_test (body := slices_IndexFunc_LLint_l1 l fun y => open_Visited_1 y s) (n := (l.length : Int)) (fun j => if dec (ix l j = some s) = true then some j else none) (by omega) (fun j h0 h1 _ => by
    obtain ⟨x, hx, _⟩ := ix_of (l := l) h0 h1
    unfold slices_IndexFunc_LLint_l1 open_Visited_1
    rw [hx]
    simp only [Option.bind_some, equal_eq]
    by_cases e : x = s
    · rw [ifP e, ifP (by rw [e])]
    · rw [ifN e, ifN (by simpa using e)]) with ⟨h1, h2⟩ | ⟨j, o, h0, h1, h2, h3, h4⟩
  · rw [h1]
    simp only [Option.bind_some]
    rw [dec_no]
    · rfl
    · intro hs
      obtain ⟨i, i0, i1, hi⟩ := mem_ix hs
      have := h2 i i0 i1
      rw [ifP hi] at this
      cases this
  · rw [h4]
    split at h2
    · rename_i e
      cases h2
      simp only [Option.bind_some]
      rw [dec_of (ix_mem (dec_true.1 e)), decide_eq_true h0]
    · cases h2
theorem vis4 {t : TOpenTask} (ht : OTaskOk t) {p : List TChoice} (hp : PolOk t p) {s : List Int} (hs : Rch t p s) (hg : ¬ GoalS t s) (hl : LiveS p s) {st : List (List Int)} {w : List Int} (hst : ∀ y, y ∈ st ↔ y ∈ nxS t p s) {l0 : List (List Int)} (hn : l0.Nodup) (hr : ∀ s ∈ l0, Rch t p s) :
    ∃ l, forR 0 (st.length : Int) (open_Visited_l2 (st, w)) l0 = some l ∧ l.Nodup ∧ (∀ s ∈ l, Rch t p s) ∧ Ext l0 l ∧ ∀ y ∈ st, y ∈ l := by
  obtain ⟨l, h1, h2, h3, h4, h5⟩ := forR_inv (body := open_Visited_l2 (st, w)) (n := (st.length : Int)) (s := l0) (fun j l => l.Nodup ∧ (∀ s ∈ l, Rch t p s) ∧ Ext l0 l ∧ ∀ k y, k < j → ix st k = some y → y ∈ l) (by omega) ⟨hn, hr, .refl _, fun k y hk h => by have := (ix_lo h).1; omega⟩ (fun j l j0 j1 ⟨a1, a2, a3, a4⟩ => by
    obtain ⟨y, hy, _⟩ := ix_of (l := st) j0 j1
    unfold open_Visited_l2
    dsimp only
    rw [hy]
    simp only [Option.bind_some, containsLL_eq, dec_not]
    have mono : ∀ {l2 : List (List Int)}, Ext l l2 → y ∈ l2 → ∀ k z, k < j + 1 → ix st k = some z → z ∈ l2 := fun h1 h2 k z hk hz => by
      by_cases ek : k = j
      · subst ek; rw [hy] at hz; cases hz; exact h2
      · exact h1.mem (a4 k z (by omega) hz)
    have hry : Rch t p y := .step hs hg hl ((hst y).1 (ix_mem hy))
    by_cases c : y ∈ l
    · rw [ifNN c]
      exact ⟨l, rfl, a1, a2, a3, mono (.refl _) c⟩
    · have hlen := rch_len ht hp a1 a2
      rw [ifP c, app, if_pos (by simp; omega)]
      refine ⟨_, rfl, List.nodup_append.2 ⟨a1, by simp, fun a ha b hb => ?_⟩, fun z hz => ?_, a3.snoc _, mono ((Ext.refl _).snoc _) (by simp)⟩
      · simp only [List.mem_singleton] at hb; subst hb; exact fun e => c (e ▸ ha)
      · rcases List.mem_append.1 hz with g | g
        · exact a2 z g
        · simp only [List.mem_singleton] at g; exact g ▸ hry)
  refine ⟨l, h1, h2, h3, h4, fun y hy => ?_⟩
  obtain ⟨k, _, k1, hk⟩ := mem_ix hy
  exact h5 k y k1 hk
theorem oVisited_eq {t : TOpenTask} (ht : OTaskOk t) {p : List TChoice} (hp : PolOk t p) : ∃ l, open_Visited t p = some l ∧ Vis t p l := by
  have hn := ht.n1
  have hil := ht.init.len
  unfold open_Visited
  rw [clone_eq (by omega)]
  simp only [Option.bind_some]
  obtain ⟨l, h1, h2, h3, h4, h5⟩ := Loop_inv (body := open_Visited_l1 t p) (fun q => q.1.Nodup ∧ (∀ s ∈ q.1, Rch t p s) ∧ t.init ∈ q.1 ∧ (0 ≤ q.2 ∧ q.2 ≤ q.1.length) ∧ ∀ i s, i < q.2 → ix q.1 i = some s → ClV t p q.1 s) (fun l => l.Nodup ∧ (∀ s ∈ l, Rch t p s) ∧ t.init ∈ l ∧ ∀ s ∈ l, ClV t p l s) (fun q => (801 - q.2).toNat) (s := ([t.init], 0)) ⟨by simp, by simpa using Rch.init, by simp, by simp, fun i s hi h => by have := (ix_lo h).1; dsimp only at hi; omega⟩ (fun ⟨l, a⟩ ⟨g1, g2, g3, g4, g5⟩ => by
    dsimp only at g1 g2 g3 g4 g5 ⊢
    have hlen := rch_len ht hp g1 g2
    unfold open_Visited_l1
    dsimp only
    by_cases c : a < l.length
    · rw [if_pos c]
      obtain ⟨s, hs, _⟩ := ix_of (l := l) g4.1 c
      have hrs := g2 s (ix_mem hs)
      have hset := hrs.set ht
      have hsl := hset.len
      rw [hs]
      simp only [Option.bind_some, (chosen_chO hp s).1, contains_eq hset.1 ht.goal.1 (show s.length ≤ 1000000 by omega)]
      have key : (if chO p s < 0 then some true else some (dec (∀ x ∈ t.goal, x ∈ s))) = some (dec (chO p s < 0 ∨ GoalS t s)) := by
        unfold GoalS
        rw [← ifOr]
        by_cases h : chO p s < 0
        · rw [if_pos h, ifP h]
        · rw [if_neg h, ifN h]
      rw [key]
      simp only [Option.bind_some]
      have fin : ∀ {l2 : List (List Int)}, Ext l l2 → ClV t p l2 s → ∀ i z, i < a + 1 → ix l2 i = some z → ClV t p l2 z := fun h1 h2 i z hi hz => by
        by_cases ei : i = a
        · subst ei
          rw [h1 _ _ hs] at hz; cases hz; exact h2
        · obtain ⟨y, hy, _⟩ := ix_of (l := l) (i := i) (ix_lo hz).1 (by omega)
          have := h1 _ _ hy
          rw [hz] at this; cases this
          exact fun q1 q2 y hy2 => h1.mem (g5 i z (by omega) hy q1 q2 y hy2)
      by_cases cs : chO p s < 0 ∨ GoalS t s
      · rw [ifP cs]
        simp only [Option.bind_some]
        rw [w64_of (by omega) (by omega)]
        refine .inl ⟨_, rfl, ⟨g1, g2, g3, by dsimp only; omega, fin (.refl _) fun q1 q2 => ?_⟩, by dsimp only; omega⟩
        rcases cs with c1 | c1
        · unfold LiveS at q2; omega
        · exact absurd c1 q1
      · rw [ifN cs]
        have hl : LiveS p s := by unfold LiveS; have := fun h => cs (.inl h); omega
        have hg : ¬ GoalS t s := fun h => cs (.inr h)
        have ho := live_op hp hl
        obtain ⟨st, w, r1, _, r3, _⟩ := oResults_eq ht ho.1.1 ho.1.2 hset
        rw [r1]
        simp only [Option.bind_some]
        obtain ⟨l2, e1, e2, e3, e4, e5⟩ := vis4 ht hp hrs hg hl (st := st) (w := w) (fun y => by rw [r3, nxS, List.mem_map]) g1 g2
        rw [e1]
        simp only [Option.bind_some]
        have := e4.len
        rw [w64_of (by omega) (by omega)]
        exact .inl ⟨_, rfl, ⟨e2, e3, e4.mem g3, by dsimp only; omega, fin e4 fun _ _ y hy => e5 y (by rw [r3]; exact List.mem_map.1 hy)⟩, by dsimp only; omega⟩
    · rw [if_neg c]
      refine .inr ⟨l, rfl, g1, g2, g3, fun s hs => ?_⟩
      obtain ⟨i, i0, i1, hi⟩ := mem_ix hs
      exact g5 i s (by omega) hi)
  rw [h1]
  simp only [Option.bind_some]
  have hlen := rch_len ht hp h2 h3
  obtain ⟨r, n1, n2, n3, n4⟩ := normal_eq (l := l) (by omega)
  rw [n1]
  exact ⟨r, rfl, vis_of n2 ((n3 _).2 h4) (fun s hs => h3 s ((n3 s).1 hs)) fun s hs q1 q2 y hy => (n3 y).2 (h5 s ((n3 s).1 hs) q1 q2 y hy)⟩
end Ab
end
section
namespace Ab
open Go
abbrev HtS (t : TOpenTask) (p : List TChoice) (k : Nat) (s : List Int) : Prop := Ht (GoalS t) (LiveS p) (nxS t p) k s
theorem nx_ne {t : TOpenTask} (ht : OTaskOk t) {p : List TChoice} (hp : PolOk t p) : ∀ s, LiveS p s → nxS t p s ≠ [] := fun s hl h => by
  have ho := live_op hp hl
  have := (ht.at ho.1.1 ho.1.2).l0
  unfold nxS at h
  rw [List.map_eq_nil_iff] at h
  rw [h] at this
  simp at this
theorem Vis.closed {t : TOpenTask} {p : List TChoice} {l : List (List Int)} (h : Vis t p l) : ∀ s ∈ l, ¬ GoalS t s → LiveS p s → ∀ y ∈ nxS t p s, y ∈ l := fun s hs hg hl y hy => (h.mem y).2 (.step ((h.mem s).1 hs) hg hl hy)
theorem Vis.lt {t : TOpenTask} (ht : OTaskOk t) {p : List TChoice} (hp : PolOk t p) {l : List (List Int)} (h : Vis t p l) {k : Nat} {s : List Int} (hk : HtS t p k s) (hs : s ∈ l) : k < l.length := Ht.lt h.closed (nx_ne ht hp) hk hs
theorem Vis.len {t : TOpenTask} (ht : OTaskOk t) {p : List TChoice} (hp : PolOk t p) {l : List (List Int)} (h : Vis t p l) : l.length ≤ 801 := rch_len ht hp h.ord.nodup fun s hs => (h.mem s).1 hs
/-- A value at a state of an ordered list. -/
theorem find_eq {l : List (List Int)} (ho : Ord l) (hl : l.length ≤ 500000) {s : List Int} {i : Int} (hi : ix l i = some s) : open_Find l s = some i := by
  unfold open_Find
  obtain ⟨k, h1, _, h3⟩ := bsets_eq (t := s) ho hl
  rw [h1, h3 i hi]; rfl
/-- The largest value after an operator: -1 if one is not known. -/
theorem worst_eq {t : TOpenTask} (ht : OTaskOk t) {p : List TChoice} (hp : PolOk t p) {l : List (List Int)} (hv : Vis t p l) {s : List Int} (hs : s ∈ l) (hg : ¬ GoalS t s) (hl : LiveS p s) {v : List Int} (hvl : v.length = l.length) (hvm : ∀ x ∈ v, -1 ≤ x) :
    ∃ n, strong_worst t l v s (chO p s) = some n ∧ ((n = -1 ∧ ∃ y ∈ nxS t p s, ∃ i, ix l i = some y ∧ ix v i = some (-1)) ∨ (0 ≤ n ∧ (∀ y ∈ nxS t p s, ∀ i x, ix l i = some y → ix v i = some x → 0 ≤ x ∧ x ≤ n) ∧ (n = 0 ∨ ∃ y ∈ nxS t p s, ∃ i, ix l i = some y ∧ ix v i = some n))) := by
  have ho := live_op hp hl
  have hset := ((hv.mem s).1 hs).set ht
  obtain ⟨st, w, r1, _, r3, _⟩ := oResults_eq ht ho.1.1 ho.1.2 hset
  have hlen := hv.len ht hp
  unfold strong_worst
  rw [r1]
  simp only [Option.bind_some]
  have hst : ∀ y, y ∈ st ↔ y ∈ nxS t p s := fun y => by rw [r3, nxS, List.mem_map]
  rcases rngX_inv (body := strong_worst_l1 l v (st, w)) (n := (st.length : Int)) (s := 0) (fun j n => 0 ≤ n ∧ (∀ k y i x, k < j → ix st k = some y → ix l i = some y → ix v i = some x → 0 ≤ x ∧ x ≤ n) ∧ (n = 0 ∨ ∃ y ∈ nxS t p s, ∃ i, ix l i = some y ∧ ix v i = some n)) (fun o => o = -1 ∧ ∃ y ∈ nxS t p s, ∃ i, ix l i = some y ∧ ix v i = some (-1)) (by omega) ⟨Int.le_refl _, fun k y i x hk h => by have := (ix_lo h).1; omega, .inl rfl⟩ (fun j n j0 j1 ⟨a1, a2, a3⟩ => by
    obtain ⟨y, hy, _⟩ := ix_of (l := st) j0 j1
    have hyn := (hst y).1 (ix_mem hy)
    obtain ⟨i, i0, i1, hi⟩ := mem_ix (hv.closed s hs hg hl y hyn)
    obtain ⟨x, hx, _⟩ := ix_of (l := v) i0 (by omega)
    unfold strong_worst_l1
    dsimp only
    rw [hy]
    simp only [Option.bind_some, find_eq hv.ord (show l.length ≤ 500000 by omega) hi, hx]
    by_cases c : x < 0
    · rw [if_pos c]
      have : x = -1 := by have := hvm x (ix_mem hx); omega
      subst this
      exact .inr ⟨_, rfl, rfl, y, hyn, i, hi, hx⟩
    · rw [if_neg c]
      refine .inl ⟨_, rfl, by omega, fun k z i' x' hk hz hi' hx' => ?_, ?_⟩
      · by_cases ek : k = j
        · subst ek
          rw [hy] at hz; cases hz
          have := hv.ord.inj hi hi'
          subst this
          rw [hx] at hx'; cases hx'
          omega
        · have := a2 k z i' x' (by omega) hz hi' hx'
          omega
      · by_cases cm : n ≤ x
        · rw [Int.max_eq_right cm]
          exact .inr ⟨y, hyn, i, hi, hx⟩
        · rw [Int.max_eq_left (by omega)]
          exact a3) with ⟨n, e1, e2, e3, e4⟩ | ⟨o, e1, rfl, e2⟩
  · rw [e1]
    refine ⟨n, rfl, .inr ⟨e2, fun y hy i x hi hx => ?_, e4⟩⟩
    obtain ⟨k, _, k1, hk⟩ := mem_ix ((hst y).2 hy)
    exact e3 k y i x k1 hk hi hx
  · rw [e1]
    exact ⟨-1, rfl, .inl ⟨rfl, e2⟩⟩
/-- Values that are known are the exact ones. -/
structure ValOk (t : TOpenTask) (p : List TChoice) (l : List (List Int)) (v : List Int) : Prop where
  len : v.length = l.length
  val : ∀ i s x, ix l i = some s → ix v i = some x → x = -1 ∨ ∃ k : Nat, x = k ∧ HtS t p k s
  goal : ∀ i s x, ix l i = some s → ix v i = some x → GoalS t s → x = 0
theorem ValOk.m1 {t : TOpenTask} {p : List TChoice} {l : List (List Int)} {v : List Int} (h : ValOk t p l v) : ∀ x ∈ v, -1 ≤ x := fun x hx => by
  obtain ⟨i, i0, i1, hi⟩ := mem_ix hx
  obtain ⟨s, hs, _⟩ := ix_of (l := l) i0 (by have := h.len; omega)
  rcases h.val i s x hs hi with e | ⟨k, e, _⟩ <;> omega
theorem set_ix {v : List Int} {j : Int} {y : Int} (h0 : 0 ≤ j) (h1 : j < v.length) {i : Int} {x : Int} (h : ix (v.set j.toNat y) i = some x) : (i = j ∧ x = y) ∨ (i ≠ j ∧ ix v i = some x) := by
  rw [ix_put h0 h1 (ix_lo h).1] at h
  by_cases e : i = j
  · rw [if_pos e] at h; cases h; exact .inl ⟨e, rfl⟩
  · rw [if_neg e] at h; exact .inr ⟨e, h⟩
/-- What is known stays. -/
def Stays (v v' : List Int) : Prop := ∀ i x, ix v i = some x → x ≠ -1 → ix v' i = some x
/-- One state: its value, if those after it are known. -/
theorem check3 {t : TOpenTask} (ht : OTaskOk t) {p : List TChoice} (hp : PolOk t p) {l : List (List Int)} (hv : Vis t p l) {j : Int} {s : List Int} (hs : ix l j = some s) {v : List Int} (h : ValOk t p l v) :
    ∃ v', strong_Check_l3 t p l j v = some v' ∧ ValOk t p l v' ∧ Stays v v' ∧ (¬ GoalS t s → LiveS p s → (∀ y ∈ nxS t p s, ∀ i, ix l i = some y → ix v i ≠ some (-1)) → ix v' j ≠ some (-1)) := by
  obtain ⟨j0, j1, _⟩ := ix_lo hs
  have hlen := hv.len ht hp
  have hvl := h.len
  obtain ⟨x, hx, _⟩ := ix_of (l := v) j0 (by omega)
  unfold strong_Check_l3
  rw [hs]
  simp only [Option.bind_some, (chosen_chO hp s).1, hx]
  by_cases c : 0 ≤ x ∨ chO p s < 0
  · rw [if_pos (by rw [Bool.or_eq_true, decide_eq_true_eq, decide_eq_true_eq]; exact c)]
    refine ⟨v, rfl, h, fun i x h _ => h, fun _ hl _ he => ?_⟩
    unfold LiveS at hl
    rw [hx] at he
    have := Option.some.inj he
    omega
  · rw [if_neg (by rw [Bool.or_eq_true, decide_eq_true_eq, decide_eq_true_eq]; exact c)]
    have hl : LiveS p s := by unfold LiveS; omega
    have hx1 : x = -1 := by have := h.m1 x (ix_mem hx); omega
    subst hx1
    have hg : ¬ GoalS t s := fun hg => by have := h.goal j s _ hs hx hg; omega
    obtain ⟨n, w1, w2⟩ := worst_eq ht hp hv (ix_mem hs) hg hl hvl h.m1
    rw [w1]
    simp only [Option.bind_some]
    rcases w2 with ⟨rfl, y, hy, i, hi, hvi⟩ | ⟨n0, w3, w4⟩
    · rw [if_neg (by decide)]
      exact ⟨v, rfl, h, fun i x h _ => h, fun _ _ hall => absurd hvi (hall y hy i hi)⟩
    · rw [if_pos n0]
      have ex : ∀ y ∈ nxS t p s, ∃ i x, ix l i = some y ∧ ix v i = some x ∧ ∃ k : Nat, x = k ∧ k ≤ n.toNat ∧ HtS t p k y := fun y hy => by
        obtain ⟨i, i0, i1, hi⟩ := mem_ix (hv.closed s (ix_mem hs) hg hl y hy)
        obtain ⟨x, hx, _⟩ := ix_of (l := v) i0 (by omega)
        have b := w3 y hy i x hi hx
        rcases h.val i y x hi hx with e | ⟨k, e, hk⟩
        · omega
        · exact ⟨i, x, hi, hx, k, e, by omega, hk⟩
      have top : ∃ y ∈ nxS t p s, HtS t p n.toNat y := by
        rcases w4 with rfl | ⟨y, hy, i, hi, hvi⟩
        · obtain ⟨y, hy⟩ := List.exists_mem_of_ne_nil _ (nx_ne ht hp s hl)
          obtain ⟨_, _, _, _, k, _, k1, hk⟩ := ex y hy
          have : k = 0 := by simpa using k1
          subst this
          exact ⟨y, hy, hk⟩
        · obtain ⟨i', x, hi', hx', k, e, k1, hk⟩ := ex y hy
          have := hv.ord.inj hi hi'
          subst this
          rw [hvi] at hx'; cases hx'
          have : k = n.toNat := by omega
          exact ⟨y, hy, this ▸ hk⟩
      have hts : HtS t p (n.toNat + 1) s := Ht.of_succ hg hl (fun y hy => by
        obtain ⟨_, _, _, _, k, _, k1, hk⟩ := ex y hy
        exact ⟨k, k1, hk⟩) top
      have hb := hv.lt ht hp hts (ix_mem hs)
      rw [w64_of (by omega) (by omega)]
      have hj : j < (v.length : Int) := by omega
      refine ⟨_, rfl, ⟨by rw [List.length_set]; exact hvl, fun i z x hz hx' => ?_, fun i z x hz hx' hgz => ?_⟩, fun i x hxi hne => ?_, fun _ _ _ he => ?_⟩
      · rcases set_ix j0 hj hx' with ⟨rfl, rfl⟩ | ⟨_, hx'⟩
        · rw [hs] at hz; cases hz
          exact .inr ⟨n.toNat + 1, by omega, hts⟩
        · exact h.val i z x hz hx'
      · rcases set_ix j0 hj hx' with ⟨rfl, rfl⟩ | ⟨_, hx'⟩
        · rw [hs] at hz; cases hz
          exact absurd hgz hg
        · exact h.goal i z x hz hx' hgz
      · rw [ix_put j0 hj (ix_lo hxi).1, if_neg]
        · exact hxi
        · rintro rfl; rw [hx] at hxi; cases hxi; exact hne rfl
      · rcases set_ix j0 hj he with ⟨_, e⟩ | ⟨e, _⟩
        · omega
        · exact e rfl
/-- All that are over within r steps are known. -/
def KnownS (t : TOpenTask) (p : List TChoice) (l : List (List Int)) (r : Nat) (v : List Int) : Prop := ∀ i s k, ix l i = some s → HtS t p k s → k ≤ r → ix v i ≠ some (-1)
theorem Stays.known {v v' : List Int} (h : Stays v v') (hl : v'.length = v.length) {i : Int} (hn : ix v i ≠ some (-1)) : ix v' i ≠ some (-1) := fun he => by
  obtain ⟨i0, i1, _⟩ := ix_lo he
  obtain ⟨x, hx, _⟩ := ix_of (l := v) i0 (by omega)
  have hne : x ≠ -1 := fun e => hn (e ▸ hx)
  rw [h i x hx hne] at he
  exact hne (Option.some.inj he)
theorem check2 {t : TOpenTask} (ht : OTaskOk t) {p : List TChoice} (hp : PolOk t p) {l : List (List Int)} (hv : Vis t p l) {v : List Int} (h : ValOk t p l v) {r : Nat} (hr : KnownS t p l r v) (j : Int) : ∃ v', strong_Check_l2 t p l j v = some v' ∧ ValOk t p l v' ∧ KnownS t p l (r + 1) v' := by
  unfold strong_Check_l2
  obtain ⟨v', h1, h2, h3, h4⟩ := forR_inv (body := strong_Check_l3 t p l) (n := (l.length : Int)) (s := v) (fun j v' => ValOk t p l v' ∧ Stays v v' ∧ ∀ i s k, i < j → ix l i = some s → HtS t p k s → k ≤ r + 1 → ix v' i ≠ some (-1)) (by omega) ⟨h, fun i x h _ => h, fun i s k hi h => by have := (ix_lo h).1; omega⟩ (fun j v1 j0 j1 ⟨a1, a2, a3⟩ => by
    obtain ⟨s, hs, _⟩ := ix_of (l := l) j0 j1
    obtain ⟨v2, b1, b2, b3, b4⟩ := check3 ht hp hv hs a1
    have st : Stays v v2 := fun i x hx hne => b3 i x (a2 i x hx hne) hne
    refine ⟨v2, b1, b2, st, fun i z k hi hz hk hkr => ?_⟩
    by_cases e : i = j
    · subst e
      rw [hs] at hz; cases hz
      by_cases hg : GoalS t s
      · intro he
        have := b2.goal i s _ hs he hg
        omega
      · obtain ⟨m, rfl, hl, hy, _⟩ := hk.step hg (nx_ne ht hp)
        refine b4 hg hl fun y hyn i' hi' => ?_
        obtain ⟨k', hk', hk2⟩ := hy y hyn
        exact a2.known (by rw [a1.len, h.len]) (hr i' y k' hi' hk2 (by omega))
    · exact b3.known (by rw [b2.len, a1.len]) (a3 i z k (by omega) hz hk hkr))
  rw [h1]
  exact ⟨v', rfl, h2, fun i s k hi hk hkr => h4 i s k (ix_lo hi).2.1 hi hk hkr⟩
theorem contains1_eq {l : List Int} {s : Int} : slices_Contains_int_int l s = some (dec (s ∈ l)) := by
  unfold slices_Contains_int_int slices_Index_int_int
  rcases rngX_test (body := slices_Index_int_int_l1 l s) (n := (l.length : Int)) (fun j => if dec (ix l j = some s) = true then some j else none) (by omega) (fun j h0 h1 _ => by
    obtain ⟨x, hx, _⟩ := ix_of (l := l) h0 h1
    unfold slices_Index_int_int_l1
    rw [hx]
    simp only [Option.bind_some]
    by_cases e : s = x
    · rw [if_pos e, ifP (by rw [e])]
    · rw [if_neg e, ifN (by simpa using fun h => e h.symm)]) with ⟨h1, h2⟩ | ⟨j, o, h0, h1, h2, h3, h4⟩
  · rw [h1]
    simp only [Option.bind_some]
    rw [dec_no]
    · rfl
    · intro hs
      obtain ⟨i, i0, i1, hi⟩ := mem_ix hs
      have := h2 i i0 i1
      rw [ifP hi] at this
      cases this
  · rw [h4]
    split at h2
    · rename_i e
      cases h2
      simp only [Option.bind_some]
      rw [dec_of (ix_mem (dec_true.1 e)), decide_eq_true h0]
    · cases h2
theorem check1 {t : TOpenTask} (ht : OTaskOk t) {p : List TChoice} {l : List (List Int)} (hv : Vis t p l) : ∃ v, forR 0 (l.length : Int) (strong_Check_l1 t l) (List.replicate l.length 0) = some v ∧ ValOk t p l v ∧ KnownS t p l 0 v := by
  have hn := ht.n1
  obtain ⟨v, h1, h2, h3⟩ := forR_inv (body := strong_Check_l1 t l) (n := (l.length : Int)) (s := List.replicate l.length 0) (fun j v => v.length = l.length ∧ ∀ i s x, ix l i = some s → ix v i = some x → (i < j → ¬ GoalS t s → x = -1) ∧ ((i < j → GoalS t s) → x = 0)) (by omega) ⟨by simp, fun i s x hi hx => by
    refine ⟨fun h => by have := (ix_lo hi).1; omega, fun _ => ?_⟩
    have := ix_mem hx
    exact List.eq_of_mem_replicate this⟩ (fun j v j0 j1 ⟨a1, a2⟩ => by
    obtain ⟨s, hs, _⟩ := ix_of (l := l) j0 j1
    have hset := ((hv.mem s).1 (ix_mem hs)).set ht
    have hsl := hset.len
    obtain ⟨x, hx, _⟩ := ix_of (l := v) j0 (by omega)
    unfold strong_Check_l1
    rw [hs]
    simp only [Option.bind_some, contains_eq hset.1 ht.goal.1 (show s.length ≤ 1000000 by omega), dec_not, hx]
    by_cases hg : GoalS t s
    · rw [ifNN (p := ∀ x ∈ t.goal, x ∈ s) hg]
      refine ⟨v, rfl, a1, fun i z y hz hy => ?_⟩
      obtain ⟨b1, b2⟩ := a2 i z y hz hy
      by_cases e : i = j
      · subst e
        rw [hs] at hz; cases hz
        exact ⟨fun _ h => absurd hg h, fun _ => b2 fun h => by omega⟩
      · exact ⟨fun h => b1 (by omega), fun h => b2 fun h' => h (by omega)⟩
    · rw [ifP (p := ¬ ∀ x ∈ t.goal, x ∈ s) hg]
      refine ⟨_, rfl, by rw [List.length_set]; exact a1, fun i z y hz hy => ?_⟩
      rcases set_ix j0 (by omega) hy with ⟨rfl, rfl⟩ | ⟨e, hy⟩
      · rw [hs] at hz; cases hz
        exact ⟨fun _ _ => rfl, fun h => absurd (h (by omega)) hg⟩
      · obtain ⟨b1, b2⟩ := a2 i z y hz hy
        exact ⟨fun h => b1 (by omega), fun h => b2 fun h' => h (by omega)⟩)
  refine ⟨v, h1, ⟨h2, fun i s x hi hx => ?_, fun i s x hi hx hg => (h3 i s x hi hx).2 fun _ => hg⟩, fun i s k hi hk hk0 he => ?_⟩
  · obtain ⟨b1, b2⟩ := h3 i s x hi hx
    by_cases hg : GoalS t s
    · exact .inr ⟨0, by rw [b2 fun _ => hg]; rfl, .zero hg⟩
    · exact .inl (b1 (ix_lo hi).2.1 hg)
  · have : k = 0 := by omega
    subst this
    have hg : GoalS t s := hk.1
    have := (h3 i s _ hi he).2 fun _ => hg
    omega
/-- What Check answers, for a policy in order. -/
theorem check_eq {t : TOpenTask} (ht : OTaskOk t) {p : List TChoice} (hp : PolOk t p) : ∃ l, Vis t p l ∧ ((∃ k : Nat, (∀ s ∈ l, ∃ k, HtS t p k s) ∧ HtS t p k t.init ∧ strong_Check t p = some ((k : Int), true, ⟨0, 0⟩)) ∨ ((∃ s ∈ l, ∀ k, ¬ HtS t p k s) ∧ strong_Check t p = some (0, false, ⟨0, 0⟩))) := by
  obtain ⟨l, g1, hv⟩ := oVisited_eq ht hp
  refine ⟨l, hv, ?_⟩
  have hlen := hv.len ht hp
  obtain ⟨f, f1, _, f3⟩ := policy_eq t p
  have hf : f = ⟨0, 0⟩ := by
    rcases f3 with ⟨rfl, _⟩ | ⟨_, h⟩
    · rfl
    · exact absurd ⟨ht, hp⟩ h
  subst hf
  obtain ⟨v0, c1, c2, c3⟩ := check1 ht (p := p) hv
  obtain ⟨v, d1, d2, d3⟩ := forR_inv (body := strong_Check_l2 t p l) (n := (l.length : Int)) (s := v0) (fun j v => ValOk t p l v ∧ KnownS t p l j.toNat v) (by omega) ⟨c2, c3⟩ (fun j v j0 j1 ⟨a1, a2⟩ => by
    obtain ⟨v', b1, b2, b3⟩ := check2 ht hp hv a1 a2 j
    exact ⟨v', b1, b2, by rwa [show (j + 1).toNat = j.toNat + 1 by omega]⟩)
  unfold strong_Check
  rw [f1]
  simp only [Option.bind_some]
  rw [if_neg (by simp), g1]
  simp only [Option.bind_some]
  rw [show mkL 8 (l.length : Int) (0 : Int) = some (List.replicate l.length 0) by rw [mkL, if_pos (by omega)]; simp]
  simp only [Option.bind_some, c1, d1, contains1_eq]
  by_cases c : (-1 : Int) ∈ v
  · right
    rw [ifP c]
    refine ⟨?_, rfl⟩
    obtain ⟨i, i0, i1, hi⟩ := mem_ix c
    obtain ⟨s, hs, _⟩ := ix_of (l := l) i0 (by have := d2.len; omega)
    refine ⟨s, ix_mem hs, fun k hk => ?_⟩
    have := hv.lt ht hp hk (ix_mem hs)
    exact d3 i s k hs hk (by omega) hi
  · left
    rw [ifN c]
    have all : ∀ i s x, ix l i = some s → ix v i = some x → ∃ k : Nat, x = k ∧ HtS t p k s := fun i s x hi hx => by
      rcases d2.val i s x hi hx with e | e
      · exact absurd (e ▸ ix_mem hx) c
      · exact e
    have hinit : t.init ∈ l := (hv.mem _).2 .init
    obtain ⟨i, i0, i1, hi⟩ := mem_ix hinit
    obtain ⟨x, hx, _⟩ := ix_of (l := v) i0 (by have := d2.len; omega)
    obtain ⟨k, rfl, hk⟩ := all i _ x hi hx
    refine ⟨k, fun s hs => ?_, hk, ?_⟩
    · obtain ⟨i, i0, i1, hi⟩ := mem_ix hs
      obtain ⟨x, hx, _⟩ := ix_of (l := v) i0 (by have := d2.len; omega)
      obtain ⟨k, _, hk⟩ := all i s x hi hx
      exact ⟨k, hk⟩
    · rw [find_eq hv.ord (by omega) hi]
      simp only [Option.bind_some, hx]
end Ab
end
section
namespace Ab
open Go
def sureX : TOutcome := ⟨[0], [], 1⟩
def sureO : TOpenOperator := ⟨[], [sureX], 1⟩
def sureT : TOpenTask := ⟨1, [], [0], [sureO]⟩
theorem sure_ok : OTaskOk sureT where
  n0 := by decide
  n1 := by decide
  init := setN_nil _
  goal := setN1 0 (by decide) (by decide)
  ops := by decide
  op o ho := by
    simp only [sureT, List.mem_singleton] at ho
    subst ho
    refine ⟨setN_nil _, by decide, by decide, by decide, by decide, fun x hx => ?_⟩
    simp only [sureO, List.mem_singleton] at hx
    subst hx
    exact ⟨⟨setN1 0 (by decide) (by decide), setN_nil _, by simp [sureX]⟩, by decide, by decide⟩
theorem sureOo : ooAt sureT 0 = sureO := rfl
theorem set01 : SetN [0] 1 := setN1 0 (by decide) (by decide)
theorem sure_x {s : List Int} (hs : SetN s 1) : efc 1 s sureX = [0] := by
  refine (set01.eq_of (p := fun p => p ∈ sureX.add ∨ p ∈ s ∧ p ∉ sureX.del) fun x h0 h1 => ?_).symm
  simp only [sureX, List.mem_singleton]
  exact ⟨.inl, fun h => by omega⟩
theorem sure_res {s : List Int} (hs : SetN s 1) : ∃ w, open_Results sureT s 0 = some ([[0]], w) := by
  obtain ⟨st, w, r1, r2, r3, _⟩ := oResults_eq sure_ok (op := 0) (by decide) (by decide) (s := s) hs
  refine ⟨w, ?_⟩
  rw [r1]
  have : st = [[0]] := Ord.ext r2 (by simp) fun y => by
    rw [r3, sureOo]
    simp only [sureO, List.mem_singleton, exists_eq_left]
    rw [show sureT.facts = 1 from rfl, sure_x hs]
    exact ⟨Eq.symm, Eq.symm⟩
  rw [this]
theorem sure_can {s : List Int} (hs : SetN s 1) : open_Can sureT s 0 = some true := by
  rw [oCan_eq sure_ok (by decide) (by decide) hs, dec_of]
  intro x hx
  cases hx
theorem one_rng {S O : Type} {body : Int → S → Option (S ⊕ O)} {s : S} {x : S ⊕ O} (h : body 0 s = some x) : rngX 0 1 body s = some x := by
  unfold rngX
  rw [show ((1 : Int) - 0).toNat = 1 from rfl]
  simp only [rngN, h]
  cases x <;> rfl
theorem sure_reach : open_Reach sureT = some ([[], [0]], true) := by
  have h0 : SetN [] 1 := setN_nil _
  have k0 := key1_eq (s := []) (h0.small (by decide)) (by decide)
  have k1 := key1_eq (s := [0]) (set01.small (by decide)) (by decide)
  have hk : keyK [[0]] ≠ keyK [[]] := fun e => by have := SetN.key_inj (by decide) set01 h0 e; cases this
  obtain ⟨w0, r0⟩ := sure_res h0
  obtain ⟨w1, r1⟩ := sure_res set01
  have s1 : open_Reach_l1 sureT ([[]], mset ([] : List (ByteArray × Int)) (keyK [[]]) 1, 0) = some (.inl ([[], [0]], mset (mset ([] : List (ByteArray × Int)) (keyK [[]]) 1) (keyK [[0]]) 1, 1)) := by
    unfold open_Reach_l1
    dsimp only
    rw [if_pos (by decide)]
    rw [show (sureT.operators.length : Int) = 1 from rfl, one_rng (x := .inl ([[], [0]], mset (mset ([] : List (ByteArray × Int)) (keyK [[]]) 1) (keyK [[0]]) 1))]
    · rfl
    · unfold open_Reach_l2
      dsimp only
      rw [show ix [([] : List Int)] 0 = some [] from rfl]
      simp only [Option.bind_some, sure_can h0, r0, Bool.not_true, Bool.false_eq_true, if_false]
      rw [show ((([[0]] : List (List Int)).length : Nat) : Int) = 1 from rfl, one_rng (x := .inl ([[], [0]], mset (mset ([] : List (ByteArray × Int)) (keyK [[]]) 1) (keyK [[0]]) 1))]
      · rfl
      · unfold open_Reach_l4
        dsimp only
        rw [show ix [([0] : List Int)] 0 = some [0] from rfl]
        simp only [Option.bind_some, k1]
        rw [mget_mset, if_neg hk]
        simp [mget, app, open_Reach_j5]
  have s2 : open_Reach_l1 sureT ([[], [0]], mset (mset ([] : List (ByteArray × Int)) (keyK [[]]) 1) (keyK [[0]]) 1, 1) = some (.inl ([[], [0]], mset (mset ([] : List (ByteArray × Int)) (keyK [[]]) 1) (keyK [[0]]) 1, 2)) := by
    unfold open_Reach_l1
    dsimp only
    rw [if_pos (by decide)]
    rw [show (sureT.operators.length : Int) = 1 from rfl, one_rng (x := .inl ([[], [0]], mset (mset ([] : List (ByteArray × Int)) (keyK [[]]) 1) (keyK [[0]]) 1))]
    · rfl
    · unfold open_Reach_l2
      dsimp only
      rw [show ix [([] : List Int), [0]] 1 = some [0] from rfl]
      simp only [Option.bind_some, sure_can set01, r1, Bool.not_true, Bool.false_eq_true, if_false]
      rw [show ((([[0]] : List (List Int)).length : Nat) : Int) = 1 from rfl, one_rng (x := .inl ([[], [0]], mset (mset ([] : List (ByteArray × Int)) (keyK [[]]) 1) (keyK [[0]]) 1))]
      · rfl
      · unfold open_Reach_l4
        dsimp only
        rw [show ix [([0] : List Int)] 0 = some [0] from rfl]
        simp only [Option.bind_some, k1]
        rw [mget_mset, if_pos rfl]
        simp [open_Reach_j5]
  have s3 : open_Reach_l1 sureT ([[], [0]], mset (mset ([] : List (ByteArray × Int)) (keyK [[]]) 1) (keyK [[0]]) 1, 2) = some (.inr (.inl [[], [0]])) := by
    unfold open_Reach_l1
    dsimp only
    rw [if_neg (by decide)]
  unfold open_Reach
  rw [show sureT.init = [] from rfl, clone_eq (by decide)]
  simp only [Option.bind_some, k0]
  rw [Loop_eq, s1]
  dsimp only
  rw [Loop_eq, s2]
  dsimp only
  rw [Loop_eq, s3]
  simp only [Option.bind_some]
  obtain ⟨r, n1, n2, n3, _⟩ := normal_eq (l := [[], [0]]) (by decide)
  rw [n1, show r = [[], [0]] from Ord.ext n2 (by simp [llt]) n3]
  rfl
theorem sure_bs {l : List (List Int)} (h : l = [[], [0]]) : open_Find l [] = some 0 ∧ open_Find l [0] = some 1 := by
  subst h
  exact ⟨find_eq (by simp [llt]) (by decide) rfl, find_eq (by simp [llt]) (by decide) rfl⟩
theorem one_for {S : Type} {body : Int → S → Option S} {s s1 : S} (h : body 0 s = some s1) : forR 0 1 body s = some s1 := by
  unfold forR
  rw [show ((1 : Int) - 0).toNat = 1 from rfl]
  simp only [forN, h]
theorem two_for {S : Type} {body : Int → S → Option S} {s s1 s2 : S} (h : body 0 s = some s1) (h2 : body 1 s1 = some s2) : forR 0 2 body s = some s2 := by
  unfold forR
  rw [show ((2 : Int) - 0).toNat = 2 from rfl]
  simp only [forN, h]
  rw [show (0 : Int) + 1 = 1 from rfl, h2]
abbrev sureA : List (List Int) := [[], [0]]
theorem sure_c0 : strips_Contains [] sureT.goal = some false := by
  rw [show sureT.goal = [0] from rfl, contains_eq .nil set01.1 (by decide), dec_no]
  intro h; have := h 0 (by simp); cases this
theorem sure_c1 : strips_Contains [0] sureT.goal = some true := by
  rw [show sureT.goal = [0] from rfl, contains_eq set01.1 set01.1 (by decide), dec_of]
  intro x hx; exact hx
theorem sure_best {rank : List Int} (h : ix rank 1 = some 0) : strong_best sureT sureA rank [] = some 0 := by
  obtain ⟨w0, r0⟩ := sure_res (s := []) (setN_nil _)
  have hw : strong_worst sureT sureA rank [] 0 = some 0 := by
    unfold strong_worst
    rw [r0]
    simp only [Option.bind_some]
    rw [show ((([[0]] : List (List Int)).length : Nat) : Int) = 1 from rfl, one_rng (x := .inl 0)]
    · rfl
    · unfold strong_worst_l1
      dsimp only
      rw [show ix [([0] : List Int)] 0 = some [0] from rfl]
      simp only [Option.bind_some, (sure_bs rfl).2, h]
      rfl
  unfold strong_best
  rw [show (sureT.operators.length : Int) = 1 from rfl, one_for (s1 := (0, 0))]
  · rfl
  · unfold strong_best_l1
    dsimp only
    rw [sure_can (setN_nil _)]
    simp [hw]
theorem sure_ranks : strong_ranks sureT sureA = some [1, 0] := by
  have l0 : strong_ranks_l2 sureT sureA ([-1, 0], 1) = some (.inl ([1, 0], 2)) := by
    unfold strong_ranks_l2
    dsimp only
    rw [show (sureA.length : Int) = 2 from rfl, two_for (s1 := [0]) (s2 := [0])]
    · simp only [Option.bind_some]
      rw [if_neg (by decide), show (([0] : List Int).length : Int) = 1 from rfl, one_for (s1 := [1, 0])]
      · rfl
      · rfl
    · unfold strong_ranks_l3
      rw [show ix sureA 0 = some [] from rfl, show ix ([-1, 0] : List Int) 0 = some (-1) from rfl]
      simp only [Option.bind_some]
      rw [if_pos (by decide), sure_best rfl]
      rfl
    · rfl
  have l1 : strong_ranks_l2 sureT sureA ([1, 0], 2) = some (.inr [1, 0]) := by
    unfold strong_ranks_l2
    dsimp only
    rw [show (sureA.length : Int) = 2 from rfl, two_for (s1 := []) (s2 := [])]
    · rfl
    · rfl
    · rfl
  unfold strong_ranks
  rw [show slices_Repeat_int_int [-1] (sureA.length : Int) = some [-1, -1] from rfl]
  simp only [Option.bind_some]
  rw [show (sureA.length : Int) = 2 from rfl, two_for (s1 := [-1, -1]) (s2 := [-1, 0])]
  · simp only [Option.bind_some]
    rw [Loop_eq, l0]
    dsimp only
    rw [Loop_eq, l1]
    rfl
  · unfold strong_ranks_l1
    rw [show ix sureA 0 = some [] from rfl]
    simp only [Option.bind_some, sure_c0]
    rfl
  · unfold strong_ranks_l1
    rw [show ix sureA 1 = some [0] from rfl]
    simp only [Option.bind_some, sure_c1]
    rfl
theorem polNil : PolOk sureT [] := ⟨by decide, .nil, by simp, by simp, by simp⟩
theorem chosen_nil (s : List Int) : open_Chosen [] s = some (-1) := by
  obtain ⟨h1, h2⟩ := chosen_chO polNil s
  rw [h1]
  rcases h2 with h | ⟨h, _⟩
  · rw [h]
  · obtain ⟨c, hc, _⟩ := chO_mem h
    cases hc
abbrev sureP : List TChoice := [⟨[], 0⟩]
theorem sure_build : strong_Build sureT (fun y1 => strong_Policy_1 y1 sureT sureA [1, 0]) = some (sureP, true) := by
  obtain ⟨w0, r0⟩ := sure_res (s := []) (setN_nil _)
  have b0 : strong_Build_l1 sureT (fun y1 => strong_Policy_1 y1 sureT sureA [1, 0]) ([[]], [], 0) = some (.inl ([[], [0]], sureP, 1)) := by
    unfold strong_Build_l1
    dsimp only
    rw [if_pos (by decide), show ix [([] : List Int)] 0 = some [] from rfl]
    simp only [Option.bind_some, sure_c0, chosen_nil]
    rw [if_neg (by decide)]
    simp only [Option.bind_some]
    rw [if_neg (by decide), if_neg (by decide)]
    have hc : strong_Policy_1 [] sureT sureA [1, 0] = some 0 := by
      unfold strong_Policy_1
      rw [sure_best rfl]; rfl
    have hb : slices_BinarySearchFunc_api_Choice_api_Choice_int [] [] strong_Build_1 = some (0, false) := by
      rw [show slices_BinarySearchFunc_api_Choice_api_Choice_int [] [] strong_Build_1 = bsf [] [] strong_Build_1 from rfl]
      unfold bsf
      rw [Loop_eq]
      simp [bsl]
    rw [hc]
    simp only [Option.bind_some, hb, clone_eq (s := []) (by decide)]
    rw [show insL ([] : List TChoice) 0 ⟨[], 0⟩ = some sureP from rfl]
    simp only [Option.bind_some, r0]
    rfl
  have b1 : strong_Build_l1 sureT (fun y1 => strong_Policy_1 y1 sureT sureA [1, 0]) ([[], [0]], sureP, 1) = some (.inl ([[], [0]], sureP, 2)) := by
    unfold strong_Build_l1
    dsimp only
    rw [if_pos (by decide), show ix [([] : List Int), [0]] 1 = some [0] from rfl]
    simp only [Option.bind_some, sure_c1]
    rfl
  have b2 : strong_Build_l1 sureT (fun y1 => strong_Policy_1 y1 sureT sureA [1, 0]) ([[], [0]], sureP, 2) = some (.inr (.inl sureP)) := by
    unfold strong_Build_l1
    dsimp only
    rw [if_neg (by decide)]
  unfold strong_Build
  rw [show sureT.init = [] from rfl, Loop_eq, b0]
  dsimp only
  rw [Loop_eq, b1]
  dsimp only
  rw [Loop_eq, b2]
  rfl
theorem sure_policy : strong_Policy sureT = some (sureP, true, ⟨0, 0⟩) := by
  unfold strong_Policy
  rw [explore_ok sure_ok, sure_reach]
  simp only [Option.bind_some, if_true]
  rw [if_neg (by simp), sure_ranks]
  simp only [Option.bind_some]
  rw [show sureT.init = [] from rfl, (sure_bs rfl).1]
  simp only [Option.bind_some]
  rw [show ix ([1, 0] : List Int) 0 = some 1 from rfl]
  simp only [Option.bind_some]
  rw [if_neg (by decide), sure_build]
  rfl
theorem sure_pol : PolOk sureT sureP := ⟨by decide, by simp, fun c hc => by
    simp only [List.mem_singleton] at hc
    subst hc
    exact setN_nil _, fun c hc => by
    simp only [List.mem_singleton] at hc
    subst hc
    exact ⟨by decide, by decide⟩, fun c hc x hx => by
    simp only [List.mem_singleton] at hc
    subst hc
    cases hx⟩
theorem sure_ch : chO sureP [] = 0 := by
  obtain ⟨r, h1, h2⟩ := rChosen_eq sureP []
  have e : chO sureP [] = r := by rw [chO, h1]; rfl
  rw [e]
  rcases h2 with ⟨_, h⟩ | ⟨c, hc, _, h⟩
  · exact absurd rfl (h _ (List.mem_singleton.2 rfl))
  · rw [h, List.mem_singleton.1 hc]
theorem sure_nx {y : List Int} : y ∈ nxS sureT sureP [] ↔ y = [0] := by
  unfold nxS
  rw [sure_ch, sureOo]
  simp only [sureO, List.map_cons, List.map_nil, List.mem_singleton]
  rw [show sureT.facts = 1 from rfl, sure_x (setN_nil _)]
theorem sure_g1 : GoalS sureT [0] := fun x hx => hx
theorem sure_g0 : ¬ GoalS sureT [] := fun h => by have := h 0 (by simp [sureT]); cases this
theorem sure_ht : HtS sureT sureP 1 [] := Ht.of_succ (m := 0) sure_g0 (by unfold LiveS; rw [sure_ch]; exact Int.le_refl _) (fun y hy => ⟨0, Nat.le_refl _, .zero (sure_nx.1 hy ▸ sure_g1)⟩) ⟨[0], sure_nx.2 rfl, .zero sure_g1⟩
theorem sure_rch {s : List Int} (h : Rch sureT sureP s) : s = [] ∨ s = [0] := by
  induction h with
  | init => exact .inl rfl
  | step _ hg _ hy ih =>
    rcases ih with rfl | rfl
    · exact .inr (sure_nx.1 hy)
    · exact absurd sure_g1 hg
theorem sure_check : strong_Check sureT sureP = some (1, true, ⟨0, 0⟩) := by
  obtain ⟨l, hv, h⟩ := check_eq sure_ok sure_pol
  rcases h with ⟨k, _, h1, h2⟩ | ⟨⟨s, hs, h1⟩, _⟩
  · have : k = 1 := Ht.unique h1 sure_ht
    subst this
    exact h2
  · rcases sure_rch ((hv.mem s).1 hs) with rfl | rfl
    · exact absurd sure_ht (h1 1)
    · exact absurd (.zero sure_g1) (h1 0)
theorem choices_self (p : List TChoice) : ref8_Choices p p = some true := by
  unfold ref8_Choices
  rw [if_pos rfl, rngX_all (by omega) fun j j0 j1 => by
    obtain ⟨c, hc, _⟩ := ix_of (l := p) j0 j1
    unfold ref8_Choices_l1
    rw [hc]
    simp only [Option.bind_some, decide_true, Bool.not_true, Bool.false_eq_true, if_false, ints_eq, dec_of]]
  rfl
theorem always_eq : law8_always = some true := by
  unfold law8_always
  rw [show law8_sure = some sureT from rfl]
  simp only [Option.bind_some, sure_policy, sure_check, if_true, choices_self]
end Ab
end
section
namespace Ab
open Go
theorem check_bad {t : TOpenTask} {p : List TChoice} {f : TFault} (hv : open_ValidatePolicy t p = some f) (hc : f.code ≠ 0) : strong_Check t p = some (0, false, f) := by
  unfold strong_Check
  rw [hv]
  simp only [Option.bind_some]
  rw [if_pos (fault_no hc)]
end Ab
end
section
namespace Ab
open Go
end Ab
end
section
namespace Ab
open Go
/-- What may follow a state when a choice is made. -/
noncomputable def nxC (t : TOpenTask) (ch : List Int → Int) (s : List Int) : List (List Int) := (ooAt t (ch s)).outcomes.map (efc t.facts s)
inductive RchC (t : TOpenTask) (ch : List Int → Int) : List Int → Prop
  | init : RchC t ch t.init
  | step {s y : List Int} (h : RchC t ch s) (hg : ¬ GoalS t s) (hy : y ∈ nxC t ch s) : RchC t ch y
/-- The choice can be made wherever it is asked for. -/
def ChOk (t : TOpenTask) (ch : List Int → Int) : Prop := ∀ s, RchC t ch s → ¬ GoalS t s → (0 ≤ ch s ∧ ch s < t.operators.length) ∧ oCan t s (ch s)
section
variable {t : TOpenTask} {ch : List Int → Int}
theorem RchC.set (ht : OTaskOk t) {s : List Int} (h : RchC t ch s) : SetN s t.facts := by
  cases h with
  | init => exact ht.init
  | step _ _ hy => obtain ⟨x, _, rfl⟩ := List.mem_map.1 hy; exact setN_efc _ _ _
/-- A policy of the choice: for the states that are reached, and no others. -/
structure PolB (t : TOpenTask) (ch : List Int → Int) (p : List TChoice) : Prop where
  ord : Ord (p.map TChoice.state)
  mem : ∀ s, (∃ c ∈ p, c.state = s) ↔ RchC t ch s ∧ ¬ GoalS t s
  op : ∀ c ∈ p, c.operator = ch c.state
theorem PolB.rch {p : List TChoice} (h : PolB t ch p) {c : TChoice} (hc : c ∈ p) : RchC t ch c.state ∧ ¬ GoalS t c.state := (h.mem _).1 ⟨c, hc, rfl⟩
theorem PolB.pol (ht : OTaskOk t) (hk : ChOk t ch) {p : List TChoice} (h : PolB t ch p) (hl : p.length ≤ 200) : PolOk t p :=
  ⟨hl, h.ord, fun c hc => (h.rch hc).1.set ht, fun c hc => by rw [h.op c hc]; exact (hk _ (h.rch hc).1 (h.rch hc).2).1, fun c hc => by rw [h.op c hc]; exact (hk _ (h.rch hc).1 (h.rch hc).2).2⟩
theorem chO_ch {p : List TChoice} (hop : ∀ c ∈ p, c.operator = ch c.state) (s : List Int) : (chO p s = -1 ∧ ∀ c ∈ p, c.state ≠ s) ∨ ((∃ c ∈ p, c.state = s) ∧ chO p s = ch s) := by
  obtain ⟨r, h1, h2⟩ := rChosen_eq p s
  have : chO p s = r := by rw [chO, h1]; rfl
  rw [this]
  rcases h2 with ⟨rfl, h⟩ | ⟨c, hc, rfl, rfl⟩
  · exact .inl ⟨rfl, h⟩
  · exact .inr ⟨⟨c, hc, rfl⟩, hop c hc⟩
theorem rch_of {p : List TChoice} (hop : ∀ c ∈ p, c.operator = ch c.state) {s : List Int} (h : Rch t p s) : RchC t ch s := by
  induction h with
  | init => exact .init
  | @step s y _ hg hl hy ih =>
    refine .step ih hg ?_
    rcases chO_ch hop s with ⟨e, _⟩ | ⟨_, e⟩
    · unfold LiveS at hl; omega
    · unfold nxS at hy; rw [e] at hy; exact hy
theorem PolB.live {p : List TChoice} (h : PolB t ch p) {s : List Int} (hs : RchC t ch s) (hg : ¬ GoalS t s) : chO p s = ch s := by
  rcases chO_ch h.op s with ⟨_, e⟩ | ⟨_, e⟩
  · obtain ⟨c, hc, he⟩ := (h.mem s).2 ⟨hs, hg⟩
    exact absurd he (e c hc)
  · exact e
/-! ### One choice put in its place -/
theorem mem_takeN {α : Type} {l : List α} {n : Nat} {a : α} (h : a ∈ l.take n) : ∃ k : Int, 0 ≤ k ∧ k < n ∧ ix l k = some a := by
  obtain ⟨k, hk⟩ := List.getElem?_of_mem h
  rw [List.getElem?_take] at hk
  split at hk
  · exact ⟨k, by omega, by omega, by rw [ix_nat]; exact hk⟩
  · cases hk
theorem mem_dropN {α : Type} {l : List α} {n : Nat} {a : α} (h : a ∈ l.drop n) : ∃ k : Int, (n : Int) ≤ k ∧ ix l k = some a := by
  obtain ⟨k, hk⟩ := List.getElem?_of_mem h
  rw [List.getElem?_drop] at hk
  exact ⟨(n + k : Nat), by omega, by rw [ix_nat]; exact hk⟩
theorem ins_ord {p : List TChoice} {c : TChoice} {i : Int} (ho : Ord (p.map TChoice.state)) (h0 : 0 ≤ i) (hlt : ∀ k a, 0 ≤ k → k < i → ix p k = some a → llt a.state c.state) (hge : ∀ k a, i ≤ k → ix p k = some a → ¬ llt a.state c.state) (hns : ∀ a ∈ p, a.state ≠ c.state) :
    Ord ((p.take i.toNat ++ c :: p.drop i.toNat).map TChoice.state) := by
  have a1 : ∀ a ∈ p.take i.toNat, llt a.state c.state := fun a ha => by
    obtain ⟨k, k0, k1, hk⟩ := mem_takeN ha
    exact hlt k a k0 (by omega) hk
  have a2 : ∀ a ∈ p.drop i.toNat, llt c.state a.state := fun a ha => by
    obtain ⟨k, k1, hk⟩ := mem_dropN ha
    rcases llt_total a.state c.state with h | h | h
    · exact absurd h (hge k a (by omega) hk)
    · exact absurd h (hns a (ix_mem hk))
    · exact h
  have s1 : Ord ((p.take i.toNat).map TChoice.state) := by rw [List.map_take]; exact List.Pairwise.sublist (List.take_sublist _ _) ho
  have s2 : Ord ((p.drop i.toNat).map TChoice.state) := by rw [List.map_drop]; exact List.Pairwise.sublist (List.drop_sublist _ _) ho
  rw [List.map_append, List.map_cons]
  refine List.pairwise_append.2 ⟨s1, List.pairwise_cons.2 ⟨fun x hx => ?_, s2⟩, fun x hx y hy => ?_⟩
  · obtain ⟨a, ha, rfl⟩ := List.mem_map.1 hx
    exact a2 a ha
  · obtain ⟨a, ha, rfl⟩ := List.mem_map.1 hx
    rcases List.mem_cons.1 hy with rfl | hy
    · exact a1 a ha
    · obtain ⟨b, hb, rfl⟩ := List.mem_map.1 hy
      exact llt_trans (a1 a ha) (a2 b hb)
theorem ins_mem {α : Type} {p : List α} {c x : α} {n : Nat} : x ∈ p.take n ++ c :: p.drop n ↔ x = c ∨ x ∈ p := by
  have : x ∈ p ↔ x ∈ p.take n ∨ x ∈ p.drop n := by
    rw [← List.mem_append, List.take_append_drop]
  rw [this]
  simp only [List.mem_append, List.mem_cons]
  constructor
  · rintro (h | h | h)
    · exact .inr (.inl h)
    · exact .inl h
    · exact .inr (.inr h)
  · rintro (h | h | h)
    · exact .inr (.inl h)
    · exact .inl h
    · exact .inr (.inr h)
theorem ins_len {α : Type} {p : List α} {c : α} {n : Nat} (h : n ≤ p.length) : (p.take n ++ c :: p.drop n).length = p.length + 1 := by simp; omega
/-- What is known of a policy on the way. -/
structure PolP (t : TOpenTask) (ch : List Int → Int) (p : List TChoice) : Prop where
  pol : PolOk t p
  of : ∀ c ∈ p, (RchC t ch c.state ∧ ¬ GoalS t c.state) ∧ c.operator = ch c.state
theorem PolP.op {p : List TChoice} (h : PolP t ch p) : ∀ c ∈ p, c.operator = ch c.state := fun c hc => (h.of c hc).2
theorem PolP.ins (ht : OTaskOk t) (hk : ChOk t ch) {p : List TChoice} (h : PolP t ch p) {s : List Int} (hs : RchC t ch s) (hg : ¬ GoalS t s) {i : Int} (h0 : 0 ≤ i) (h1 : i ≤ p.length) (hlt : ∀ k a, 0 ≤ k → k < i → ix p k = some a → llt a.state s) (hge : ∀ k a, i ≤ k → ix p k = some a → ¬ llt a.state s) (hns : ∀ a ∈ p, a.state ≠ s) (hl : p.length < 200) :
    PolP t ch (p.take i.toNat ++ ⟨s, ch s⟩ :: p.drop i.toNat) := by
  have key : ∀ {q : TChoice → Prop}, q ⟨s, ch s⟩ → (∀ c ∈ p, q c) → ∀ c ∈ p.take i.toNat ++ ⟨s, ch s⟩ :: p.drop i.toNat, q c := fun h1 h2 c hc => by
    rcases ins_mem.1 hc with rfl | hc
    · exact h1
    · exact h2 c hc
  exact ⟨⟨by rw [ins_len (by omega)]; omega, ins_ord h.pol.ord h0 hlt hge hns, key (hs.set ht) h.pol.set, key (hk s hs hg).1 h.pol.op, key (hk s hs hg).2 h.pol.can⟩, key ⟨⟨hs, hg⟩, rfl⟩ h.of⟩
theorem states_nodup {p : List TChoice} (h : Ord (p.map TChoice.state)) {s : List Int} (hns : ∀ a ∈ p, a.state ≠ s) : (s :: p.map TChoice.state).Nodup :=
  List.nodup_cons.2 ⟨fun hm => by obtain ⟨a, ha, e⟩ := List.mem_map.1 hm; exact hns a ha e, h.nodup⟩
/-- The program's way: from state to state. -/
structure BI (t : TOpenTask) (ch : List Int → Int) (q : List (List Int)) (p : List TChoice) (a : Int) : Prop where
  a0 : 0 ≤ a
  a1 : a ≤ q.length
  pp : PolP t ch p
  qr : ∀ s ∈ q, RchC t ch s
  qi : t.init ∈ q
  px : ∀ c ∈ p, ∀ y ∈ nxC t ch c.state, y ∈ q
  dn : ∀ k s, k < a → ix q k = some s → GoalS t s ∨ ∃ c ∈ p, c.state = s
  ql : q.length ≤ 1 + 4 * p.length
theorem build_prog (ht : OTaskOk t) (hk : ChOk t ch) {choose : List Int → Option Int} (hch : ∀ s, RchC t ch s → ¬ GoalS t s → choose s = some (ch s)) :
    ∃ r, strong_Build t choose = some r ∧ ((r = ([], false) ∧ ∃ l : List (List Int), l.Nodup ∧ (∀ s ∈ l, RchC t ch s ∧ ¬ GoalS t s) ∧ l.length = 201) ∨ ∃ p, r = (p, true) ∧ PolB t ch p ∧ p.length ≤ 200) := by
  have hn := ht.n1
  obtain ⟨o, o1, o2⟩ := Loop_inv (body := strong_Build_l1 t choose) (fun x => BI t ch x.1 x.2.1 x.2.2) (fun o => (o = .inr ([], false) ∧ ∃ l : List (List Int), l.Nodup ∧ (∀ s ∈ l, RchC t ch s ∧ ¬ GoalS t s) ∧ l.length = 201) ∨ ∃ p, o = .inl p ∧ PolB t ch p ∧ p.length ≤ 200) (fun x => (1000 - x.2.2).toNat)
    (s := ([t.init], [], 0)) ⟨by dsimp only; omega, by simp, ⟨⟨by simp, .nil, by simp, by simp, by simp⟩, by simp⟩, fun s hs => by rw [List.mem_singleton.1 hs]; exact .init, by simp, by simp, fun k s hk hs => by have := (ix_lo hs).1; dsimp only at hk; omega, by simp⟩ (fun ⟨q, p, a⟩ h => by
      have a0 : 0 ≤ a := h.a0
      have a1 : a ≤ q.length := h.a1
      have ql : q.length ≤ 1 + 4 * p.length := h.ql
      have pp : PolP t ch p := h.pp
      have qr : ∀ s ∈ q, RchC t ch s := h.qr
      have qi : t.init ∈ q := h.qi
      have px : ∀ c ∈ p, ∀ y ∈ nxC t ch c.state, y ∈ q := h.px
      have dn : ∀ k s, k < a → ix q k = some s → GoalS t s ∨ ∃ c ∈ p, c.state = s := h.dn
      have pl : p.length ≤ 200 := pp.pol.len
      clear h
      dsimp only
      unfold strong_Build_l1
      dsimp only
      by_cases c : a < q.length
      · rw [if_pos c]
        obtain ⟨s, hs, _⟩ := ix_of (l := q) a0 c
        have hr := qr s (ix_mem hs)
        have hset := hr.set ht
        have hsl := hset.len
        rw [hs]
        simp only [Option.bind_some, contains_eq hset.1 ht.goal.1 (show s.length ≤ 1000000 by omega), (chosen_chO pp.pol s).1]
        have key : (if dec (∀ x ∈ t.goal, x ∈ s) = true then some true else some (decide (0 ≤ chO p s))) = some (dec (GoalS t s ∨ 0 ≤ chO p s)) := by
          by_cases hg : GoalS t s
          · rw [ifP (p := ∀ x ∈ t.goal, x ∈ s) hg, dec_of (.inl hg)]
          · rw [ifN (p := ∀ x ∈ t.goal, x ∈ s) hg, decide_dec]
            congr 1
            exact dec_congr ⟨.inr, fun h => h.resolve_left hg⟩
        rw [key]
        simp only [Option.bind_some]
        have hw : w64 (a + 1) = a + 1 := w64_of (by omega) (by omega)
        by_cases cg : GoalS t s ∨ 0 ≤ chO p s
        · rw [ifP cg]
          unfold strong_Build_j2
          dsimp only
          refine .inl ⟨(q, p, a + 1), by rw [hw], ⟨by dsimp only; omega, by dsimp only; omega, pp, qr, qi, px, fun (k : Int) z hk2 hz => ?_, ql⟩, by dsimp only; omega⟩
          dsimp only at hk2 hz
          by_cases e : k = a
          · subst e
            rw [hs] at hz; cases hz
            refine cg.imp id fun hc => ?_
            rcases chO_ch pp.op s with ⟨e, _⟩ | ⟨e, _⟩
            · omega
            · exact e
          · exact dn k z (by omega) hz
        · rw [ifN cg]
          have hg : ¬ GoalS t s := fun g => cg (.inl g)
          have hns : ∀ c ∈ p, c.state ≠ s := by
            rcases chO_ch pp.op s with ⟨_, e⟩ | ⟨_, e⟩
            · exact e
            · exact absurd (.inr (by rw [e]; exact (hk s hr hg).1.1)) cg
          by_cases cl : (p.length : Int) = 200
          · rw [if_pos cl]
            refine .inr ⟨_, rfl, .inl ⟨rfl, s :: p.map TChoice.state, states_nodup pp.pol.ord hns, fun z hz => ?_, by simp; omega⟩⟩
            rcases List.mem_cons.1 hz with rfl | hz
            · exact ⟨hr, hg⟩
            · obtain ⟨c, hc, rfl⟩ := List.mem_map.1 hz
              exact (pp.of c hc).1
          · rw [if_neg cl, hch s hr hg]
            simp only [Option.bind_some]
            have ho := hk s hr hg
            obtain ⟨i, i1, i0, _, i2, i3, i4⟩ := bsf_full (key := TChoice.state) (xs := p) (t := s) (cmp := strong_Build_1) pp.pol.ord (by omega) (fun a => by unfold strong_Build_1; rw [compare_eq]; rfl)
            have hb : slices_BinarySearchFunc_api_Choice_api_Choice_int p s strong_Build_1 = some (i, dec (∃ a ∈ p, a.state = s)) := i1
            rw [hb]
            simp only [Option.bind_some, clone_eq (show s.length ≤ 1000000 by omega)]
            rw [insL, if_pos ⟨i0, i2, by omega⟩]
            obtain ⟨st, w, r1, _, r3, r4, _⟩ := oResults_eq ht ho.1.1 ho.1.2 hset
            simp only [Option.bind_some, r1]
            rw [app, if_pos (by omega)]
            simp only [Option.bind_some]
            unfold strong_Build_j2
            dsimp only
            have hst : ∀ y, y ∈ st ↔ y ∈ nxC t ch s := fun y => by rw [r3, nxC, List.mem_map]
            have pp' := pp.ins ht hk hr hg i0 i2 i3 i4 hns (by omega)
            refine .inl ⟨(q ++ st, p.take i.toNat ++ ⟨s, ch s⟩ :: p.drop i.toNat, a + 1), by rw [hw], ⟨by dsimp only; omega, by simp; omega, pp', fun z hz => ?_, List.mem_append_left _ qi, fun c hc y hy => ?_, fun k z hk2 hz => ?_, ?_⟩, by dsimp only; omega⟩
            · rcases List.mem_append.1 hz with hz | hz
              · exact qr z hz
              · exact .step hr hg ((hst z).1 hz)
            · rcases ins_mem.1 hc with rfl | hc
              · exact List.mem_append_right _ ((hst y).2 hy)
              · exact List.mem_append_left _ (px c hc y hy)
            · dsimp only at hk2 hz
              obtain ⟨z', hz', _⟩ := ix_of (l := q) (i := k) (ix_lo hz).1 (by omega)
              have e : z' = z := by
                obtain ⟨k0, _, g1⟩ := ix_lo hz
                obtain ⟨_, k1, g2⟩ := ix_lo hz'
                rw [List.getElem?_append_left (by omega), g2] at g1
                exact Option.some.inj g1
              subst e
              by_cases e : k = a
              · subst e
                rw [hs] at hz'; cases hz'
                exact .inr ⟨⟨s, ch s⟩, ins_mem.2 (.inl rfl), rfl⟩
              · refine (dn k _ (by omega) hz').imp id fun ⟨c, hc, e⟩ => ⟨c, ins_mem.2 (.inr hc), e⟩
            · dsimp only
              rw [List.length_append, ins_len (by omega)]
              omega
      · rw [if_neg c]
        have all : ∀ s, RchC t ch s → s ∈ q := fun s hs => by
          induction hs with
          | init => exact qi
          | @step s y _ hg hy ih =>
            obtain ⟨k, k0, k1, hk1⟩ := mem_ix ih
            rcases dn k s (by omega) hk1 with g | ⟨c, hc, rfl⟩
            · exact absurd g hg
            · exact px c hc y hy
        refine .inr ⟨_, rfl, .inr ⟨p, rfl, ⟨pp.pol.ord, fun s => ⟨fun ⟨c, hc, e⟩ => e ▸ (pp.of c hc).1, fun ⟨hs, hg⟩ => ?_⟩, pp.op⟩, pl⟩⟩
        obtain ⟨k, k0, k1, hk1⟩ := mem_ix (all s hs)
        exact (dn k s (by omega) hk1).resolve_left hg)
  unfold strong_Build
  rw [o1]
  rcases o2 with ⟨rfl, h⟩ | ⟨p, rfl, h⟩
  · exact ⟨_, rfl, .inl ⟨rfl, h⟩⟩
  · exact ⟨_, rfl, .inr ⟨p, rfl, h⟩⟩
end
end Ab
end
section
namespace Ab
open Go
/-! ### Values of ordered states -/
noncomputable def sc (t : TOpenTask) (s : List Int) (op : Int) : List (List Int) := (ooAt t op).outcomes.map (efc t.facts s)
/-- A row of values: of f, state by state. -/
structure Rep {A : Type} (all : List (List Int)) (v : List A) (f : List Int → A) : Prop where
  len : v.length = all.length
  get : ∀ {i : Int} {s : List Int}, ix all i = some s → ix v i = some (f s)
noncomputable def upd {A : Type} (f : List Int → A) (s : List Int) (x : A) : List Int → A := fun z => if dec (z = s) = true then x else f z
theorem upd_self {A : Type} {f : List Int → A} {s : List Int} {x : A} : upd f s x s = x := ifP rfl
theorem upd_ne {A : Type} {f : List Int → A} {s z : List Int} {x : A} (h : z ≠ s) : upd f s x z = f z := ifN h
section
variable {A : Type} {all : List (List Int)} {v : List A} {f g : List Int → A}
theorem Rep.of (h : Rep all v f) {s : List Int} (hs : s ∈ all) : ∃ i, ix all i = some s ∧ ix v i = some (f s) := by
  obtain ⟨i, _, _, hi⟩ := mem_ix hs
  exact ⟨i, hi, h.get hi⟩
theorem Rep.set (ho : Ord all) (h : Rep all v f) {i : Int} {s : List Int} (hi : ix all i = some s) (x : A) : Rep all (v.set i.toNat x) (upd f s x) := by
  obtain ⟨i0, i1, _⟩ := ix_lo hi
  have hl := h.len
  refine ⟨by rw [List.length_set]; exact hl, fun {j z} hj => ?_⟩
  rw [ix_put i0 (by omega) (ix_lo hj).1]
  by_cases e : j = i
  · subst e
    rw [hi] at hj; cases hj
    rw [if_pos rfl, upd_self]
  · rw [if_neg e, upd_ne (fun hz => e (by subst hz; exact ho.inj hj hi))]
    exact h.get hj
theorem Rep.congr (h : Rep all v f) (e : ∀ s ∈ all, f s = g s) : Rep all v g := ⟨h.len, fun hi => by rw [← e _ (ix_mem hi)]; exact h.get hi⟩
theorem Rep.repl (c : A) : Rep all (List.replicate all.length c) fun _ => c := ⟨by simp, fun {i s} hi => by
  obtain ⟨i0, i1, g⟩ := ix_lo hi
  have : i.toNat < all.length := (List.getElem?_eq_some_iff.1 g).1
  rw [ix, if_pos i0, List.getElem?_replicate, if_pos this]⟩
end
theorem repeat_eq (c : Int) {n : Nat} (h1 : 1 ≤ n) (hn : n ≤ 100000) : slices_Repeat_int_int [c] (n : Int) = some (List.replicate n c) := by
  unfold slices_Repeat_int_int
  dsimp only
  rw [if_pos (show (1 : Int) ≤ n ∧ (n : Int) ≤ 4294967295 by omega)]
  simp
/-- Reached in k steps at most, whatever outcomes come, by some operators. -/
def DnA (t : TOpenTask) : Nat → List Int → Prop
  | 0, s => GoalS t s
  | k + 1, s => GoalS t s ∨ ∃ op : Int, (0 ≤ op ∧ op < t.operators.length) ∧ oCan t s op ∧ ∀ y ∈ sc t s op, DnA t k y
section
variable {t : TOpenTask}
theorem DnA.goal {k : Nat} {s : List Int} (h : GoalS t s) : DnA t k s := by
  cases k with
  | zero => exact h
  | succ k => exact .inl h
theorem DnA.succ : ∀ {k : Nat} {s : List Int}, DnA t k s → DnA t (k + 1) s
  | 0, s, h => .inl h
  | k + 1, s, h => by
    rcases h with h | ⟨op, h1, h2, h3⟩
    · exact .inl h
    · exact .inr ⟨op, h1, h2, fun y hy => DnA.succ (h3 y hy)⟩
theorem DnA.mono {k m : Nat} {s : List Int} (h : DnA t k s) (hm : k ≤ m) : DnA t m s := by
  induction hm with
  | refl => exact h
  | step _ ih => exact ih.succ
def HtA (t : TOpenTask) (k : Nat) (s : List Int) : Prop := DnA t k s ∧ ∀ j, j < k → ¬ DnA t j s
theorem HtA.unique {k m : Nat} {s : List Int} (h : HtA t k s) (h' : HtA t m s) : k = m := by
  rcases Nat.lt_trichotomy k m with c | c | c
  · exact absurd h.1 (h'.2 k c)
  · exact c
  · exact absurd h'.1 (h.2 m c)
theorem HtA.of_dn : ∀ {k : Nat} {s : List Int}, DnA t k s → ∃ m, m ≤ k ∧ HtA t m s
  | 0, s, h => ⟨0, Nat.le_refl _, h, fun j hj => by omega⟩
  | k + 1, s, h => by
    by_cases c : DnA t k s
    · obtain ⟨m, h1, h2⟩ := HtA.of_dn c
      exact ⟨m, by omega, h2⟩
    · exact ⟨k + 1, Nat.le_refl _, h, fun j hj hd => c (hd.mono (by omega))⟩
theorem HtA.zero {s : List Int} (h : GoalS t s) : HtA t 0 s := ⟨h, fun j hj => by omega⟩
theorem HtA.of_not {k : Nat} {s : List Int} (h : DnA t (k + 1) s) (hn : ¬ DnA t k s) : HtA t (k + 1) s := ⟨h, fun j hj hd => hn (hd.mono (by omega))⟩
/-- Closed states in order. -/
structure ClO (t : TOpenTask) (all : List (List Int)) : Prop where
  cl : Cl t all
  ord : Ord all
theorem ClO.len {all : List (List Int)} (h : ClO t all) : all.length ≤ 2000 := h.cl.len
theorem ClO.set {all : List (List Int)} (h : ClO t all) {s : List Int} (hs : s ∈ all) : SetN s t.facts := h.cl.set s hs
theorem ClO.sc {all : List (List Int)} (h : ClO t all) {s : List Int} (hs : s ∈ all) {op : Int} (h0 : 0 ≤ op ∧ op < t.operators.length) (hc : oCan t s op) {y : List Int} (hy : y ∈ sc t s op) : y ∈ all := by
  obtain ⟨x, hx, rfl⟩ := List.mem_map.1 hy
  exact h.cl.closed s hs op h0.1 h0.2 hc x hx
theorem sc_ne (ht : OTaskOk t) {s : List Int} {op : Int} (h0 : 0 ≤ op ∧ op < t.operators.length) : ∃ y, y ∈ sc t s op := by
  have := (ht.at h0.1 h0.2).l0
  cases h : (ooAt t op).outcomes with
  | nil => rw [h] at this; simp at this
  | cons x l => exact ⟨efc t.facts s x, by unfold sc; rw [h]; simp⟩
/-- The largest value after an operator. -/
def WW (f : List Int → Int) (l : List (List Int)) (w : Int) : Prop := 0 ≤ w ∧ (∀ y ∈ l, 0 ≤ f y ∧ f y ≤ w) ∧ ∃ y ∈ l, f y = w
theorem WW.unique {f : List Int → Int} {l : List (List Int)} {w w' : Int} (h : WW f l w) (h' : WW f l w') : w = w' := by
  obtain ⟨_, a, y, hy, rfl⟩ := h
  obtain ⟨_, b, z, hz, rfl⟩ := h'
  have := (a z hz).2; have := (b y hy).2
  omega
theorem worstG (ht : OTaskOk t) {all : List (List Int)} (ho : Ord all) (hl : all.length ≤ 500000) {s : List Int} (hs : SetN s t.facts) {op : Int} (h0 : 0 ≤ op ∧ op < t.operators.length) (hcl : ∀ y ∈ sc t s op, y ∈ all) {v : List Int} {f : List Int → Int} (hv : Rep all v f) :
    ∃ w, strong_worst t all v s op = some w ∧ ((w = -1 ∧ ∃ y ∈ sc t s op, f y < 0) ∨ WW f (sc t s op) w) := by
  obtain ⟨st, ws, r1, _, r3, _⟩ := oResults_eq ht h0.1 h0.2 hs
  have hst : ∀ y, y ∈ st ↔ y ∈ sc t s op := fun y => by rw [r3, sc, List.mem_map]
  unfold strong_worst
  rw [r1]
  simp only [Option.bind_some]
  rcases rngX_inv (body := strong_worst_l1 all v (st, ws)) (n := (st.length : Int)) (s := 0) (fun j n => 0 ≤ n ∧ (∀ k y, k < j → ix st k = some y → 0 ≤ f y ∧ f y ≤ n) ∧ (n = 0 ∨ ∃ y ∈ sc t s op, f y = n)) (fun o => o = -1 ∧ ∃ y ∈ sc t s op, f y < 0) (by omega) ⟨Int.le_refl _, fun k y hk h => by have := (ix_lo h).1; omega, .inl rfl⟩ (fun j n j0 j1 ⟨a1, a2, a3⟩ => by
    obtain ⟨y, hy, _⟩ := ix_of (l := st) j0 j1
    have hyn := (hst y).1 (ix_mem hy)
    obtain ⟨i, hi, hvi⟩ := hv.of (hcl y hyn)
    unfold strong_worst_l1
    dsimp only
    rw [hy]
    simp only [Option.bind_some, find_eq ho hl hi, hvi]
    by_cases c : f y < 0
    · rw [if_pos c]
      exact .inr ⟨_, rfl, rfl, y, hyn, c⟩
    · rw [if_neg c]
      refine .inl ⟨_, rfl, by omega, fun k z hk hz => ?_, ?_⟩
      · by_cases ek : k = j
        · subst ek
          rw [hy] at hz; cases hz
          omega
        · have := a2 k z (by omega) hz
          omega
      · by_cases cm : n ≤ f y
        · rw [Int.max_eq_right cm]
          exact .inr ⟨y, hyn, rfl⟩
        · rw [Int.max_eq_left (by omega)]
          exact a3) with ⟨n, e1, e2, e3, e4⟩ | ⟨o, e1, rfl, e2⟩
  · rw [e1]
    have a : ∀ y ∈ sc t s op, 0 ≤ f y ∧ f y ≤ n := fun y hy => by
      obtain ⟨k, _, k1, hk⟩ := mem_ix ((hst y).2 hy)
      exact e3 k y k1 hk
    refine ⟨n, rfl, .inr ⟨e2, a, ?_⟩⟩
    rcases e4 with rfl | h
    · obtain ⟨y, hy⟩ := sc_ne (s := s) ht h0
      exact ⟨y, hy, by have := a y hy; omega⟩
    · exact h
  · rw [e1]
    exact ⟨-1, rfl, .inl ⟨rfl, e2⟩⟩
/-- The best operator, by values. -/
def BestV (t : TOpenTask) (f : List Int → Int) (s : List Int) (b : Int) : Prop :=
  ((0 ≤ b ∧ b < t.operators.length) ∧ oCan t s b) ∧ ∃ w, WW f (sc t s b) w ∧ ∀ op : Int, (0 ≤ op ∧ op < t.operators.length) → oCan t s op → ∀ w', WW f (sc t s op) w' → w ≤ w' ∧ (op < b → w < w')
theorem best_eq (ht : OTaskOk t) {all : List (List Int)} (hc : ClO t all) {s : List Int} (hs : s ∈ all) {v : List Int} {f : List Int → Int} (hv : Rep all v f) :
    ∃ b, strong_best t all v s = some b ∧ ((b = -1 ∧ ∀ op : Int, (0 ≤ op ∧ op < t.operators.length) → oCan t s op → ∃ y ∈ sc t s op, f y < 0) ∨ BestV t f s b) := by
  have hset := hc.set hs
  have hlen := hc.len
  unfold strong_best
  obtain ⟨⟨out, least⟩, e1, e2⟩ := forR_inv (body := strong_best_l1 t all v s) (n := (t.operators.length : Int)) (s := (-1, 0)) (fun j x => (x.1 = -1 ∧ ∀ op : Int, 0 ≤ op → op < j → oCan t s op → ∃ y ∈ sc t s op, f y < 0) ∨ ((0 ≤ x.1 ∧ x.1 < j) ∧ oCan t s x.1 ∧ WW f (sc t s x.1) x.2 ∧ ∀ op : Int, 0 ≤ op → op < j → oCan t s op → ∀ w', WW f (sc t s op) w' → x.2 ≤ w' ∧ (op < x.1 → x.2 < w'))) (by omega) (.inl ⟨rfl, fun op h0 h1 => by omega⟩) (fun j ⟨out, least⟩ j0 j1 h => by
    dsimp only at h
    unfold strong_best_l1
    dsimp only
    rw [oCan_eq ht j0 j1 hset]
    simp only [Option.bind_some, dec_not]
    by_cases cc : oCan t s j
    · rw [ifNN cc]
      obtain ⟨w, w1, w2⟩ := worstG ht hc.ord (by omega) hset ⟨j0, j1⟩ (fun y hy => hc.sc hs ⟨j0, j1⟩ cc hy) hv
      rw [w1]
      simp only [Option.bind_some]
      rcases w2 with ⟨rfl, y, hy, hyn⟩ | w2
      · rw [if_neg (by simp)]
        refine ⟨_, rfl, ?_⟩
        dsimp only
        rcases h with ⟨h1, h2⟩ | ⟨h1, h2, h3, h4⟩
        · refine .inl ⟨h1, fun op o0 o1 oc => ?_⟩
          by_cases e : op = j
          · subst e; exact ⟨y, hy, hyn⟩
          · exact h2 op o0 (by omega) oc
        · refine .inr ⟨⟨h1.1, by omega⟩, h2, h3, fun op o0 o1 oc w' hw' => ?_⟩
          by_cases e : op = j
          · subst e; have := (hw'.2.1 y hy).1; omega
          · exact h4 op o0 (by omega) oc w' hw'
      · have w0 := w2.1
        by_cases cb : out < 0 ∨ w < least
        · rw [if_pos (by simp only [Bool.and_eq_true, Bool.or_eq_true, decide_eq_true_eq]; exact ⟨w0, cb⟩)]
          refine ⟨_, rfl, .inr ⟨⟨j0, by dsimp only; omega⟩, cc, w2, fun op o0 o1 oc w' hw' => ?_⟩⟩
          dsimp only at o1 ⊢
          by_cases e : op = j
          · subst e; have := w2.unique hw'; omega
          · rcases h with ⟨h1, h2⟩ | ⟨h1, h2, h3, h4⟩
            · obtain ⟨y, hy, hyn⟩ := h2 op o0 (by omega) oc
              have := (hw'.2.1 y hy).1; omega
            · have := h4 op o0 (by omega) oc w' hw'
              omega
        · rw [if_neg (by simp only [Bool.and_eq_true, Bool.or_eq_true, decide_eq_true_eq]; exact fun h => cb h.2)]
          rcases h with ⟨h1, h2⟩ | ⟨h1, h2, h3, h4⟩
          · omega
          · refine ⟨_, rfl, .inr ⟨⟨h1.1, by dsimp only; omega⟩, h2, h3, fun op o0 o1 oc w' hw' => ?_⟩⟩
            dsimp only at o1 ⊢
            by_cases e : op = j
            · subst e; have := w2.unique hw'; omega
            · exact h4 op o0 (by omega) oc w' hw'
    · rw [ifP cc]
      refine ⟨_, rfl, ?_⟩
      dsimp only
      rcases h with ⟨h1, h2⟩ | ⟨h1, h2, h3, h4⟩
      · refine .inl ⟨h1, fun op o0 o1 oc => ?_⟩
        by_cases e : op = j
        · subst e; exact absurd oc cc
        · exact h2 op o0 (by omega) oc
      · refine .inr ⟨⟨h1.1, by omega⟩, h2, h3, fun op o0 o1 oc w' hw' => ?_⟩
        by_cases e : op = j
        · subst e; exact absurd oc cc
        · exact h4 op o0 (by omega) oc w' hw')
  rw [e1]
  simp only [Option.bind_some]
  dsimp only at e2
  refine ⟨out, rfl, ?_⟩
  rcases e2 with ⟨h1, h2⟩ | ⟨h1, h2, h3, h4⟩
  · exact .inl ⟨h1, fun op ho hc => h2 op ho.1 ho.2 hc⟩
  · exact .inr ⟨⟨h1, h2⟩, least, h3, fun op ho hc w' hw' => h4 op ho.1 ho.2 hc w' hw'⟩
/-! ### Ranks, layer by layer -/
def RankL (t : TOpenTask) (all : List (List Int)) (f : List Int → Int) (L : Nat) : Prop := ∀ s ∈ all, (f s = -1 ∧ ¬ DnA t L s) ∨ ∃ k : Nat, k ≤ L ∧ f s = k ∧ HtA t k s
theorem RankL.fresh {all : List (List Int)} (hc : ClO t all) {f : List Int → Int} {L : Nat} (h : RankL t all f L) {s : List Int} (hs : s ∈ all) :
    HtA t (L + 1) s ↔ f s < 0 ∧ ∃ op : Int, (0 ≤ op ∧ op < t.operators.length) ∧ oCan t s op ∧ ∀ y ∈ sc t s op, 0 ≤ f y := by
  constructor
  · intro hh
    have hn : ¬ DnA t L s := hh.2 L (by omega)
    have hf : f s = -1 := by
      rcases h s hs with ⟨e, _⟩ | ⟨k, k1, _, k2⟩
      · exact e
      · exact absurd (k2.1.mono k1) hn
    refine ⟨by omega, ?_⟩
    rcases hh.1 with g | ⟨op, h1, h2, h3⟩
    · exact absurd (DnA.goal g) hn
    · refine ⟨op, h1, h2, fun y hy => ?_⟩
      rcases h y (hc.sc hs h1 h2 hy) with ⟨_, e⟩ | ⟨k, _, e, _⟩
      · exact absurd (h3 y hy) e
      · omega
  · rintro ⟨hf, op, h1, h2, h3⟩
    have hn : ¬ DnA t L s := by
      rcases h s hs with ⟨_, e⟩ | ⟨k, _, e, _⟩
      · exact e
      · omega
    refine HtA.of_not (.inr ⟨op, h1, h2, fun y hy => ?_⟩) hn
    have := h3 y hy
    rcases h y (hc.sc hs h1 h2 hy) with ⟨e, _⟩ | ⟨k, k1, _, k2⟩
    · omega
    · exact k2.1.mono k1
/-- All ranks. -/
structure RankA (t : TOpenTask) (all : List (List Int)) (f : List Int → Int) : Prop where
  val : ∀ s ∈ all, (f s = -1 ∧ ∀ k, ¬ DnA t k s) ∨ ∃ k : Nat, f s = k ∧ HtA t k s
  le : ∀ s ∈ all, f s ≤ all.length
theorem ranks_eq (ht : OTaskOk t) {all : List (List Int)} (hc : ClO t all) : ∃ v f, strong_ranks t all = some v ∧ Rep all v f ∧ RankA t all f := by
  have hlen := hc.len
  have hn := ht.n1
  unfold strong_ranks
  rw [repeat_eq (-1) (List.length_pos_of_mem hc.cl.init) (by omega)]
  simp only [Option.bind_some]
  obtain ⟨v0, a1, f0, a2, a3⟩ := forR_inv (body := strong_ranks_l1 t all) (n := (all.length : Int)) (s := List.replicate all.length (-1)) (fun j v => ∃ f, Rep all v f ∧ ∀ i s, ix all i = some s → (i < j → (GoalS t s → f s = 0) ∧ (¬ GoalS t s → f s = -1)) ∧ (j ≤ i → f s = -1)) (by omega) ⟨_, Rep.repl (-1), fun i s hi => ⟨fun h => by have := (ix_lo hi).1; omega, fun _ => rfl⟩⟩ (fun j v j0 j1 ⟨f, h1, h2⟩ => by
    obtain ⟨s, hs, _⟩ := ix_of (l := all) j0 j1
    have hset := hc.set (ix_mem hs)
    have hsl := hset.len
    unfold strong_ranks_l1
    rw [hs]
    simp only [Option.bind_some, contains_eq hset.1 ht.goal.1 (show s.length ≤ 1000000 by omega), h1.get hs]
    by_cases hg : GoalS t s
    · rw [ifP (p := ∀ x ∈ t.goal, x ∈ s) hg]
      refine ⟨_, rfl, _, h1.set hc.ord hs 0, fun i z hz => ?_⟩
      by_cases e : i = j
      · subst e
        rw [hs] at hz; cases hz
        rw [upd_self]
        exact ⟨fun _ => ⟨fun _ => rfl, fun h => absurd hg h⟩, fun h => by omega⟩
      · rw [upd_ne (fun hz' => e (hc.ord.inj hz (by rw [hz']; exact hs)))]
        exact ⟨fun h => (h2 i z hz).1 (by omega), fun h => (h2 i z hz).2 (by omega)⟩
    · rw [ifN (p := ∀ x ∈ t.goal, x ∈ s) hg]
      refine ⟨_, rfl, _, h1, fun i z hz => ?_⟩
      by_cases e : i = j
      · subst e
        rw [hs] at hz; cases hz
        exact ⟨fun _ => ⟨fun h => absurd h hg, fun _ => (h2 i s hs).2 (Int.le_refl _)⟩, fun h => by omega⟩
      · exact ⟨fun h => (h2 i z hz).1 (by omega), fun h => (h2 i z hz).2 (by omega)⟩)
  rw [a1]
  simp only [Option.bind_some]
  have r0 : RankL t all f0 0 := fun s hs => by
    obtain ⟨i, _, i1, hi⟩ := mem_ix hs
    have := (a3 i s hi).1 i1
    by_cases hg : GoalS t s
    · exact .inr ⟨0, Nat.le_refl _, this.1 hg, .zero hg⟩
    · exact .inl ⟨this.2 hg, hg⟩
  obtain ⟨v, e1, f, e2, e3⟩ := Loop_inv (body := strong_ranks_l2 t all) (fun x => ∃ f L, Rep all x.1 f ∧ x.2 = ((L : Nat) : Int) + 1 ∧ RankL t all f L ∧ ∃ c : List (List Int), c.Nodup ∧ c.length = L ∧ ∀ z ∈ c, z ∈ all ∧ ∃ j, j ≤ L ∧ HtA t j z) (fun v => ∃ f, Rep all v f ∧ RankA t all f) (fun x => (all.length + 2 - x.2).toNat) (s := (v0, 1)) ⟨f0, 0, a2, by simp, r0, [], by simp⟩ (fun ⟨v, layer⟩ ⟨f, L, h1, h2, h3, c, c1, c2, c3⟩ => by
    dsimp only at h1 h2 ⊢
    subst h2
    have hL : L ≤ all.length := by rw [← c2]; exact nodup_len c1 fun z hz => (c3 z hz).1
    have hcond : ∀ s ∈ all, ∃ b, strong_best t all v s = some b ∧ (f s < 0 → (0 ≤ b ↔ HtA t (L + 1) s)) := fun s hs => by
      obtain ⟨b, b1, b2⟩ := best_eq ht hc hs h1
      refine ⟨b, b1, fun hf => ?_⟩
      rw [h3.fresh hc hs]
      rcases b2 with ⟨rfl, b2⟩ | ⟨⟨b2, b3⟩, w, b4, _⟩
      · refine ⟨fun h => by omega, fun ⟨_, op, h1, h2, h3⟩ => ?_⟩
        obtain ⟨y, hy, hyn⟩ := b2 op h1 h2
        have := h3 y hy; omega
      · exact ⟨fun _ => ⟨hf, b, b2, b3, fun y hy => (b4.2.1 y hy).1⟩, fun _ => b2.1⟩
    unfold strong_ranks_l2
    dsimp only
    obtain ⟨fr, g1, g2, g3⟩ := forR_inv (body := strong_ranks_l3 t all v) (n := (all.length : Int)) (s := []) (fun j l => (l.length : Int) ≤ j ∧ ∀ i, i ∈ l ↔ 0 ≤ i ∧ i < j ∧ ∃ s, ix all i = some s ∧ HtA t (L + 1) s) (by omega) ⟨by simp, fun i => ⟨fun h => by (cases h), fun h => by omega⟩⟩ (fun j l j0 j1 ⟨l1, l2⟩ => by
      obtain ⟨s, hs, _⟩ := ix_of (l := all) j0 j1
      obtain ⟨b, b1, b2⟩ := hcond s (ix_mem hs)
      unfold strong_ranks_l3
      rw [hs]
      simp only [Option.bind_some, h1.get hs]
      have key : (if f s < 0 then Option.bind (strong_best t all v s) fun a52 => some (decide (0 ≤ a52)) else some false) = some (dec (HtA t (L + 1) s)) := by
        by_cases hf : f s < 0
        · rw [if_pos hf, b1]
          simp only [Option.bind_some, decide_dec]
          rw [dec_congr (b2 hf)]
        · rw [if_neg hf, dec_no]
          exact fun h => hf ((h3.fresh hc (ix_mem hs)).1 h).1
      rw [key]
      simp only [Option.bind_some]
      by_cases hh : HtA t (L + 1) s
      · rw [ifP hh, app, if_pos (by simp; omega)]
        refine ⟨_, rfl, by simp; omega, fun i => ?_⟩
        rw [List.mem_append, List.mem_singleton, l2]
        constructor
        · rintro (⟨q0, q1, q2⟩ | rfl)
          · exact ⟨q0, by omega, q2⟩
          · exact ⟨j0, by omega, s, hs, hh⟩
        · rintro ⟨q0, q1, q2⟩
          by_cases e : i = j
          · exact .inr e
          · exact .inl ⟨q0, by omega, q2⟩
      · rw [ifN hh]
        refine ⟨_, rfl, by omega, fun i => ?_⟩
        rw [l2]
        constructor
        · rintro ⟨q0, q1, q2⟩; exact ⟨q0, by omega, q2⟩
        · rintro ⟨q0, q1, z, hz, hzh⟩
          by_cases e : i = j
          · subst e; rw [hs] at hz; cases hz; exact absurd hzh hh
          · exact ⟨q0, by omega, z, hz, hzh⟩)
    rw [g1]
    simp only [Option.bind_some]
    have frm : ∀ i, i ∈ fr ↔ ∃ s, ix all i = some s ∧ HtA t (L + 1) s := fun i => by
      rw [g3]
      exact ⟨fun h => h.2.2, fun ⟨s, h1, h2⟩ => ⟨(ix_lo h1).1, (ix_lo h1).2.1, s, h1, h2⟩⟩
    by_cases cf : (fr.length : Int) = 0
    · rw [if_pos cf]
      have none : ∀ s ∈ all, ¬ HtA t (L + 1) s := fun s hs hh => by
        obtain ⟨i, _, _, hi⟩ := mem_ix hs
        have := (frm i).2 ⟨s, hi, hh⟩
        have e0 : fr = [] := List.eq_nil_of_length_eq_zero (by omega)
        rw [e0] at this
        cases this
      have top : ∀ k, ∀ s ∈ all, DnA t k s → DnA t L s := fun k => by
        induction k with
        | zero => exact fun s _ h => DnA.mono h (Nat.zero_le _)
        | succ k ih =>
          intro s hs h
          rcases h with h | ⟨op, o1, o2, o3⟩
          · exact .goal h
          · by_cases hd : DnA t L s
            · exact hd
            · exact absurd (HtA.of_not (.inr ⟨op, o1, o2, fun y hy => ih y (hc.sc hs o1 o2 hy) (o3 y hy)⟩) hd) (none s hs)
      refine .inr ⟨v, rfl, f, h1, fun s hs => ?_, fun s hs => ?_⟩
      · rcases h3 s hs with ⟨q1, q2⟩ | ⟨k, _, q1, q2⟩
        · exact .inl ⟨q1, fun k hk => q2 (top k s hs hk)⟩
        · exact .inr ⟨k, q1, q2⟩
      · rcases h3 s hs with ⟨q1, q2⟩ | ⟨k, q0, q1, q2⟩ <;> omega
    · rw [if_neg cf]
      obtain ⟨v', k1, k2, k3⟩ := forR_inv (body := strong_ranks_l4 (((L : Nat) : Int) + 1) fr) (n := (fr.length : Int)) (s := v) (fun j x => x.length = all.length ∧ ∀ i s, ix all i = some s → ix x i = some (if dec (∃ k, k < j ∧ ix fr k = some i) = true then ((L : Nat) : Int) + 1 else f s)) (by omega) ⟨h1.len, fun i s hi => by
        rw [ifN (by rintro ⟨k, k1, k2⟩; have := (ix_lo k2).1; omega)]
        exact h1.get hi⟩ (fun j x j0 j1 ⟨x1, x2⟩ => by
        obtain ⟨i, hi, _⟩ := ix_of (l := fr) j0 j1
        obtain ⟨s, hs, _⟩ := (frm i).1 (ix_mem hi)
        obtain ⟨i0, i1, _⟩ := ix_lo hs
        unfold strong_ranks_l4
        rw [hi]
        simp only [Option.bind_some, x2 i s hs]
        refine ⟨_, rfl, by rw [List.length_set]; exact x1, fun i' z hz => ?_⟩
        rw [ix_put i0 (by omega) (ix_lo hz).1]
        by_cases e : i' = i
        · subst e
          rw [if_pos rfl, ifP ⟨j, by omega, hi⟩]
        · rw [if_neg e, x2 i' z hz]
          congr 2
          have : (∃ k, k < j ∧ ix fr k = some i') ↔ ∃ k, k < j + 1 ∧ ix fr k = some i' := ⟨fun ⟨k, k1, k2⟩ => ⟨k, by omega, k2⟩, fun ⟨k, k1, k2⟩ => by
            by_cases ek : k = j
            · subst ek; rw [hi] at k2; cases k2; exact absurd rfl e
            · exact ⟨k, by omega, k2⟩⟩
          rw [dec_congr this])
      rw [k1]
      simp only [Option.bind_some]
      rw [w64_of (by omega) (by omega)]
      obtain ⟨i, hif⟩ : ∃ i, i ∈ fr := by
        cases fr with
        | nil => simp at cf
        | cons a l => exact ⟨a, by simp⟩
      obtain ⟨s, hs, hh⟩ := (frm i).1 hif
      have hrep : Rep all v' (fun s => if dec (HtA t (L + 1) s) = true then ((L : Nat) : Int) + 1 else f s) := ⟨k2, fun {i s} hi => by
        rw [k3 i s hi]
        have : (∃ k, k < (fr.length : Int) ∧ ix fr k = some i) ↔ HtA t (L + 1) s := ⟨fun ⟨k, _, hk⟩ => by
          obtain ⟨z, hz, hzh⟩ := (frm i).1 (ix_mem hk)
          rw [hi] at hz; cases hz; exact hzh, fun h => by
          obtain ⟨k, _, k1, hk⟩ := mem_ix ((frm i).2 ⟨s, hi, h⟩)
          exact ⟨k, k1, hk⟩⟩
        rw [dec_congr this]⟩
      refine .inl ⟨_, rfl, ⟨_, L + 1, hrep, by dsimp only; omega, fun z hz => ?_, s :: c, List.nodup_cons.2 ⟨fun hm => ?_, c1⟩, by simp [c2], fun z hz => ?_⟩, by dsimp only; omega⟩
      · dsimp only
        by_cases hzh : HtA t (L + 1) z
        · exact .inr ⟨L + 1, Nat.le_refl _, by rw [ifP hzh]; omega, hzh⟩
        · rw [ifN hzh]
          rcases h3 z hz with ⟨q1, q2⟩ | ⟨k, q0, q1, q2⟩
          · exact .inl ⟨q1, fun hd => hzh (.of_not hd q2)⟩
          · exact .inr ⟨k, by omega, q1, q2⟩
      · obtain ⟨_, j, j1, j2⟩ := c3 s hm
        have := j2.unique hh; omega
      · rcases List.mem_cons.1 hz with rfl | hz
        · exact ⟨ix_mem hs, L + 1, Nat.le_refl _, hh⟩
        · obtain ⟨q0, j, q1, q2⟩ := c3 z hz
          exact ⟨q0, j, by omega, q2⟩)
  rw [e1]
  exact ⟨v, f, rfl, e2, e3⟩
theorem RankA.ht {all : List (List Int)} {f : List Int → Int} (h : RankA t all f) {s : List Int} (hs : s ∈ all) {k : Nat} (hk : HtA t k s) : f s = k := by
  rcases h.val s hs with ⟨_, e⟩ | ⟨m, e, hm⟩
  · exact absurd hk.1 (e k)
  · rw [e, hm.unique hk]
theorem RankA.nn {all : List (List Int)} {f : List Int → Int} (h : RankA t all f) {s : List Int} (hs : s ∈ all) (hf : 0 ≤ f s) : ∃ k : Nat, f s = k ∧ HtA t k s := by
  rcases h.val s hs with ⟨e, _⟩ | e
  · omega
  · exact e
/-- Where a state has a rank, the best operator leads to lower ones. -/
theorem best_rank (ht : OTaskOk t) {all : List (List Int)} (hc : ClO t all) {v : List Int} {f : List Int → Int} (hv : Rep all v f) (hr : RankA t all f) {s : List Int} (hs : s ∈ all) (hg : ¬ GoalS t s) (hf : 0 ≤ f s) :
    ∃ b, strong_best t all v s = some b ∧ BestV t f s b ∧ ∀ y ∈ sc t s b, y ∈ all ∧ 0 ≤ f y ∧ f y < f s := by
  obtain ⟨b, b1, b2⟩ := best_eq ht hc hs hv
  obtain ⟨k, k1, k2⟩ := hr.nn hs hf
  obtain ⟨m, rfl⟩ : ∃ m, k = m + 1 := by
    cases k with
    | zero => exact absurd k2.1 hg
    | succ m => exact ⟨m, rfl⟩
  rcases k2.1 with h | ⟨op, o1, o2, o3⟩
  · exact absurd h hg
  have hy : ∀ y ∈ sc t s op, 0 ≤ f y ∧ f y ≤ m := fun y hy => by
    obtain ⟨j, j1, j2⟩ := HtA.of_dn (o3 y hy)
    rw [hr.ht (hc.sc hs o1 o2 hy) j2]; omega
  rcases b2 with ⟨_, b2⟩ | b2
  · obtain ⟨y, hy1, hy2⟩ := b2 op o1 o2
    have := hy y hy1; omega
  · refine ⟨b, b1, b2, fun y hyb => ?_⟩
    obtain ⟨⟨c1, c2⟩, w, c3, c4⟩ := b2
    have hya := hc.sc hs c1 c2 hyb
    have := c3.2.1 y hyb
    refine ⟨hya, this.1, ?_⟩
    -- the largest value after op
    obtain ⟨w', hw'⟩ : ∃ w', WW f (sc t s op) w' := by
      obtain ⟨w', q1, q2⟩ := worstG ht hc.ord (by have := hc.len; omega) (hc.set hs) o1 (fun y hy => hc.sc hs o1 o2 hy) hv
      rcases q2 with ⟨_, y, q3, q4⟩ | q2
      · have := hy y q3; omega
      · exact ⟨w', q2⟩
    obtain ⟨z, hz1, hz2⟩ := hw'.2.2
    have := hy z hz1
    have := c4 op o1 o2 w' hw'
    omega
end
section
variable {t : TOpenTask}
/-- What Policy answers. -/
theorem policy_spec (ht : OTaskOk t) : (open_Reach t = some ([], false) ∧ ref8_Reached t 2000 = some ([], false) ∧ strong_Policy t = some ([], false, ⟨10, -7⟩)) ∨ ∃ all v f, open_Reach t = some (all, true) ∧ ref8_Reached t 2000 = some (all, true) ∧ ClO t all ∧ Rep all v f ∧ RankA t all f ∧
    ((f t.init = -1 ∧ strong_Policy t = some ([], false, ⟨0, 0⟩)) ∨ ∃ ch, ChOk t ch ∧ (∀ s, RchC t ch s → s ∈ all ∧ 0 ≤ f s) ∧ (∀ s, RchC t ch s → ¬ GoalS t s → BestV t f s (ch s) ∧ ∀ y ∈ nxC t ch s, f y < f s) ∧
      ((strong_Policy t = some ([], false, ⟨10, -8⟩) ∧ ∃ l : List (List Int), l.Nodup ∧ (∀ s ∈ l, RchC t ch s ∧ ¬ GoalS t s) ∧ l.length = 201) ∨ ∃ p, strong_Policy t = some (p, true, ⟨0, 0⟩) ∧ PolB t ch p ∧ p.length ≤ 200)) := by
  unfold strong_Policy
  rw [explore_ok ht]
  rcases reach_full ht with ⟨all, q1, q2, q3, q4, _⟩ | ⟨q1, q2⟩
  · right
    have hc : ClO t all := ⟨q3, q4⟩
    have hlen := hc.len
    obtain ⟨v, f, r1, r2, r3⟩ := ranks_eq ht hc
    obtain ⟨i, hi, hvi⟩ := r2.of q3.init
    refine ⟨all, v, f, q1, q2, hc, r2, r3, ?_⟩
    rw [q1]
    simp only [Option.bind_some, if_true]
    rw [if_neg (by simp), r1]
    simp only [Option.bind_some, find_eq q4 (show all.length ≤ 500000 by omega) hi, hvi]
    by_cases cf : f t.init < 0
    · rw [if_pos cf]
      refine .inl ⟨?_, rfl⟩
      rcases r3.val _ q3.init with ⟨e, _⟩ | ⟨k, e, _⟩ <;> omega
    · rw [if_neg cf]
      right
      have inv : ∀ s, RchC t (fun s => (strong_best t all v s).getD (-1)) s → s ∈ all ∧ 0 ≤ f s := fun s hs => by
        induction hs with
        | init => exact ⟨q3.init, by omega⟩
        | @step s y _ hg hy ih =>
          obtain ⟨b, b1, b2, b3⟩ := best_rank ht hc r2 r3 ih.1 hg ih.2
          have e : (strong_best t all v s).getD (-1) = b := by rw [b1]; rfl
          unfold nxC at hy
          dsimp only at hy
          rw [e] at hy
          have := b3 y hy
          exact ⟨this.1, this.2.1⟩
      have step : ∀ s, RchC t (fun s => (strong_best t all v s).getD (-1)) s → ¬ GoalS t s → ∃ b, strong_best t all v s = some b ∧ BestV t f s b ∧ ∀ y ∈ sc t s b, y ∈ all ∧ 0 ≤ f y ∧ f y < f s := fun s hs hg => best_rank ht hc r2 r3 (inv s hs).1 hg (inv s hs).2
      have hk : ChOk t (fun s => (strong_best t all v s).getD (-1)) := fun s hs hg => by
        obtain ⟨b, b1, b2, b3⟩ := step s hs hg
        dsimp only
        rw [b1]; exact b2.1
      refine ⟨_, hk, inv, fun s hs hg => ?_, ?_⟩
      · obtain ⟨b, b1, b2, b3⟩ := step s hs hg
        have e : (strong_best t all v s).getD (-1) = b := by rw [b1]; rfl
        have e2 : (fun s => (strong_best t all v s).getD (-1)) s = b := e
        refine ⟨by first | (rw [e2]; exact b2) | (rw [e]; exact b2), fun y hy => ?_⟩
        unfold nxC at hy
        rw [e2] at hy
        exact (b3 y hy).2.2
      · obtain ⟨r, p1, p2⟩ := build_prog ht hk (choose := fun y1 => strong_Policy_1 y1 t all v) (fun s hs hg => by
          obtain ⟨b, b1, _⟩ := step s hs hg
          unfold strong_Policy_1
          rw [b1]; rfl)
        rw [p1]
        rcases p2 with ⟨rfl, p2⟩ | ⟨p, rfl, p2⟩
        · exact .inl ⟨rfl, p2⟩
        · exact .inr ⟨p, rfl, p2⟩
  · left
    rw [q1]
    exact ⟨rfl, q2, rfl⟩
/-- The policy that is found: reaching the goal takes no longer than the rank says. -/
theorem polB_dn (ht : OTaskOk t) {ch : List Int → Int} (hk : ChOk t ch) {f : List Int → Int} (hf : ∀ s, RchC t ch s → 0 ≤ f s) (hs : ∀ s, RchC t ch s → ¬ GoalS t s → ∀ y ∈ nxC t ch s, f y < f s) {p : List TChoice} (hp : PolB t ch p) :
    ∀ (k : Nat) (s : List Int), RchC t ch s → f s ≤ k → Dn (GoalS t) (LiveS p) (nxS t p) k s
  | 0, s, hr, h0 => by
    by_cases hg : GoalS t s
    · exact .goal hg
    · obtain ⟨y, hy⟩ := sc_ne (s := s) ht (hk s hr hg).1
      have := hs s hr hg y hy
      have := hf y (.step hr hg hy)
      omega
  | k + 1, s, hr, h0 => by
    by_cases hg : GoalS t s
    · exact .goal hg
    · have e := hp.live hr hg
      refine .inr ⟨by unfold LiveS; rw [e]; exact (hk s hr hg).1.1, fun y hy => ?_⟩
      have hy' : y ∈ nxC t ch s := by unfold nxS at hy; rw [e] at hy; exact hy
      have := hs s hr hg y hy'
      exact polB_dn ht hk hf hs hp k y (.step hr hg hy') (by omega)
end
end Ab
end
section
namespace Ab
open Go
/-! ### Loops that do the same, till one of them gives up -/
section
variable {t : TOpenTask} {m : Int}
end
end Ab
end
section
namespace Ab
open Go
section
variable {t : TOpenTask}
end
section
variable {t : TOpenTask}
structure LowA (t : TOpenTask) (all : List (List Int)) (g : List Int → Int) : Prop where
  b : ∀ s ∈ all, 0 ≤ g s ∧ g s ≤ 1000000000
  dn : ∀ s ∈ all, g s < 1000000000 → DnA t (g s).toNat s
  goal : ∀ s ∈ all, GoalS t s → g s = 0
end
section
variable {t : TOpenTask}
/-- What a policy does some operators do. -/
theorem dn_dnA (ht : OTaskOk t) {p : List TChoice} (hp : PolOk t p) : ∀ (k : Nat) (s : List Int), Dn (GoalS t) (LiveS p) (nxS t p) k s → DnA t k s
  | 0, s, h => h
  | k + 1, s, h => by
    rcases h with h | ⟨h1, h2⟩
    · exact .goal h
    · have := live_op hp h1
      exact .inr ⟨chO p s, this.1, this.2, fun y hy => dn_dnA ht hp k y (h2 y hy)⟩
/-- The policy that is found is a good one. -/
theorem found_check (ht : OTaskOk t) {all : List (List Int)} {f : List Int → Int} {ch : List Int → Int} (hk : ChOk t ch) (h1 : ∀ s, RchC t ch s → s ∈ all ∧ 0 ≤ f s) (h2 : ∀ s, RchC t ch s → ¬ GoalS t s → BestV t f s (ch s) ∧ ∀ y ∈ nxC t ch s, f y < f s) {p : List TChoice} (hp : PolB t ch p) (hl : p.length ≤ 200) :
    ∃ k : Nat, (k : Int) ≤ f t.init ∧ strong_Check t p = some ((k : Int), true, ⟨0, 0⟩) := by
  have pol := hp.pol ht hk hl
  have dn : ∀ s, RchC t ch s → Dn (GoalS t) (LiveS p) (nxS t p) (f s).toNat s := fun s hs => polB_dn ht hk (fun s hs => (h1 s hs).2) (fun s hs hg => (h2 s hs hg).2) hp _ s hs (by have := (h1 s hs).2; omega)
  obtain ⟨l, hv, hh⟩ := check_eq ht pol
  rcases hh with ⟨k, _, k2, k3⟩ | ⟨⟨s, hs, hn⟩, _⟩
  · refine ⟨k, ?_, k3⟩
    have := Ht.le k2 (dn _ .init)
    have := (h1 _ .init).2
    omega
  · obtain ⟨m, _, hm⟩ := Ht.of_dn (dn s (rch_of hp.op ((hv.mem s).1 hs)))
    exact absurd hm (hn m)
theorem StrongIsLeast_true (t : TOpenTask) (p : List TChoice) : law8_StrongIsLeast t p = some true := by
  unfold law8_StrongIsLeast
  obtain ⟨e, e1, _, e3⟩ := policy_eq t p
  rcases e3 with ⟨rfl, ht, hp⟩ | ⟨hc, _⟩
  · obtain ⟨l, hv, hh⟩ := check_eq ht hp
    rcases hh with ⟨n, _, n2, n3⟩ | ⟨_, h⟩
    · rw [n3]
      simp only [Option.bind_some]
      rw [if_neg (by simp)]
      have hd := dn_dnA ht hp n _ n2.1
      rcases policy_spec ht with ⟨_, _, h⟩ | ⟨all, v, f, _, _, hc, _, hr, ⟨hn, h⟩ | ⟨ch, hk, h1, h2, ⟨h, _⟩ | ⟨q, h, hq, hl⟩⟩⟩
      · rw [h]
        simp only [Option.bind_some]
        rw [if_neg (by decide), if_pos trivial, always_eq]; rfl
      · rcases hr.val _ hc.cl.init with ⟨_, e⟩ | ⟨k, e, _⟩
        · exact absurd hd (e n)
        · omega
      · rw [h]
        simp only [Option.bind_some]
        rw [if_neg (by decide), if_pos trivial, always_eq]; rfl
      · rw [h]
        simp only [Option.bind_some]
        rw [if_pos trivial]
        obtain ⟨k, k1, k2⟩ := found_check ht hk h1 h2 hq hl
        rw [k2]
        simp only [Option.bind_some, if_true]
        obtain ⟨m, m1, m2⟩ := HtA.of_dn hd
        have := hr.ht hc.cl.init m2
        rw [if_pos (by omega), always_eq]; rfl
    · rw [h]
      simp only [Option.bind_some]
      rw [if_pos (by simp), always_eq]; rfl
  · rw [check_bad e1 hc]
    simp only [Option.bind_some]
    rw [if_pos (by simp), always_eq]; rfl
end
end Ab
end
