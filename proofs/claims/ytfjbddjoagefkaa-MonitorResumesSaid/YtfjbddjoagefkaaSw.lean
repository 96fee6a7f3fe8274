/-
  PLAIN LAWS of the words in which functions are written as plain texts: loops with invariants, elements of lists.
-/
import Derived.Test.YtfjbddjoagefkaaSh1
namespace Ab
open Go

theorem ix_nat {α : Type} {l : List α} {k : Nat} : ix l (k : Int) = l[k]? := by simp [ix]
theorem ix_of {α : Type} {l : List α} {i : Int} (h0 : 0 ≤ i) (h1 : i < l.length) : ∃ a, ix l i = some a ∧ l[i.toNat]? = some a := by
  have h : i.toNat < l.length := by omega
  exact ⟨l[i.toNat], by simp [ix, h0, h], by simp [h]⟩
theorem ix_lo {α : Type} {l : List α} {i : Int} {a : α} (h : ix l i = some a) : 0 ≤ i ∧ i < l.length ∧ l[i.toNat]? = some a := by
  unfold ix at h
  split at h
  · have := (List.getElem?_eq_some_iff.1 h).1
    exact ⟨by assumption, by omega, h⟩
  · cases h
theorem w64_of {n : Int} (h1 : -9223372036854775808 ≤ n) (h2 : n ≤ 9223372036854775807) : w64 n = n := w64_eq ⟨h1, h2⟩

theorem forN_inv {S : Type} {body : Int → S → Option S} (P : Int → S → Prop) : ∀ (k : Nat) (i : Int) (s : S), P i s →
    (∀ j s, i ≤ j → j < i + k → P j s → ∃ s', body j s = some s' ∧ P (j + 1) s') → ∃ s', forN body k i s = some s' ∧ P (i + k) s'
  | 0, i, s, h, _ => ⟨s, rfl, by simpa using h⟩
  | k + 1, i, s, h, hb => by
    obtain ⟨s1, h1, h2⟩ := hb i s (Int.le_refl _) (by omega) h
    obtain ⟨s2, h3, h4⟩ := forN_inv P k (i + 1) s1 h2 (fun j s g1 g2 => hb j s (by omega) (by omega))
    exact ⟨s2, by simp only [forN, h1]; exact h3, by rw [show i + ((k + 1 : Nat) : Int) = i + 1 + k by omega]; exact h4⟩
/-- A loop over numbers, from what it keeps. -/
theorem forR_inv {S : Type} {body : Int → S → Option S} {n : Int} (P : Int → S → Prop) {s : S} (hn : 0 ≤ n) (h0 : P 0 s)
    (hb : ∀ j s, 0 ≤ j → j < n → P j s → ∃ s', body j s = some s' ∧ P (j + 1) s') : ∃ s', forR 0 n body s = some s' ∧ P n s' := by
  obtain ⟨s', h1, h2⟩ := forN_inv P (n - 0).toNat 0 s h0 (fun j s g1 g2 => hb j s g1 (by omega))
  exact ⟨s', h1, by rwa [show (0 : Int) + ((n - 0).toNat : Int) = n by omega] at h2⟩

theorem rngN_inv {S O : Type} {body : Int → S → Option (S ⊕ O)} (P : Int → S → Prop) (Q : O → Prop) : ∀ (k : Nat) (i : Int) (s : S), P i s →
    (∀ j s, i ≤ j → j < i + k → P j s → (∃ s', body j s = some (.inl s') ∧ P (j + 1) s') ∨ ∃ o, body j s = some (.inr o) ∧ Q o) →
    (∃ s', rngN body k i s = some (.inl s') ∧ P (i + k) s') ∨ ∃ o, rngN body k i s = some (.inr o) ∧ Q o
  | 0, i, s, h, _ => .inl ⟨s, rfl, by simpa using h⟩
  | k + 1, i, s, h, hb => by
    rcases hb i s (Int.le_refl _) (by omega) h with ⟨s1, h1, h2⟩ | ⟨o, h1, h2⟩
    · rcases rngN_inv P Q k (i + 1) s1 h2 (fun j s g1 g2 => hb j s (by omega) (by omega)) with ⟨s2, h3, h4⟩ | ⟨o, h3, h4⟩
      · exact .inl ⟨s2, by simp only [rngN, h1]; exact h3, by rw [show i + ((k + 1 : Nat) : Int) = i + 1 + k by omega]; exact h4⟩
      · exact .inr ⟨o, by simp only [rngN, h1]; exact h3, h4⟩
    · exact .inr ⟨o, by simp only [rngN, h1], h2⟩
/-- A loop over numbers with ways out, from what it keeps. -/
theorem rngX_inv {S O : Type} {body : Int → S → Option (S ⊕ O)} {n : Int} (P : Int → S → Prop) (Q : O → Prop) {s : S} (hn : 0 ≤ n) (h0 : P 0 s)
    (hb : ∀ j s, 0 ≤ j → j < n → P j s → (∃ s', body j s = some (.inl s') ∧ P (j + 1) s') ∨ ∃ o, body j s = some (.inr o) ∧ Q o) :
    (∃ s', rngX 0 n body s = some (.inl s') ∧ P n s') ∨ ∃ o, rngX 0 n body s = some (.inr o) ∧ Q o := by
  rcases rngN_inv P Q (n - 0).toNat 0 s h0 (fun j s g1 g2 => hb j s g1 (by omega)) with ⟨s', h1, h2⟩ | h
  · exact .inl ⟨s', h1, by rwa [show (0 : Int) + ((n - 0).toNat : Int) = n by omega] at h2⟩
  · exact .inr h
/-- A loop that tests: all pass. -/
theorem rngX_all {O : Type} {body : Int → Unit → Option (Unit ⊕ O)} {n : Int} (hn : 0 ≤ n) (hb : ∀ j, 0 ≤ j → j < n → body j () = some (.inl ())) : rngX 0 n body () = some (.inl ()) := by
  rcases rngX_inv (body := body) (fun _ _ => True) (fun _ => False) (s := ()) hn trivial (fun j s g1 g2 _ => .inl ⟨(), hb j g1 g2, trivial⟩) with ⟨s', h, _⟩ | ⟨o, _, h⟩
  · exact h
  · exact h.elim

theorem LoopN_inv {S O : Type} {body : S → Option (S ⊕ O)} (P : S → Prop) (Q : O → Prop) (μ : S → Nat) (hb : ∀ s, P s → (∃ s', body s = some (.inl s') ∧ P s' ∧ μ s' < μ s) ∨ ∃ o, body s = some (.inr o) ∧ Q o) :
    ∀ (k : Nat) (s : S), μ s < k → P s → ∃ o, LoopN body k s = some o ∧ Q o
  | 0, s, h, _ => by omega
  | k + 1, s, h, hs => by
    rcases hb s hs with ⟨s', h1, h2, h3⟩ | ⟨o, h1, h2⟩
    · obtain ⟨o, g1, g2⟩ := LoopN_inv P Q μ hb k s' (by omega) h2
      exact ⟨o, by simp only [LoopN, h1]; exact g1, g2⟩
    · exact ⟨o, by simp only [LoopN, h1], h2⟩
/-- A loop, from what it keeps and a measure that sinks. -/
theorem Loop_inv {S O : Type} {body : S → Option (S ⊕ O)} (P : S → Prop) (Q : O → Prop) (μ : S → Nat) {s : S} (hs : P s)
    (hb : ∀ s, P s → (∃ s', body s = some (.inl s') ∧ P s' ∧ μ s' < μ s) ∨ ∃ o, body s = some (.inr o) ∧ Q o) : ∃ o, Loop body s = some o ∧ Q o := by
  obtain ⟨o, h1, h2⟩ := LoopN_inv P Q μ hb (μ s + 1) s (by omega) hs
  exact ⟨o, Loop_iff.2 ⟨_, h1⟩, h2⟩

/-! ### Two loops that do the same -/
theorem rngN_eq {S O : Type} {b1 b2 : Int → S → Option (S ⊕ O)} (P : Int → S → Prop) : ∀ (k : Nat) (i : Int) (s : S), P i s →
    (∀ j s, i ≤ j → j < i + k → P j s → b1 j s = b2 j s ∧ b1 j s ≠ none ∧ ∀ s', b1 j s = some (.inl s') → P (j + 1) s') →
    rngN b1 k i s = rngN b2 k i s ∧ rngN b1 k i s ≠ none ∧ ∀ s', rngN b1 k i s = some (.inl s') → P (i + k) s'
  | 0, i, s, h, _ => ⟨rfl, by simp [rngN], fun s' hs => by simp only [rngN, Option.some.injEq, Sum.inl.injEq] at hs; subst hs; simpa using h⟩
  | k + 1, i, s, h, hb => by
    obtain ⟨h1, h2, h3⟩ := hb i s (Int.le_refl _) (by omega) h
    simp only [rngN]
    rw [← h1]
    cases hc : b1 i s with
    | none => exact absurd hc h2
    | some x =>
      cases x with
      | inr o => exact ⟨rfl, by simp, fun s' hs => by simp at hs⟩
      | inl s1 =>
        dsimp only
        have := rngN_eq (b1 := b1) (b2 := b2) P k (i + 1) s1 (h3 s1 hc) (fun j s g1 g2 => hb j s (by omega) (by omega))
        rwa [show i + 1 + (k : Int) = i + ((k + 1 : Nat) : Int) by omega] at this
theorem rngX_eq {S O : Type} {b1 b2 : Int → S → Option (S ⊕ O)} {n : Int} (P : Int → S → Prop) {s : S} (hn : 0 ≤ n) (h0 : P 0 s)
    (hb : ∀ j s, 0 ≤ j → j < n → P j s → b1 j s = b2 j s ∧ b1 j s ≠ none ∧ ∀ s', b1 j s = some (.inl s') → P (j + 1) s') :
    rngX 0 n b1 s = rngX 0 n b2 s ∧ rngX 0 n b1 s ≠ none ∧ ∀ s', rngX 0 n b1 s = some (.inl s') → P n s' := by
  have := rngN_eq P (n - 0).toNat 0 s h0 (fun j s g1 g2 => hb j s g1 (by omega))
  rwa [show (0 : Int) + ((n - 0).toNat : Int) = n by omega] at this
end Ab
