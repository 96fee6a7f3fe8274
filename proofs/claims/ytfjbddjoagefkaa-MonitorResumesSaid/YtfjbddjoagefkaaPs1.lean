/-
  PLAIN LAWS of strips and of its reference: sets, searches, updates.
-/
import Derived.Test.YtfjbddjoagefkaaMAllD
import Derived.Test.YtfjbddjoagefkaaPt0
namespace Ab
open Go

theorem has_eq (l : List Int) (n : Int) : ref1_Has l n = some (dec (n ∈ l)) := by
  unfold ref1_Has
  rw [rng_list (l := l) (fun a => a ≠ n) true (fun j a h => by
    unfold ref1_Has_l1
    rw [h]
    by_cases e : a = n <;> simp [e])]
  by_cases h : n ∈ l
  · rw [if_neg (by simp only [dec_true]; exact fun g => g n h rfl)]
    simp [h]
  · rw [if_pos (by simp only [dec_true]; exact fun a ha e => h (e ▸ ha))]
    simp [h]
theorem subset_eq (part l : List Int) : ref1_Subset part l = some (dec (∀ x ∈ part, x ∈ l)) := by
  unfold ref1_Subset
  rw [rng_list (l := part) (fun a => a ∈ l) false (fun j a h => by
    unfold ref1_Subset_l1
    rw [h]
    by_cases e : a ∈ l <;> simp [e, has_eq])]
  by_cases h : ∀ x ∈ part, x ∈ l
  · rw [if_pos (dec_of h), dec_of h]; rfl
  · rw [if_neg (by rw [dec_no h]; simp), dec_no h]; rfl
theorem disjoint_eq (a b : List Int) : ref1_Disjoint a b = some (dec (∀ x ∈ a, x ∉ b)) := by
  unfold ref1_Disjoint
  rw [rng_list (l := a) (fun x => x ∉ b) false (fun j x h => by
    unfold ref1_Disjoint_l1
    rw [h]
    by_cases e : x ∈ b <;> simp [e, has_eq])]
  by_cases h : ∀ x ∈ a, x ∉ b
  · rw [if_pos (dec_of h), dec_of h]; rfl
  · rw [if_neg (by rw [dec_no h]; simp), dec_no h]; rfl
theorem in_eq (n lo hi : Int) : ref1_In n lo hi = some (dec (lo ≤ n ∧ n ≤ hi)) := by
  unfold ref1_In; rw [decide_dec, decide_dec, dec_and]
theorem at_eq (c i : Int) : ref1_At c i = some ⟨c, i⟩ := rfl

/-- What a test of a rising list asks at a place. -/
def stepOk (l : List Int) (n j : Int) : Prop := ∀ a, ix l j = some a → (0 ≤ a ∧ a < n) ∧ ∀ b, 0 < j → ix l (j - 1) = some b → b < a
theorem stepOk_iff {l : List Int} {n : Int} : (∀ j : Int, 0 ≤ j → j < l.length → stepOk l n j) ↔ SetN l n := by
  constructor
  · intro h
    refine ⟨inc_of_adj fun k a b h1 h2 => ?_, fun x hx => ?_⟩
    · have hk := (List.getElem?_eq_some_iff.1 h2).1
      have := (h ((k + 1 : Nat) : Int) (by omega) (by omega) b (by rw [ix_nat]; exact h2)).2 a (by omega)
      rw [show ((k + 1 : Nat) : Int) - 1 = (k : Nat) by omega] at this
      exact this (by rw [ix_nat]; exact h1)
    · obtain ⟨i, h1, h2, h3⟩ := mem_ix hx
      exact (h i h1 h2 x h3).1
  · intro h j h0 h1 a ha
    refine ⟨h.2 a (ix_mem ha), fun b hj hb => ?_⟩
    obtain ⟨_, _, ga⟩ := ix_lo ha
    obtain ⟨_, _, gb⟩ := ix_lo hb
    exact h.1.get gb ga (by omega)

theorem isSet_eq (l : List Int) (n : Int) : strips_IsSet l n = some (dec (SetN l n)) := by
  unfold strips_IsSet
  rcases rngX_test (body := strips_IsSet_l1 l n) (n := (l.length : Int)) (fun j => if dec (stepOk l n j) = true then none else some false) (by omega) (fun j h0 h1 _ => by
    obtain ⟨a, ha, _⟩ := ix_of (l := l) h0 h1
    unfold strips_IsSet_l1
    rw [ha]
    simp only [Option.bind_some]
    by_cases c1 : a < 0
    · rw [if_pos c1, if_neg]
      · rfl
      · rw [dec_true]; intro h; have := (h a ha).1; omega
    · rw [if_neg c1]
      by_cases c2 : n ≤ a
      · rw [if_pos c2, if_neg]
        · rfl
        · rw [dec_true]; intro h; have := (h a ha).1; omega
      · rw [if_neg c2]
        by_cases c3 : 0 < j
        · obtain ⟨b, hb, _⟩ := ix_of (l := l) (i := j - 1) (by omega) (by omega)
          rw [if_pos c3, hb]
          simp only [Option.bind_some]
          by_cases c4 : a ≤ b
          · rw [if_pos (by simpa using c4), if_neg]
            rw [dec_true]; intro h; have := (h a ha).2 b c3 hb; omega
          · rw [if_neg (by simpa using c4), if_pos]
            rw [dec_true]; intro x hx
            rw [ha] at hx; cases hx
            exact ⟨by omega, fun y _ hy => by rw [hb] at hy; cases hy; omega⟩
        · rw [if_neg c3]
          simp only [Option.bind_some]
          rw [if_neg (by simp), if_pos]
          rw [dec_true]; intro x hx
          rw [ha] at hx; cases hx
          exact ⟨by omega, fun y hy => absurd hy c3⟩) with ⟨h1, h2⟩ | ⟨j, o, h0, h1, h2, _, h4⟩
  · rw [h1, dec_of]
    · rfl
    · exact stepOk_iff.1 fun j g1 g2 => by have := h2 j g1 g2; simpa using this
  · rw [h4]
    split at h2
    · cases h2
    · rename_i hs
      cases h2
      rw [dec_no]
      · rfl
      · exact fun h => hs (dec_of (stepOk_iff.2 h j h0 h1))
theorem rIsSet_eq (l : List Int) {n : Int} (hn : -9223372036854775808 < n) (hn' : n ≤ 9223372036854775807) : ref1_IsSet l n = some (dec (SetN l n)) := by
  unfold ref1_IsSet
  rcases rngX_test (body := ref1_IsSet_l1 l n) (n := (l.length : Int)) (fun j => if dec (stepOk l n j) = true then none else some false) (by omega) (fun j h0 h1 _ => by
    obtain ⟨a, ha, _⟩ := ix_of (l := l) h0 h1
    unfold ref1_IsSet_l1
    rw [ha]
    simp only [Option.bind_some, in_eq, w64_of (n := n - 1) (by omega) (by omega), dec_not]
    by_cases c1 : 0 ≤ a ∧ a ≤ n - 1
    · rw [if_neg (by simpa using c1)]
      by_cases c3 : 0 < j
      · obtain ⟨b, hb, _⟩ := ix_of (l := l) (i := j - 1) (by omega) (by omega)
        rw [if_pos c3, hb]
        simp only [Option.bind_some]
        by_cases c4 : a ≤ b
        · rw [if_pos (by simpa using c4), if_neg]
          rw [dec_true]; intro h; have := (h a ha).2 b c3 hb; omega
        · rw [if_neg (by simpa using c4), if_pos]
          rw [dec_true]; intro x hx
          rw [ha] at hx; cases hx
          exact ⟨by omega, fun y _ hy => by rw [hb] at hy; cases hy; omega⟩
      · rw [if_neg c3]
        simp only [Option.bind_some]
        rw [if_neg (by simp), if_pos]
        rw [dec_true]; intro x hx
        rw [ha] at hx; cases hx
        exact ⟨by omega, fun y hy => absurd hy c3⟩
    · rw [if_pos (by simpa using c1), if_neg]
      · rfl
      · rw [dec_true]; intro h; have := (h a ha).1; omega) with ⟨h1, h2⟩ | ⟨j, o, h0, h1, h2, _, h4⟩
  · rw [h1, dec_of]
    · rfl
    · exact stepOk_iff.1 fun j g1 g2 => by have := h2 j g1 g2; simpa using this
  · rw [h4]
    split at h2
    · cases h2
    · rename_i hs
      cases h2
      rw [dec_no]
      · rfl
      · exact fun h => hs (dec_of (stepOk_iff.2 h j h0 h1))

theorem containsLoop {s : List Int} (hs : Inc s) (hl : s.length ≤ 1000000) (x : Int) {i : Int} (h0 : 0 ≤ i) (h1 : i ≤ s.length) (hlt : ∀ k a, 0 ≤ k → k < i → ix s k = some a → a < x) :
    ∃ i', Loop (strips_Contains_l2 s x) i = some i' ∧ i ≤ i' ∧ i' ≤ s.length ∧ (∀ k a, 0 ≤ k → k < i' → ix s k = some a → a < x) ∧ (∀ a, ix s i' = some a → x ≤ a) := by
  obtain ⟨o, h2, h3⟩ := Loop_inv (body := strips_Contains_l2 s x) (fun j => i ≤ j ∧ j ≤ s.length ∧ ∀ k a, 0 ≤ k → k < j → ix s k = some a → a < x) (fun i' => i ≤ i' ∧ i' ≤ s.length ∧ (∀ k a, 0 ≤ k → k < i' → ix s k = some a → a < x) ∧ (∀ a, ix s i' = some a → x ≤ a)) (fun j => (s.length - j).toNat) (s := i) ⟨Int.le_refl _, h1, hlt⟩ (fun j ⟨g1, g2, g3⟩ => by
    unfold strips_Contains_l2
    by_cases c : j < s.length
    · obtain ⟨a, ha, _⟩ := ix_of (l := s) (i := j) (by omega) c
      rw [if_pos c, ha]
      simp only [Option.bind_some, decide_eq_true_eq]
      by_cases c2 : a < x
      · rw [if_pos c2]
        rw [w64_of (by omega) (by omega)]
        refine .inl ⟨j + 1, rfl, ⟨by omega, by omega, fun k b k0 k1 hb => ?_⟩, by omega⟩
        by_cases e : k = j
        · subst e; rw [ha] at hb; cases hb; exact c2
        · exact g3 k b k0 (by omega) hb
      · rw [if_neg c2]
        exact .inr ⟨j, rfl, g1, g2, g3, fun b hb => by rw [ha] at hb; cases hb; omega⟩
    · rw [if_neg c]
      exact .inr ⟨j, rfl, g1, g2, g3, fun b hb => by have := (ix_lo hb).2.1; omega⟩)
  exact ⟨o, h2, h3⟩
theorem contains_eq {s part : List Int} (hs : Inc s) (hp : Inc part) (hl : s.length ≤ 1000000) : strips_Contains s part = some (dec (∀ x ∈ part, x ∈ s)) := by
  unfold strips_Contains
  rcases rngX_inv (body := strips_Contains_l1 s part) (n := (part.length : Int)) (fun j i => (0 ≤ i ∧ i ≤ s.length ∧ ∀ k a, 0 ≤ k → k < i → ix s k = some a → ∀ m x, j ≤ m → ix part m = some x → a < x) ∧ ∀ m x, 0 ≤ m → m < j → ix part m = some x → x ∈ s) (fun o => o = false ∧ ¬ ∀ x ∈ part, x ∈ s) (s := 0) (by omega) ⟨⟨by omega, by omega, fun k a h1 h2 => by omega⟩, fun m x h1 h2 => by omega⟩ (fun j i h0 h1 ⟨⟨g1, g2, g3⟩, g4⟩ => by
    obtain ⟨x, hx, gx⟩ := ix_of (l := part) h0 h1
    unfold strips_Contains_l1
    obtain ⟨i', e1, e2, e3, e4, e5⟩ := containsLoop hs hl x g1 g2 (fun k a k0 k1 ha => g3 k a k0 k1 ha j x (Int.le_refl _) hx)
    rw [hx]
    simp only [Option.bind_some, e1]
    have nin : (∀ a, ix s i' = some a → x < a) → x ∉ s := fun hgt hin => by
      obtain ⟨k, k0, k1, hk⟩ := mem_ix hin
      rcases Int.lt_trichotomy k i' with c | c | c
      · have := e4 k x k0 c hk; omega
      · subst c; have := hgt x hk; omega
      · obtain ⟨b, hb, gb⟩ := ix_of (l := s) (i := i') (by omega) (by omega)
        obtain ⟨_, _, gk⟩ := ix_lo hk
        have := hs.get gb gk (by omega)
        have := e5 b hb
        omega
    by_cases c : i' = s.length
    · rw [if_pos c]
      refine .inr ⟨false, rfl, rfl, fun h => ?_⟩
      exact nin (fun a ha => by have := (ix_lo ha).2.1; omega) (h x (ix_mem hx))
    · rw [if_neg c]
      obtain ⟨b, hb, gb⟩ := ix_of (l := s) (i := i') (by omega) (by omega)
      rw [hb]
      simp only [Option.bind_some]
      have hxb := e5 b hb
      by_cases c2 : b = x
      · subst c2
        rw [if_neg (by simp)]
        refine .inl ⟨i', rfl, ⟨by omega, e3, fun k a k0 k1 ha m y hm hy => ?_⟩, fun m y m0 m1 hy => ?_⟩
        · obtain ⟨_, _, gy⟩ := ix_lo hy
          have := hp.get gx gy (by omega)
          have := e4 k a k0 k1 ha
          omega
        · by_cases e : m = j
          · subst e; rw [hx] at hy; cases hy; exact ix_mem hb
          · exact g4 m y m0 (by omega) hy
      · rw [if_pos (by simpa using c2)]
        refine .inr ⟨false, rfl, rfl, fun h => ?_⟩
        exact nin (fun a ha => by rw [hb] at ha; cases ha; omega) (h x (ix_mem hx))) with ⟨s', h1, _, h2⟩ | ⟨o, h1, rfl, h2⟩
  · rw [h1, dec_of]
    · rfl
    · intro x hx
      obtain ⟨m, m0, m1, hm⟩ := mem_ix hx
      exact h2 m x m0 m1 hm
  · rw [h1, dec_no h2]; rfl
end Ab
