/-
  PLAIN LAWS of strips: binary search, common elements, updates of sets.
-/
import Derived.Test.YtfjbddjoagefkaaPs1
import Derived.Test.YtfjbddjoagefkaaSh7
namespace Ab
open Go

theorem half_eq {i j : Int} (h0 : 0 ≤ i) (h1 : i ≤ j) (h2 : j ≤ 1000000) : w64 (shrW .u64 ((IntKind.u64).wrap (w64 (i + j))) 1) = (i + j) / 2 := by
  rw [w64_of (n := i + j) (by omega) (by omega), IntKind.wrap_u64, Int.emod_eq_of_lt (by omega) (by omega)]
  have : shrW .u64 (i + j) 1 = (i + j) / 2 := by
    simp only [shrW, IntKind.bits]
    rw [show min (1 : Int).toNat 64 = 1 by rfl, Int.fdiv_eq_ediv_of_nonneg _ (by decide)]
    rfl
  rw [this]
  exact w64_of (by omega) (by omega)
theorem less_eq (a b : Int) : cmp_Less_int a b = some (decide (a < b)) := by simp [cmp_Less_int, cmp_isNaN_int]
theorem bsearch_eq {xs : List Int} (hs : Inc xs) (hl : xs.length ≤ 500000) (t : Int) : ∃ i, slices_BinarySearch_int_int xs t = some (i, dec (t ∈ xs)) ∧ 0 ≤ i ∧ i ≤ xs.length ∧ (∀ k a, 0 ≤ k → k < i → ix xs k = some a → a < t) ∧ (∀ k a, i ≤ k → ix xs k = some a → t ≤ a) := by
  unfold slices_BinarySearch_int_int
  obtain ⟨i, h1, h2, h3, h4, h5⟩ := Loop_inv (body := slices_BinarySearch_int_int_l1 xs t) (fun p => (0 ≤ p.1 ∧ p.1 ≤ p.2 ∧ p.2 ≤ xs.length) ∧ (∀ k a, 0 ≤ k → k < p.1 → ix xs k = some a → a < t) ∧ (∀ k a, p.2 ≤ k → ix xs k = some a → t ≤ a))
    (fun i => 0 ≤ i ∧ i ≤ xs.length ∧ (∀ k a, 0 ≤ k → k < i → ix xs k = some a → a < t) ∧ (∀ k a, i ≤ k → ix xs k = some a → t ≤ a)) (fun p => (p.2 - p.1).toNat) (s := (0, (xs.length : Int)))
    ⟨⟨by simp, by simp, by simp⟩, fun k a h1 h2 => by simp at h2; omega, fun k a h1 h2 => by have := (ix_lo h2).2.1; simp at h1; omega⟩ (fun ⟨i, j⟩ ⟨⟨g1, g2, g3⟩, g4, g5⟩ => by
    dsimp only at g1 g2 g3 g4 g5 ⊢
    unfold slices_BinarySearch_int_int_l1
    dsimp only
    by_cases c : i < j
    · rw [if_pos c, half_eq g1 g2 (by omega)]
      obtain ⟨a, ha, ga⟩ := ix_of (l := xs) (i := (i + j) / 2) (by omega) (by omega)
      rw [ha]
      simp only [Option.bind_some, less_eq, decide_eq_true_eq]
      by_cases c2 : a < t
      · rw [if_pos c2, w64_of (by omega) (by omega)]
        refine .inl ⟨_, rfl, ⟨⟨by dsimp only; omega, by dsimp only; omega, g3⟩, fun k b k0 k1 hb => ?_, g5⟩, by dsimp only; omega⟩
        dsimp only at k1
        obtain ⟨_, _, gb⟩ := ix_lo hb
        by_cases e : k = (i + j) / 2
        · subst e; rw [ha] at hb; cases hb; exact c2
        · have := hs.get gb ga (by omega); omega
      · rw [if_neg c2]
        refine .inl ⟨_, rfl, ⟨⟨g1, by dsimp only; omega, by dsimp only; omega⟩, g4, fun k b k0 hb => ?_⟩, by dsimp only; omega⟩
        dsimp only at k0
        obtain ⟨_, _, gb⟩ := ix_lo hb
        by_cases e : k = (i + j) / 2
        · subst e; rw [ha] at hb; cases hb; omega
        · have := hs.get ga gb (by omega); omega
    · rw [if_neg c]
      have : i = j := by omega
      subst this
      exact .inr ⟨i, rfl, g1, g3, g4, g5⟩)
  rw [h1]
  simp only [Option.bind_some]
  refine ⟨i, ?_, h2, h3, h4, h5⟩
  have nin : (∀ a, ix xs i = some a → a ≠ t) → t ∉ xs := fun hne hin => by
    obtain ⟨k, k0, k1, hk⟩ := mem_ix hin
    rcases Int.lt_trichotomy k i with c | c | c
    · have := h4 k t k0 c hk; omega
    · subst c; exact hne t hk rfl
    · obtain ⟨b, hb, gb⟩ := ix_of (l := xs) (i := i) (by omega) (by omega)
      obtain ⟨_, _, gk⟩ := ix_lo hk
      have := hs.get gb gk (by omega)
      have := h5 i b (Int.le_refl _) hb
      omega
  by_cases c : i < xs.length
  · obtain ⟨a, ha, ga⟩ := ix_of (l := xs) (i := i) (by omega) c
    rw [if_pos c, ha]
    simp only [Option.bind_some]
    by_cases c2 : a = t
    · subst c2
      rw [if_pos rfl, dec_of (ix_mem ha)]
      rfl
    · rw [if_neg c2]
      simp only [slices_isNaN_int, decide_true, Bool.not_true, Bool.false_eq_true, if_false, Option.bind_some]
      rw [dec_no (nin fun b hb => by rw [ha] at hb; cases hb; exact c2)]
  · rw [if_neg c]
    simp only [Option.bind_some]
    rw [dec_no (nin fun b hb => by have := (ix_lo hb).2.1; omega)]
theorem bsearch2 {xs : List Int} (hs : Inc xs) (hl : xs.length ≤ 500000) (t : Int) : ∃ i, slices_BinarySearch_int_int xs t = some (i, dec (t ∈ xs)) :=
  let ⟨i, h, _⟩ := bsearch_eq hs hl t
  ⟨i, h⟩
theorem containsFunc_eq {l : List Int} {f : Int → Option Bool} (p : Int → Prop) (hf : ∀ x ∈ l, f x = some (dec (p x))) : slices_ContainsFunc_int_int l f = some (dec (∃ x ∈ l, p x)) := by
  unfold slices_ContainsFunc_int_int slices_IndexFunc_int_int
  rcases rngX_test (body := slices_IndexFunc_int_int_l1 l f) (n := (l.length : Int)) (fun j => if dec (∀ a, ix l j = some a → ¬ p a) = true then none else some j) (by omega) (fun j h0 h1 _ => by
    obtain ⟨a, ha, _⟩ := ix_of (l := l) h0 h1
    unfold slices_IndexFunc_int_int_l1
    rw [ha]
    simp only [Option.bind_some, hf a (ix_mem ha)]
    by_cases c : p a
    · rw [if_pos (dec_of c), if_neg (by rw [dec_true]; exact fun h => h a rfl c)]
    · rw [if_neg (by rw [dec_no c]; simp), if_pos (dec_of fun b hb => by cases hb; exact c)]) with ⟨h1, h2⟩ | ⟨j, o, h0, h1, h2, _, h4⟩
  · rw [h1]
    simp only [Option.bind_some]
    rw [dec_no]
    · rfl
    · rintro ⟨x, hx, hp⟩
      obtain ⟨i, g1, g2, g3⟩ := mem_ix hx
      have := h2 i g1 g2
      split at this
      · rename_i h; exact dec_true.1 h x g3 hp
      · cases this
  · rw [h4]
    split at h2
    · cases h2
    · rename_i h
      cases h2
      simp only [Option.bind_some]
      rw [dec_of]
      · simp [h0]
      · simp only [dec_true] at h
        obtain ⟨a, g1, _⟩ := ix_of (l := l) h0 h1
        refine ⟨a, ix_mem g1, ?_⟩
        rcases Classical.em (p a) with c | c
        · exact c
        · exact absurd (fun b hb => by rw [g1] at hb; cases hb; exact c) h
theorem meets_eq {a b : List Int} (hb : Inc b) (hl : b.length ≤ 500000) : strips_Meets a b = some (dec (∃ x ∈ a, x ∈ b)) := by
  unfold strips_Meets
  rw [containsFunc_eq (fun x => x ∈ b) (fun x _ => by
    unfold strips_Meets_1
    obtain ⟨i, h⟩ := bsearch2 hb hl x
    rw [h]; rfl)]
  rfl

/-! ### Sorted, and equal neighbours made one -/
theorem compact_spec {l : List Int} (hs : l.Pairwise (· ≤ ·)) : Inc (compactL l) ∧ ∀ x, x ∈ compactL l ↔ x ∈ l := by
  have key : ∀ m, m ≤ l.length → Inc (Go.Lib.compactUpTo l.toArray m) ∧ (∀ x, x ∈ Go.Lib.compactUpTo l.toArray m ↔ x ∈ l.take m) := by
    intro m
    induction m with
    | zero => intro _; simp [Go.Lib.compactUpTo]
    | succ m ih =>
      intro hm
      obtain ⟨h1, h2⟩ := ih (by omega)
      have hlt : m < l.length := by omega
      have hd : l.toArray[m]! = l[m] := by simp [hlt]
      have ht : l.take (m + 1) = l.take m ++ [l[m]] := by rw [List.take_add_one]; simp [hlt]
      rw [Go.Lib.compactUpTo_succ, ht]
      by_cases hk : Go.Lib.keeps l.toArray m = true
      · rw [if_pos hk, hd]
        refine ⟨List.pairwise_append.2 ⟨h1, by simp, fun a ha b hb => ?_⟩, fun x => by rw [List.mem_append, List.mem_append, h2]⟩
        simp only [List.mem_singleton] at hb
        subst hb
        have ha' := (h2 a).1 ha
        obtain ⟨i, hi, rfl⟩ := List.mem_iff_getElem.1 ha'
        rw [List.length_take] at hi
        rw [List.getElem_take]
        simp only [Go.Lib.keeps, decide_eq_true_eq] at hk
        rcases hk with hk | hk
        · omega
        · have hm1 : l.toArray[m - 1]! = l[m - 1] := by simp [show m - 1 < l.length by omega]
          rw [hd, hm1] at hk
          have e1 : l[m - 1] ≤ l[m] := List.pairwise_iff_getElem.1 hs (m - 1) m (by omega) hlt (by omega)
          have e2 : l[i] ≤ l[m - 1] := by
            rcases Nat.lt_or_ge i (m - 1) with c | c
            · exact List.pairwise_iff_getElem.1 hs i (m - 1) (by omega) (by omega) c
            · have : i = m - 1 := by omega
              subst this; exact Int.le_refl _
          omega
      · rw [if_neg hk, List.append_nil]
        refine ⟨h1, fun x => ?_⟩
        rw [h2, List.mem_append]
        refine ⟨.inl, fun h => ?_⟩
        rcases h with h | h
        · exact h
        · simp only [List.mem_singleton] at h
          subst h
          have hm0 : m ≠ 0 := fun e => hk (by simp [Go.Lib.keeps, e])
          have hm1 : l.toArray[m - 1]! = l[m - 1] := by simp [show m - 1 < l.length by omega]
          have he : l[m] = l[m - 1] := by
            simp only [Go.Lib.keeps, decide_eq_true_eq, not_or] at hk
            have h3 : l.toArray[m]! = l.toArray[m - 1]! := Classical.not_not.1 (fun h => hk.2 h)
            rw [hd, hm1] at h3; exact h3
          rw [he, List.mem_take_iff_getElem]
          exact ⟨m - 1, by omega, rfl⟩
  obtain ⟨h1, h2⟩ := key l.length (Nat.le_refl _)
  refine ⟨?_, fun x => ?_⟩
  · simpa [compactL, Go.Lib.compact] using h1
  · have := h2 x
    rw [List.take_length] at this
    simpa [compactL, Go.Lib.compact] using this
theorem srt_spec (l : List Int) : (srt l).Pairwise (· ≤ ·) ∧ ∀ x, x ∈ srt l ↔ x ∈ l := by
  refine ⟨?_, fun x => by simp [srt]⟩
  have := List.pairwise_mergeSort (le := fun x y : Int => decide (x ≤ y)) (fun a b c h1 h2 => by simp at h1 h2 ⊢; omega) (fun a b => by simp; omega) l
  refine this.imp fun h => by simpa using h
theorem sortL_eq {l : List Int} (h : l.length < 4611686018427387904) : sortL l = some (srt l) := by rw [sortL, if_pos h]

theorem update_inc {s add del : List Int} (hd : Inc del) (hl : del.length ≤ 500000) (h1 : s.length ≤ 500000) (h2 : add.length ≤ 500000) :
    ∃ r, strips_Update s add del = some r ∧ Inc r ∧ ∀ x, x ∈ r ↔ (x ∈ s ∧ x ∉ del) ∨ x ∈ add := by
  unfold strips_Update
  rw [forR_filter (l := s) (b := 8) (fun a => a ∉ del) (fun j a c h => by
    obtain ⟨i, hi⟩ := bsearch2 hd hl a
    unfold strips_Update_l1
    rw [h]
    simp only [Option.bind_some, hi, dec_not]
    refine ⟨fun hq => ?_, fun hq => ?_⟩
    · rw [if_pos (dec_of hq)]
      cases app 8 c [a] <;> rfl
    · rw [if_neg (by simpa using hq)]; rfl) [] (by simp; omega)]
  simp only [Option.bind_some, List.nil_append]
  have hle : (s.filter fun a => dec (a ∉ del)).length ≤ s.length := List.length_filter_le _ _
  rw [show app 8 (s.filter fun a => dec (a ∉ del)) add = some ((s.filter fun a => dec (a ∉ del)) ++ add) by rw [app, if_pos]; omega]
  simp only [Option.bind_some]
  rw [sortL_eq (by rw [List.length_append]; omega)]
  simp only [Option.bind_some]
  obtain ⟨e1, e2⟩ := srt_spec ((s.filter fun a => dec (a ∉ del)) ++ add)
  obtain ⟨e3, e4⟩ := compact_spec e1
  refine ⟨_, rfl, e3, fun x => ?_⟩
  rw [e4, e2, List.mem_append, List.mem_filter, dec_true]
theorem update_eq {s add del : List Int} {n : Int} (hn : n ≤ 1000) (hd : Inc del) (hl : del.length ≤ 500000) (hs : SetN s n) (ha : SetN add n) :
    strips_Update s add del = some (setOf (fun x => (x ∈ s ∧ x ∉ del) ∨ x ∈ add) n) := by
  have h1 := hs.len; have h2 := ha.len
  obtain ⟨r, e1, e2, e3⟩ := update_inc (s := s) (add := add) hd hl (by omega) (by omega)
  rw [e1, SetN.eq_of (n := n) ⟨e2, fun x hx => ?_⟩ (fun x _ _ => e3 x)]
  rcases (e3 x).1 hx with h | h
  · exact hs.2 x h.1
  · exact ha.2 x h
theorem union_eq {a b : List Int} {n : Int} (hn : n ≤ 1000) (ha : SetN a n) (hb : SetN b n) : strips_Union a b = some (setOf (fun x => x ∈ a ∨ x ∈ b) n) := by
  unfold strips_Union
  rw [update_eq hn .nil (by simp) ha hb]
  simp
end Ab
