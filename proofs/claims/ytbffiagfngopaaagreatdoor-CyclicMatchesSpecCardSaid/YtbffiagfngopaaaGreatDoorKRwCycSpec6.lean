/-
  Texts that the proof stands on.
-/
import Derived.Test.YtbffiagfngopaaaGreatDoorKRwCycSpec5
set_option linter.all false
section
namespace Ab
open Go
theorem half_eq {i j : Int} (h0 : 0 ≤ i) (h1 : i ≤ j) (h2 : j ≤ 1000000) : w64 (shrW .u64 ((IntKind.u64).wrap (w64 (i + j))) 1) = (i + j) / 2 := by
 rw [s5 (n := i + j) (by omega) (by omega), IntKind.wrap_u64, Int.emod_eq_of_lt (by omega) (by omega)]
 have : shrW .u64 (i + j) 1 = (i + j) / 2 := by
  simp only [shrW, IntKind.bits]
  rw [show min (1 : Int).toNat 64 = 1 by rfl, Int.fdiv_eq_ediv_of_nonneg _ (by decide)]
  rfl
 rw [this]
 exact s5 (by omega) (by omega)
theorem less_eq (a b : Int) : T4 a b = some (decide (a < b)) := by simp [T4, E1]
theorem bsearch_eq {xs : List Int} (hs : Inc xs) (hl : xs.length ≤ 500000) (t : Int) : ∃ i, o9 xs t = some (i, dec (t ∈ xs)) ∧ 0 ≤ i ∧ i ≤ xs.length ∧ (∀ k a, 0 ≤ k → k < i → ix xs k = some a → a < t) ∧ (∀ k a, i ≤ k → ix xs k = some a → t ≤ a) := by
 unfold o9
 obtain ⟨i, h1, h2, h3, h4, h5⟩ := A6 (body := y5 xs t) (fun p => (0 ≤ p.1 ∧ p.1 ≤ p.2 ∧ p.2 ≤ xs.length) ∧ (∀ k a, 0 ≤ k → k < p.1 → ix xs k = some a → a < t) ∧ (∀ k a, p.2 ≤ k → ix xs k = some a → t ≤ a))
  (fun i => 0 ≤ i ∧ i ≤ xs.length ∧ (∀ k a, 0 ≤ k → k < i → ix xs k = some a → a < t) ∧ (∀ k a, i ≤ k → ix xs k = some a → t ≤ a)) (fun p => (p.2 - p.1).toNat) (s := (0, (xs.length : Int)))
  ⟨⟨by simp, by simp, by simp⟩, fun k a h1 h2 => by simp at h2; omega, fun k a h1 h2 => by have := (j7 h2).2.1; simp at h1; omega⟩ (fun ⟨i, j⟩ ⟨⟨g1, g2, g3⟩, g4, g5⟩ => by
  dsimp only at g1 g2 g3 g4 g5 ⊢
  unfold y5
  dsimp only
  by_cases c : i < j
  ·rw [if_pos c, half_eq g1 g2 (by omega)]
   obtain ⟨a, ha, ga⟩ := i7 (l := xs) (i := (i + j) / 2) (by omega) (by omega)
   rw [ha]
   simp only [ob, less_eq, decide_eq_true_eq]
   by_cases c2 : a < t
   ·rw [if_pos c2, s5 (by omega) (by omega)]
    refine .inl ⟨_, rfl, ⟨⟨by dsimp only; omega, by dsimp only; omega, g3⟩, fun k b k0 k1 hb => ?_, g5⟩, by dsimp only; omega⟩
    dsimp only at k1
    obtain ⟨_, _, gb⟩ := j7 hb
    by_cases e : k = (i + j) / 2
    ·subst e; rw [ha] at hb; cases hb; exact c2
    ·have := hs.get gb ga (by omega); omega
   ·rw [if_neg c2]
    refine .inl ⟨_, rfl, ⟨⟨g1, by dsimp only; omega, by dsimp only; omega⟩, g4, fun k b k0 hb => ?_⟩, by dsimp only; omega⟩
    dsimp only at k0
    obtain ⟨_, _, gb⟩ := j7 hb
    by_cases e : k = (i + j) / 2
    ·subst e; rw [ha] at hb; cases hb; omega
    ·have := hs.get ga gb (by omega); omega
  ·rw [if_neg c]
   have : i = j := by omega
   subst this
   exact .inr ⟨i, rfl, g1, g3, g4, g5⟩)
 rw [h1]
 simp only [ob]
 refine ⟨i, ?_, h2, h3, h4, h5⟩
 have nin : (∀ a, ix xs i = some a → a ≠ t) → t ∉ xs := fun hne hin => by
  obtain ⟨k, k0, k1, hk⟩ := k9 hin
  rcases Int.lt_trichotomy k i with c | c | c
  ·have := h4 k t k0 c hk; omega
  ·subst c; exact hne t hk rfl
  ·obtain ⟨b, hb, gb⟩ := i7 (l := xs) (i := i) (by omega) (by omega)
   obtain ⟨_, _, gk⟩ := j7 hk
   have := hs.get gb gk (by omega)
   have := h5 i b (Int.le_refl _) hb
   omega
 by_cases c : i < xs.length
 ·obtain ⟨a, ha, ga⟩ := i7 (l := xs) (i := i) (by omega) c
  rw [if_pos c, ha]
  simp only [ob]
  by_cases c2 : a = t
  ·subst c2
   rw [if_pos rfl, k7 (i8 ha)]
   rfl
  ·rw [if_neg c2]
   simp only [I8, decide_true, Bool.not_true, Bool.false_eq_true, if_false, ob]
   rw [o6 (nin fun b hb => by rw [ha] at hb; cases hb; exact c2)]
 ·rw [if_neg c]
  simp only [ob]
  rw [o6 (nin fun b hb => by have := (j7 hb).2.1; omega)]
theorem bsearch2 {xs : List Int} (hs : Inc xs) (hl : xs.length ≤ 500000) (t : Int) : ∃ i, o9 xs t = some (i, dec (t ∈ xs)) :=
 let ⟨i, h, _⟩ := bsearch_eq hs hl t
 ⟨i, h⟩
theorem containsFunc_eq {l : List Int} {f : Int → Option Bool} (p : Int → Prop) (hf : ∀ x ∈ l, f x = some (dec (p x))) : l9 l f = some (dec (∃ x ∈ l, p x)) := by
 unfold l9 A4
 rcases u4 (body := q9 l f) (n := (l.length : Int)) (fun j => if dec (∀ a, ix l j = some a → ¬ p a) = true then none else some j) (by omega) (fun j h0 h1 _ => by
  obtain ⟨a, ha, _⟩ := i7 (l := l) h0 h1
  unfold q9
  rw [ha]
  simp only [ob, hf a (i8 ha)]
  by_cases c : p a
  ·rw [if_pos (k7 c), if_neg (by rw [l4]; exact fun h => h a rfl c)]
  ·rw [if_neg (by rw [o6 c]; simp), if_pos (k7 fun b hb => by cases hb; exact c)]) with ⟨h1, h2⟩ | ⟨j, o, h0, h1, h2, _, h4⟩
 ·rw [h1]
  simp only [ob]
  rw [o6]
  ·rfl
  ·rintro ⟨x, hx, hp⟩
   obtain ⟨i, g1, g2, g3⟩ := k9 hx
   have := h2 i g1 g2
   split at this
   ·rename_i h; exact l4.1 h x g3 hp
   ·cases this
 ·rw [h4]
  split at h2
  ·cases h2
  ·rename_i h
   cases h2
   simp only [ob]
   rw [k7]
   ·simp [h0]
   ·simp only [l4] at h
    obtain ⟨a, g1, _⟩ := i7 (l := l) h0 h1
    refine ⟨a, i8 g1, ?_⟩
    rcases Classical.em (p a) with c | c
    ·exact c
    ·exact absurd (fun b hb => by rw [g1] at hb; cases hb; exact c) h
theorem meets_eq {a b : List Int} (hb : Inc b) (hl : b.length ≤ 500000) : S5 a b = some (dec (∃ x ∈ a, x ∈ b)) := by
 unfold S5
 rw [containsFunc_eq (fun x => x ∈ b) (fun x _ => by
  unfold U6
  obtain ⟨i, h⟩ := bsearch2 hb hl x
  rw [h]; rfl)]
 rfl
/-! ### Sorted, and equal neighbours made one -/
theorem compact_spec {l : List Int} (hs : l.Pairwise (· ≤ ·)) : Inc (Y3 l) ∧ ∀ x, x ∈ Y3 l ↔ x ∈ l := by
 have key : ∀ m, m ≤ l.length → Inc (Go.Lib.compactUpTo l.toArray m) ∧ (∀ x, x ∈ Go.Lib.compactUpTo l.toArray m ↔ x ∈ l.take m) := by
  intro m
  induction m with
  | zero => intro _; simp [Go.Lib.compactUpTo]
  | succ m ih =>
   intro hm
   obtain ⟨h1, h2⟩ := ih (by omega)
   have hlt : m < l.length := by omega
   have hd : l.toArray[m]! = l[m] := by simp [hlt]
   have ht : l.take (m + 1) = l.take m ++ [l[m]] := by rw [List.take_add_one]; simp [hlt]
   rw [Go.Lib.compactUpTo_succ, ht]
   by_cases hk : Go.Lib.keeps l.toArray m = true
   ·rw [if_pos hk, hd]
    refine ⟨List.pairwise_append.2 ⟨h1, by simp, fun a ha b hb => ?_⟩, fun x => by rw [List.mem_append, List.mem_append, h2]⟩
    simp only [List.mem_singleton] at hb
    subst hb
    have ha' := (h2 a).1 ha
    obtain ⟨i, hi, rfl⟩ := List.mem_iff_getElem.1 ha'
    rw [List.length_take] at hi
    rw [List.getElem_take]
    simp only [Go.Lib.keeps, decide_eq_true_eq] at hk
    rcases hk with hk | hk
    ·omega
    ·have hm1 : l.toArray[m - 1]! = l[m - 1] := by simp [show m - 1 < l.length by omega]
     rw [hd, hm1] at hk
     have e1 : l[m - 1] ≤ l[m] := List.pairwise_iff_getElem.1 hs (m - 1) m (by omega) hlt (by omega)
     have e2 : l[i] ≤ l[m - 1] := by
      rcases Nat.lt_or_ge i (m - 1) with c | c
      ·exact List.pairwise_iff_getElem.1 hs i (m - 1) (by omega) (by omega) c
      ·have : i = m - 1 := by omega
       subst this; exact Int.le_refl _
     omega
   ·rw [if_neg hk, List.append_nil]
    refine ⟨h1, fun x => ?_⟩
    rw [h2, List.mem_append]
    refine ⟨.inl, fun h => ?_⟩
    rcases h with h | h
    ·exact h
    ·simp only [List.mem_singleton] at h
     subst h
     have hm0 : m ≠ 0 := fun e => hk (by simp [Go.Lib.keeps, e])
     have hm1 : l.toArray[m - 1]! = l[m - 1] := by simp [show m - 1 < l.length by omega]
     have he : l[m] = l[m - 1] := by
      simp only [Go.Lib.keeps, decide_eq_true_eq, not_or] at hk
      have h3 : l.toArray[m]! = l.toArray[m - 1]! := Classical.not_not.1 (fun h => hk.2 h)
      rw [hd, hm1] at h3; exact h3
     rw [he, List.mem_take_iff_getElem]
     exact ⟨m - 1, by omega, rfl⟩
 obtain ⟨h1, h2⟩ := key l.length (Nat.le_refl _)
 refine ⟨?_, fun x => ?_⟩
 ·simpa [Y3, Go.Lib.compact] using h1
 ·have := h2 x
  rw [List.take_length] at this
  simpa [Y3, Go.Lib.compact] using this
theorem srt_spec (l : List Int) : (srt l).Pairwise (· ≤ ·) ∧ ∀ x, x ∈ srt l ↔ x ∈ l := by
 refine ⟨?_, fun x => by simp [srt]⟩
 have := List.pairwise_mergeSort (le := fun x y : Int => decide (x ≤ y)) (fun a b c h1 h2 => by simp at h1 h2 ⊢; omega) (fun a b => by simp; omega) l
 refine this.imp fun h => by simpa using h
theorem sortL_eq {l : List Int} (h : l.length < 4611686018427387904) : sortL l = some (srt l) := by rw [sortL, if_pos h]
theorem update_inc {s add del : List Int} (hd : Inc del) (hl : del.length ≤ 500000) (h1 : s.length ≤ 500000) (h2 : add.length ≤ 500000) :
  ∃ r, H1 s add del = some r ∧ Inc r ∧ ∀ x, x ∈ r ↔ (x ∈ s ∧ x ∉ del) ∨ x ∈ add := by
 unfold H1
 rw [forR_filter (l := s) (b := 8) (fun a => a ∉ del) (fun j a c h => by
  obtain ⟨i, hi⟩ := bsearch2 hd hl a
  unfold X9
  rw [h]
  simp only [ob, hi, q7]
  refine ⟨fun hq => ?_, fun hq => ?_⟩
  ·rw [if_pos (k7 hq)]
   cases app 8 c [a] <;> rfl
  ·rw [if_neg (by simpa using hq)]; rfl) [] (by simp; omega)]
 simp only [ob, List.nil_append]
 have hle : (s.filter fun a => dec (a ∉ del)).length ≤ s.length := List.length_filter_le _ _
 rw [show app 8 (s.filter fun a => dec (a ∉ del)) add = some ((s.filter fun a => dec (a ∉ del)) ++ add) by rw [app, if_pos]; omega]
 simp only [ob]
 rw [sortL_eq (by rw [List.length_append]; omega)]
 simp only [ob]
 obtain ⟨e1, e2⟩ := srt_spec ((s.filter fun a => dec (a ∉ del)) ++ add)
 obtain ⟨e3, e4⟩ := compact_spec e1
 refine ⟨_, rfl, e3, fun x => ?_⟩
 rw [e4, e2, List.mem_append, List.mem_filter, l4]
theorem update_eq {s add del : List Int} {n : Int} (hn : n ≤ 1000) (hd : Inc del) (hl : del.length ≤ 500000) (hs : SetN s n) (ha : SetN add n) :
  H1 s add del = some (M8 (fun x => (x ∈ s ∧ x ∉ del) ∨ x ∈ add) n) := by
 have h1 := hs.len; have h2 := ha.len
 obtain ⟨r, e1, e2, e3⟩ := update_inc (s := s) (add := add) hd hl (by omega) (by omega)
 rw [e1, SetN.eq_of (n := n) ⟨e2, fun x hx => ?_⟩ (fun x _ _ => e3 x)]
 rcases (e3 x).1 hx with h | h
 ·exact hs.2 x h.1
 ·exact ha.2 x h
end Ab
end
section
namespace Ab
open Go
theorem fault_no {f : l6} (h : f.code ≠ 0) : (!((decide (f.code = 0)) && (decide (f.index = 0)))) = true := by simp [h]
theorem aj8 {s : List Int} (h : s.length ≤ 1000000) : w7 s = some s := by
 rw [w7, app, if_pos (by simp; omega)]; rfl
end Ab
end
section
namespace Ab
open Go
theorem setN1 (a : Int) {n : Int} (h0 : 0 ≤ a) (h1 : a < n) : SetN [a] n := ⟨by simp, by simp [h0, h1]⟩
theorem subL_drop {α : Type} {l : List α} {i : Int} (h0 : 0 ≤ i) (h1 : i ≤ l.length) : subL l i (l.length : Int) = some (l.drop i.toNat) := by
 rw [subL, if_pos (by omega)]
 rw [show ((l.length : Int)).toNat = l.length by omega, List.take_length]
theorem subL_take {α : Type} {l : List α} {i : Int} (h0 : 0 ≤ i) (h1 : i ≤ l.length) : subL l 0 i = some (l.take i.toNat) := by
 rw [subL, if_pos (by omega)]; rfl
end Ab
end
section
namespace Ab
open Go
def llt : List Int → List Int → Prop
 | [], [] => False
 | [], _ :: _ => True
 | _ :: _, [] => False
 | a :: l, b :: m => a < b ∨ a = b ∧ llt l m
theorem F8 : ∀ l : List Int, ¬ llt l l
 | [] => id
 | a :: l => fun h => by
  rcases h with h | ⟨_, h⟩
  ·omega
  ·exact F8 l h
theorem C5 : ∀ {a b c : List Int}, llt a b → llt b c → llt a c
 | [], [], _, h, _ => h.elim
 | [], _ :: _, [], _, h => h.elim
 | [], _ :: _, _ :: _, _, _ => trivial
 | _ :: _, [], _, h, _ => h.elim
 | _ :: _, _ :: _, [], _, h => h.elim
 | x :: a, y :: b, z :: c, h, g => by
  rcases h with h | ⟨rfl, h⟩ <;> rcases g with g | ⟨rfl, g⟩
  ·exact .inl (by omega)
  ·exact .inl h
  ·exact .inl g
  ·exact .inr ⟨rfl, C5 h g⟩
theorem O6 : ∀ a b : List Int, llt a b ∨ a = b ∨ llt b a
 | [], [] => .inr (.inl rfl)
 | [], _ :: _ => .inl trivial
 | _ :: _, [] => .inr (.inr trivial)
 | x :: a, y :: b => by
  rcases Int.lt_trichotomy x y with h | rfl | h
  ·exact .inl (.inl h)
  ·rcases O6 a b with h | rfl | h
   ·exact .inl (.inr ⟨rfl, h⟩)
   ·exact .inr (.inl rfl)
   ·exact .inr (.inr (.inr ⟨rfl, h⟩))
  ·exact .inr (.inr (.inl h))
theorem llt_asymm {a b : List Int} (h : llt a b) (g : llt b a) : False := F8 a (C5 h g)
noncomputable def cmpL (a b : List Int) : Int := if dec (llt a b) = true then -1 else if dec (a = b) = true then 0 else 1
theorem N9 {a b : List Int} : cmpL a b < 0 ↔ llt a b := by
 unfold cmpL
 by_cases h : llt a b
 ·rw [ifP h]; simp [h]
 ·rw [ifN h]
  split <;> simp [h]
theorem cmpL_eq {a b : List Int} : cmpL a b = 0 ↔ a = b := by
 unfold cmpL
 by_cases h : llt a b
 ·rw [ifP h]
  constructor
  ·intro e; omega
  ·rintro rfl; exact absurd h (F8 _)
 ·rw [ifN h]
  by_cases g : a = b
  ·rw [ifP g]; simp [g]
  ·rw [ifN g]; simp [g]
theorem cmpL_ge {a b : List Int} : 0 ≤ cmpL a b ↔ ¬ llt a b := by rw [← N9]; omega
theorem cmpInt_eq (x y : Int) : M2 x y = some (if x < y then -1 else if y < x then 1 else 0) := by
 unfold M2 E1
 simp only [decide_true, Bool.not_true, ob, Bool.false_eq_true, if_false]
 split
 ·rfl
 ·split <;> rfl
theorem ak3 : ∀ {a b : List Int} (k : Nat), k ≤ a.length → k ≤ b.length → a.take k = b.take k → (llt a b ↔ llt (a.drop k) (b.drop k))
 | _, _, 0, _, _, _ => by simp
 | [], _, k + 1, h, _, _ => by simp at h
 | _ :: _, [], k + 1, _, h, _ => by simp at h
 | x :: a, y :: b, k + 1, h1, h2, h3 => by
  simp only [List.take_succ_cons, List.cons.injEq] at h3
  obtain ⟨rfl, h3⟩ := h3
  simp only [List.drop_succ_cons]
  rw [← ak3 k (by simpa using h1) (by simpa using h2) h3]
  simp [llt]
theorem ab3 (a b : List Int) : slices_Compare_int_int a b = some (cmpL a b) := by
 unfold slices_Compare_int_int
 rcases Y0 (body := D0 a b) (n := (a.length : Int)) (s := ()) (fun j _ => j ≤ b.length ∧ a.take j.toNat = b.take j.toNat) (fun o => o = cmpL a b) (by omega) ⟨by omega, by simp⟩ (fun j _ j0 j1 ⟨k1, k2⟩ => by
  obtain ⟨x, hx, gx⟩ := i7 (l := a) j0 j1
  have hxl := (List.getElem?_eq_some_iff.1 gx).2
  unfold D0
  rw [hx]
  simp only [ob]
  have hd := ak3 (a := a) (b := b) j.toNat (by omega) (by omega) k2
  have da : a.drop j.toNat = x :: a.drop (j.toNat + 1) := by rw [← hxl]; exact List.drop_eq_getElem_cons (by omega)
  by_cases c : (b.length : Int) ≤ j
  ·rw [if_pos c]
   refine .inr ⟨_, rfl, ?_⟩
   have db : b.drop j.toNat = [] := List.drop_of_length_le (by omega)
   rw [da, db] at hd
   unfold cmpL
   rw [ifN (fun h => (hd.1 h).elim), ifN]
   rintro rfl; omega
  ·rw [if_neg c]
   obtain ⟨y, hy, gy⟩ := i7 (l := b) (i := j) j0 (by omega)
   have hyl := (List.getElem?_eq_some_iff.1 gy).2
   have db : b.drop j.toNat = y :: b.drop (j.toNat + 1) := by rw [← hyl]; exact List.drop_eq_getElem_cons (by omega)
   rw [hy]
   simp only [ob, cmpInt_eq]
   rw [da, db] at hd
   have hne : x ≠ y → a ≠ b := fun h e => by subst e; rw [hx] at hy; cases hy; exact h rfl
   rcases Int.lt_trichotomy x y with h | rfl | h
   ·rw [if_pos h, if_neg (by decide)]
    refine .inr ⟨_, rfl, ?_⟩
    unfold cmpL
    rw [ifP (hd.2 (.inl h))]
   ·simp only [Int.lt_irrefl, if_false, if_true]
    refine .inl ⟨(), trivial, by omega, ?_⟩
    rw [show (j + 1).toNat = j.toNat + 1 by omega, List.take_add_one, List.take_add_one, gx, gy, k2]
   ·rw [if_neg (show ¬ x < y by omega), if_pos h, if_neg (by decide)]
    refine .inr ⟨_, rfl, ?_⟩
    unfold cmpL
    rw [ifN, ifN (hne (by omega))]
    intro g
    rcases hd.1 g with g | ⟨g, _⟩ <;> omega) with ⟨_, r1, r2, r3⟩ | ⟨o, r1, rfl⟩
 ·rw [r1]
  simp only [ob]
  have hd := ak3 (a := a) (b := b) a.length (Nat.le_refl _) (by omega) (by simpa using r3)
  have da : a.drop a.length = [] := by simp
  rw [da] at hd
  have e3 : a = b.take a.length := by simpa using r3
  by_cases c : (a.length : Int) < b.length
  ·rw [if_pos c]
   have : b.drop a.length ≠ [] := by simp; omega
   unfold cmpL
   rw [ifP]
   rw [hd]
   cases h : b.drop a.length with
   | nil => exact absurd h this
   | cons x l => trivial
  ·rw [if_neg c]
   have : a = b := by rw [e3, List.take_of_length_le (by omega)]
   rw [cmpL_eq.2 this]
 ·rw [r1]; rfl
theorem cmp_ok : CmpOk slices_Compare_int_int cmpL := by
 refine ⟨ab3, ⟨fun x => ?_, fun x y z h1 h2 => ?_, fun x y z h1 h2 => ?_⟩, fun a b h1 h2 => ?_⟩
 ·simp only [Go.Proofs.ltOf, decide_eq_false_iff_not, N9]
  exact F8 x
 ·simp only [Go.Proofs.ltOf, decide_eq_true_eq, N9] at h1 h2 ⊢
  exact C5 h1 h2
 ·simp only [Go.Proofs.ltOf, decide_eq_false_iff_not, N9] at h1 h2 ⊢
  intro h
  rcases O6 x y with g | rfl | g
  ·exact h1 g
  ·exact h2 h
  ·exact h2 (C5 g h)
 ·rw [N9] at h1 h2
  rcases O6 a b with g | g | g
  ·exact absurd g h1
  ·exact g
  ·exact absurd g h2
/-! ### Lists compared -/
theorem listEq {α : Type} {a b : List α} {body : Int → Unit → Option (Unit ⊕ Bool)} (hl : a.length = b.length) (hb : ∀ j x y, ix a j = some x → ix b j = some y → (x = y ∧ body j () = some (.inl ())) ∨ (x ≠ y ∧ body j () = some (.inr false))) :
  (Option.bind (rngX 0 (a.length : Int) body ()) fun | .inl _ => some true | .inr x => some x) = some (dec (a = b)) := by
 rcases u4 (body := body) (n := (a.length : Int)) (fun j => if dec (ix a j = ix b j) = true then none else some false) (by omega) (fun j h0 h1 _ => by
  obtain ⟨x, hx, _⟩ := i7 (l := a) h0 h1
  obtain ⟨y, hy, _⟩ := i7 (l := b) (i := j) h0 (by omega)
  rcases hb j x y hx hy with ⟨e, h⟩ | ⟨e, h⟩
  ·rw [h, ifP (by rw [hx, hy, e])]
  ·rw [h, ifN (by rw [hx, hy]; simpa using e)]) with ⟨h1, h2⟩ | ⟨j, o, h0, h1, h2, _, h4⟩
 ·rw [h1, k7]
  ·rfl
  ·refine List.ext_getElem? fun k => ?_
   by_cases hk : k < a.length
   ·have := h2 k (by omega) (by omega)
    split at this
    ·rename_i e
     have := l4.1 e
     rwa [T1, T1] at this
    ·cases this
   ·rw [List.getElem?_eq_none (by omega), List.getElem?_eq_none (by omega)]
 ·rw [h4]
  split at h2
  ·cases h2
  ·rename_i e
   cases h2
   rw [o6 (fun h => e (k7 (by rw [h])))]; rfl
theorem ints_eq (a b : List Int) : I2 a b = some (dec (a = b)) := by
 unfold I2
 by_cases hl : (a.length : Int) = b.length
 ·rw [if_pos hl]
  refine listEq (by omega) fun j x y hx hy => ?_
  unfold ag5
  simp only [hx, hy, ob]
  by_cases e : x = y
  ·rw [if_pos e]; exact .inl ⟨e, rfl⟩
  ·rw [if_neg e]; exact .inr ⟨e, rfl⟩
 ·rw [if_neg hl, o6 (fun h => hl (by rw [h]))]
theorem equal_eq (a b : List Int) : w8 a b = some (dec (a = b)) := by
 unfold w8
 by_cases hl : (a.length : Int) = b.length
 ·rw [if_pos hl]
  refine listEq (by omega) fun j x y hx hy => ?_
  unfold J9
  simp only [hx, hy, ob]
  by_cases e : x = y
  ·rw [if_pos e]; exact .inl ⟨e, rfl⟩
  ·rw [if_neg e]; exact .inr ⟨e, rfl⟩
 ·rw [if_neg hl, o6 (fun h => hl (by rw [h]))]
theorem ak1 (l : LL) (s : List Int) : ∃ r, B2 l s = some r ∧ ((r = -1 ∧ s ∉ l) ∨ (0 ≤ r ∧ r < l.length ∧ ix l r = some s ∧ ∀ j, 0 ≤ j → j < r → ix l j ≠ some s)) := by
 unfold B2
 rcases u4 (body := W9 l s) (n := (l.length : Int)) (fun j => if dec (ix l j = some s) = true then some j else none) (by omega) (fun j h0 h1 _ => by
  obtain ⟨x, hx, _⟩ := i7 (l := l) h0 h1
  unfold W9
  simp only [hx, ob, ints_eq]
  by_cases e : x = s
  ·rw [ifP e, ifP (by rw [e])]
  ·rw [ifN e, ifN (by simpa using e)]) with ⟨h1, h2⟩ | ⟨j, o, h0, h1, h2, h3, h4⟩
 ·rw [h1]
  refine ⟨-1, rfl, .inl ⟨rfl, fun hs => ?_⟩⟩
  obtain ⟨i, i0, i1, hi⟩ := k9 hs
  have := h2 i i0 i1
  rw [ifP hi] at this
  cases this
 ·rw [h4]
  split at h2
  ·rename_i e
   cases h2
   refine ⟨_, rfl, .inr ⟨h0, h1, l4.1 e, fun i i0 i1 => ?_⟩⟩
   have := h3 i i0 i1
   split at this
   ·cases this
   ·rename_i e
    exact fun h => e (k7 h)
  ·cases h2
/-! ### Ordered lists -/
abbrev Ord (l : LL) : Prop := l.Pairwise llt
theorem Ord.ext : ∀ {l m : LL}, Ord l → Ord m → (∀ x, x ∈ l ↔ x ∈ m) → l = m
 | [], [], _, _, _ => rfl
 | [], b :: m, _, _, h => absurd ((h b).2 (by simp)) (by simp)
 | a :: l, [], _, _, h => absurd ((h a).1 (by simp)) (by simp)
 | a :: l, b :: m, hl, hm, h => by
  obtain ⟨l1, l2⟩ := List.pairwise_cons.1 hl
  obtain ⟨m1, m2⟩ := List.pairwise_cons.1 hm
  have hab : a = b := by
   rcases List.mem_cons.1 ((h a).1 (by simp)) with e | e
   ·exact e
   ·rcases List.mem_cons.1 ((h b).2 (by simp)) with e' | e'
    ·exact e'.symm
    ·exact (llt_asymm (l1 b e') (m1 a e)).elim
  subst hab
  rw [Ord.ext l2 m2 fun x => ⟨fun hx => ?_, fun hx => ?_⟩]
  ·rcases List.mem_cons.1 ((h x).1 (by simp [hx])) with e | e
   ·subst e; exact absurd (l1 x hx) (F8 x)
   ·exact e
  ·rcases List.mem_cons.1 ((h x).2 (by simp [hx])) with e | e
   ·subst e; exact absurd (m1 x hx) (F8 x)
   ·exact e
theorem Ord.get {l : LL} (h : Ord l) {i j : Int} {a b : List Int} (hi : ix l i = some a) (hj : ix l j = some b) (hij : i < j) : llt a b := by
 obtain ⟨i0, i1, hi⟩ := j7 hi
 obtain ⟨j0, j1, hj⟩ := j7 hj
 obtain ⟨h1, rfl⟩ := List.getElem?_eq_some_iff.1 hi
 obtain ⟨h2, rfl⟩ := List.getElem?_eq_some_iff.1 hj
 exact List.pairwise_iff_getElem.1 h _ _ h1 h2 (by omega)
theorem Ord.inj {l : LL} (h : Ord l) {i j : Int} {a : List Int} (hi : ix l i = some a) (hj : ix l j = some a) : i = j := by
 rcases Int.lt_trichotomy i j with e | e | e
 ·exact absurd (h.get hi hj e) (F8 a)
 ·exact e
 ·exact absurd (h.get hj hi e) (F8 a)
def ddN (l : LL) : Nat → LL
 | 0 => []
 | m + 1 => ddN l m ++ if decide (m = 0 ∨ l[m]? ≠ l[m - 1]?) = true then l[m]?.toList else []
theorem ddN_spec {l : LL} (hs : l.Pairwise fun a b => ¬ llt b a) : ∀ m, m ≤ l.length → Ord (ddN l m) ∧ ∀ x, x ∈ ddN l m ↔ x ∈ l.take m := by
 intro m
 induction m with
 | zero => intro _; simp [ddN]
 | succ m ih =>
  intro hm
  obtain ⟨h1, h2⟩ := ih (by omega)
  have hlt : m < l.length := by omega
  have ht : l.take (m + 1) = l.take m ++ [l[m]] := by rw [List.take_add_one]; simp [hlt]
  rw [ddN, ht]
  by_cases hk : m = 0 ∨ l[m]? ≠ l[m - 1]?
  ·rw [if_pos (by simpa using hk)]
   simp only [List.getElem?_eq_getElem hlt, Option.toList_some]
   refine ⟨List.pairwise_append.2 ⟨h1, by simp, fun a ha b hb => ?_⟩, fun x => by rw [List.mem_append, List.mem_append, h2]⟩
   simp only [List.mem_singleton] at hb
   subst hb
   have ha' := (h2 a).1 ha
   obtain ⟨i, hi, rfl⟩ := List.mem_iff_getElem.1 ha'
   rw [List.length_take] at hi
   rw [List.getElem_take]
   rcases hk with hk | hk
   ·omega
   ·have hm1 : m - 1 < l.length := by omega
    rw [List.getElem?_eq_getElem hlt, List.getElem?_eq_getElem hm1] at hk
    have e1 : ¬ llt l[m] l[m - 1] := List.pairwise_iff_getElem.1 hs (m - 1) m hm1 hlt (by omega)
    have e2 : llt l[m - 1] l[m] := by
     rcases O6 l[m - 1] l[m] with h | h | h
     ·exact h
     ·exact absurd (by rw [h]) hk
     ·exact absurd h e1
    by_cases hi2 : i = m - 1
    ·subst hi2; exact e2
    ·have e3 : ¬ llt l[m - 1] l[i] := List.pairwise_iff_getElem.1 hs i (m - 1) (by omega) hm1 (by omega)
     rcases O6 l[i] l[m] with h | h | h
     ·exact h
     ·rw [h] at e3; exact absurd e2 e3
     ·exact absurd (C5 e2 h) e3
  ·rw [if_neg (by simpa using hk), List.append_nil]
   refine ⟨h1, fun x => ?_⟩
   rw [h2, List.mem_append]
   refine ⟨.inl, fun h => ?_⟩
   rcases h with h | h
   ·exact h
   ·simp only [List.mem_singleton] at h
    subst h
    have hm0 : m ≠ 0 := fun e => hk (.inl e)
    have he : l[m]? = l[m - 1]? := Classical.not_not.1 fun e => hk (.inr e)
    rw [List.getElem?_eq_getElem hlt, List.getElem?_eq_getElem (show m - 1 < l.length by omega)] at he
    rw [Option.some.inj he, List.mem_take_iff_getElem]
    exact ⟨m - 1, by omega, rfl⟩
theorem ddN_len (l : LL) : ∀ m, (ddN l m).length ≤ m
 | 0 => by simp [ddN]
 | m + 1 => by
  have := ddN_len l m
  rw [ddN, List.length_append]
  split
  ·have : (l[m]?.toList).length ≤ 1 := by cases l[m]? <;> simp
   omega
  ·simp; omega
theorem ddN_all {l : LL} : ∀ m, m ≤ l.length → (∀ i, 0 < i → i < m → l[i]? ≠ l[i - 1]?) → ddN l m = l.take m
 | 0, _, _ => by simp [ddN]
 | m + 1, hm, h => by
  rw [ddN, ddN_all m (by omega) fun i h0 h1 => h i h0 (by omega), if_pos, List.take_add_one]
  rw [decide_eq_true_eq]
  by_cases e : m = 0
  ·exact .inl e
  ·exact .inr (h m (by omega) (by omega))
theorem compactF_eq {l : LL} (hl : l.length ≤ 1000000) : u6 l = some (ddN l l.length) := by
 unfold u6
 by_cases c0 : (l.length : Int) < 2
 ·rw [if_pos c0, ddN_all l.length (Nat.le_refl _) fun i h0 h1 => by omega, List.take_length]
 ·rw [if_neg c0]
  have key := rngN_inv (body := o8 l) (fun j _ => ∀ i : Nat, 0 < i → (i : Int) < j → l[i]? ≠ l[i - 1]?) (fun o => o = ddN l l.length) ((l.length : Int) - 1).toNat 1 () (fun i h0 h1 => by omega) (fun j _ j0 j1 hP => by
   obtain ⟨a, ha, ga⟩ := i7 (l := l) (i := j) (by omega) (by omega)
   obtain ⟨b, hb, gb⟩ := i7 (l := l) (i := j - 1) (by omega) (by omega)
   unfold o8
   simp only [ha, hb, ob, equal_eq]
   have ej : (j - 1).toNat = j.toNat - 1 := by omega
   rw [ej] at gb
   by_cases c : a = b
   ·rw [ifP c]
    subst c
    right
    rw [show cutV (l.length : Int) j (l.length : Int) = some () by rw [cutV, if_pos (by omega)]]
    simp only [ob]
    obtain ⟨⟨cs, kv⟩, r1, r2, r3, r4, r5, r6⟩ := forN_inv (body := r7 l j) (fun k2 p => p.1.length = l.length ∧ j ≤ p.2 ∧ p.2 ≤ j + k2 - 1 ∧ p.1.take p.2.toNat = ddN l (j + k2).toNat ∧ ∀ i : Nat, j + k2 - 1 ≤ i → p.1[i]? = l[i]?) ((l.length : Int) - j - 1).toNat 1 (l, j) ⟨rfl, by simp, by dsimp only; omega, by
      dsimp only
      rw [show (j + 1).toNat = j.toNat + 1 by omega, ddN, if_neg, List.append_nil, ddN_all j.toNat (by omega) fun i h0 h1 => hP i h0 (by omega)]
      rw [decide_eq_true_eq]
      rintro (h | h)
      ·omega
      ·exact h (ga.trans gb.symm), fun i _ => rfl⟩ (fun k2 ⟨cs, kv⟩ k0 k1 ⟨g1, g2, g3, g4, g5⟩ => by
      dsimp only at g1 g2 g3 g4 g5 ⊢
      obtain ⟨x, hx, gx⟩ := i7 (l := l) (i := j + k2) (by omega) (by omega)
      obtain ⟨y, hy, gy⟩ := i7 (l := l) (i := j + k2 - 1) (by omega) (by omega)
      have iv : ∀ i : Int, 0 ≤ i → i < (l.length : Int) - j → ixV cs (0 + j) ((l.length : Int) - j) i = ix cs (j + i) := fun i h0 h1 => by
       rw [ixV, if_pos (by omega), Int.zero_add]
      have same : ∀ i : Int, j + k2 - 1 ≤ i → ix cs i = ix l i := fun i hi => by
       have := g5 i.toNat (by omega)
       simp only [ix]
       rw [this]
      unfold r7
      dsimp only
      rw [iv k2 (by omega) (by omega), iv (k2 - 1) (by omega) (by omega), show j + (k2 - 1) = j + k2 - 1 by omega, same _ (by omega), same _ (by omega), hx, hy]
      simp only [ob, equal_eq, q7]
      have ek : (j + (k2 + 1)).toNat = (j + k2).toNat + 1 := by omega
      have ek1 : (j + k2 - 1).toNat = (j + k2).toNat - 1 := by omega
      rw [ek1] at gy
      by_cases cx : x = y
      ·rw [ifNN cx]
       refine ⟨_, rfl, g1, g2, by omega, ?_, fun i hi => g5 i (by omega)⟩
       dsimp only
       rw [ek, ddN, if_neg, List.append_nil]
       ·exact g4
       ·rw [decide_eq_true_eq]
        rintro (h | h)
        ·omega
        ·exact h (by rw [gx, gy, cx])
      ·rw [ifP cx]
       obtain ⟨z, hz, gz⟩ := i7 (l := cs) (i := kv) (by omega) (by omega)
       simp only [hz, ob]
       rw [s5 (by omega) (by omega)]
       refine ⟨_, rfl, by rw [List.length_set]; exact g1, by omega, by omega, ?_, fun i hi => ?_⟩
       ·dsimp only
        rw [ek, ddN, if_pos, gx, show (kv + 1).toNat = kv.toNat + 1 by omega, List.take_add_one, List.getElem?_set, if_pos rfl, if_pos (by omega), List.take_set_of_le (Nat.le_refl _), g4]
        rw [decide_eq_true_eq]
        exact .inr (by rw [gx, gy]; simpa using cx)
       ·dsimp only
        rw [List.getElem?_set, if_neg (by omega)]
        exact g5 i (by omega))
    have ef : forR 1 ((l.length : Int) - j) (r7 l j) (l, j) = some (cs, kv) := r1
    dsimp only at r2 r3 r4 r5 r6
    rw [ef]
    simp only [ob]
    have hcl : (clrL cs (0 + kv) ((cs.length : Int) - kv) []).length = cs.length := by simp [clrL]; omega
    rw [show cutV (cs.length : Int) kv (cs.length : Int) = some () by rw [cutV, if_pos (by omega)]]
    simp only [ob, hcl]
    rw [show cutV (cs.length : Int) 0 kv = some () by rw [cutV, if_pos (by omega)]]
    refine ⟨_, rfl, ?_⟩
    have e1 : y7 (clrL cs (0 + kv) ((cs.length : Int) - kv) []) 0 kv = cs.take kv.toNat := by
     simp only [y7, clrL, Int.zero_add, Int.toNat_zero, List.drop_zero]
     rw [List.append_assoc, List.take_append_of_le_length (by simp; omega), List.take_take, Nat.min_self]
    rw [e1, r5]
    congr 1
    omega
   ·rw [ifN c]
    left
    refine ⟨(), rfl, fun i h0 h1 => ?_⟩
    by_cases e : (i : Int) = j
    ·have : i = j.toNat := by omega
     subst this
     rw [ga, gb]
     simpa using c
    ·exact hP i h0 (by omega))
  rcases key with ⟨_, h1, h2⟩ | ⟨o, h1, rfl⟩
  ·have : rngX 1 (l.length : Int) (o8 l) () = some (.inl ()) := h1
   rw [this]
   simp only [ob]
   rw [ddN_all l.length (Nat.le_refl _) fun i h0 h1 => h2 i h0 (by omega), List.take_length]
  ·have : rngX 1 (l.length : Int) (o8 l) () = some (.inr (ddN l l.length)) := h1
   rw [this]; rfl
theorem ai3 {l : LL} (hl : l.length ≤ 1000000) : ∃ r, D3 l = some r ∧ Ord r ∧ (∀ x, x ∈ r ↔ x ∈ l) ∧ r.length ≤ l.length := by
 unfold D3
 rw [sortFL_eq (by omega) cmp_ok]
 simp only [ob]
 have hlen : (l.mergeSort fun x y => decide (¬ cmpL y x < 0)).length = l.length := by simp
 rw [compactF_eq (by rw [hlen]; exact hl)]
 have hs : (l.mergeSort fun x y => decide (¬ cmpL y x < 0)).Pairwise fun a b => ¬ llt b a := by
  have := List.pairwise_mergeSort (le := fun x y : List Int => decide (¬ cmpL y x < 0)) (fun a b c h1 h2 => by
   simp only [decide_eq_true_eq, N9] at h1 h2 ⊢
   intro h
   rcases O6 b a with g | g | g
   ·exact h1 g
   ·subst g; exact h2 h
   ·exact h2 (C5 h g)) (fun a b => by
   simp only [Bool.or_eq_true, decide_eq_true_eq, N9]
   by_cases h : llt b a
   ·exact .inr fun g => llt_asymm h g
   ·exact .inl h) l
  exact this.imp fun h => by simpa [N9] using h
 obtain ⟨h1, h2⟩ := ddN_spec hs _ (Nat.le_refl _)
 refine ⟨_, rfl, h1, fun x => ?_, ?_⟩
 ·rw [h2, List.take_length]; simp
 ·have := ddN_len (l.mergeSort fun x y => decide (¬ cmpL y x < 0)) (l.mergeSort fun x y => decide (¬ cmpL y x < 0)).length
  rw [hlen] at this
  rw [hlen]; exact this
end Ab
end
section
namespace Ab
open Go
theorem forN_congr {S : Type} {b1 b2 : Int → S → Option S} : ∀ (k : Nat) (i : Int) (s : S), (∀ j s, i ≤ j → j < i + k → b1 j s = b2 j s) → forN b1 k i s = forN b2 k i s
 | 0, _, _, _ => rfl
 | k + 1, i, s, h => by
  simp only [forN]
  rw [h i s (by omega) (by omega)]
  cases b2 i s with
  | none => rfl
  | some s' => exact forN_congr k (i + 1) s' fun j s g1 g2 => h j s (by omega) (by omega)
theorem forR_congr {S : Type} {b1 b2 : Int → S → Option S} {lo n : Int} {s : S} (h : ∀ j s, lo ≤ j → j < n → b1 j s = b2 j s) : forR lo n b1 s = forR lo n b2 s :=
 forN_congr _ _ _ fun j s g1 g2 => h j s g1 (by omega)
/-! ### Binary search by a key -/
def bsl {A B : Type} (xv : List A) (target : B) (cmp : A → B → Option Int) : (Int × Int) → Option ((Int × Int) ⊕ Int) := fun (iv4, j5) => if iv4 < j5 then Option.bind (ix xv (w64 (shrW .u64 ((IntKind.u64).wrap (w64 (iv4 + j5))) 1))) fun a27 => Option.bind (cmp a27 target) fun a30 => if a30 < 0 then some (.inl (w64 ((w64 (shrW .u64 ((IntKind.u64).wrap (w64 (iv4 + j5))) 1)) + 1), j5)) else some (.inl (iv4, w64 (shrW .u64 ((IntKind.u64).wrap (w64 (iv4 + j5))) 1))) else some (.inr iv4)
noncomputable def bsf {A B : Type} (xv : List A) (target : B) (cmp : A → B → Option Int) : Option (Int × Bool) := Option.bind (Loop (bsl xv target cmp) (0, (xv.length : Int))) fun iv6 => Option.bind (if iv6 < (xv.length : Int) then Option.bind (ix xv iv6) fun a43 => Option.bind (cmp a43 target) fun a46 => some (decide (a46 = 0)) else some false) fun t9 => some (iv6, t9)
theorem aa5 {A : Type} {key : A → List Int} {xs : List A} (h : Ord (xs.map key)) {i j : Int} {a b : A} (hi : ix xs i = some a) (hj : ix xs j = some b) (hij : i < j) : llt (key a) (key b) := by
 obtain ⟨i0, i1, hi⟩ := j7 hi
 obtain ⟨j0, j1, hj⟩ := j7 hj
 refine h.get (i := i) (j := j) ?_ ?_ hij
 ·rw [ix, if_pos i0, List.getElem?_map, hi]; rfl
 ·rw [ix, if_pos j0, List.getElem?_map, hj]; rfl
theorem bsf_full {A : Type} {key : A → List Int} {xs : List A} {t : List Int} {cmp : A → List Int → Option Int} (hs : Ord (xs.map key)) (hl : xs.length ≤ 500000) (hc : ∀ a, cmp a t = some (cmpL (key a) t)) :
  ∃ i, bsf xs t cmp = some (i, dec (∃ a ∈ xs, key a = t)) ∧ 0 ≤ i ∧ (∀ k a, ix xs k = some a → key a = t → k = i) ∧ i ≤ xs.length ∧ (∀ k a, 0 ≤ k → k < i → ix xs k = some a → llt (key a) t) ∧ (∀ k a, i ≤ k → ix xs k = some a → ¬ llt (key a) t) := by
 unfold bsf
 obtain ⟨i, h1, h2, h3, h4, h5⟩ := A6 (body := bsl xs t cmp) (fun p => (0 ≤ p.1 ∧ p.1 ≤ p.2 ∧ p.2 ≤ xs.length) ∧ (∀ k a, 0 ≤ k → k < p.1 → ix xs k = some a → llt (key a) t) ∧ (∀ k a, p.2 ≤ k → ix xs k = some a → ¬ llt (key a) t))
  (fun i => 0 ≤ i ∧ i ≤ xs.length ∧ (∀ k a, 0 ≤ k → k < i → ix xs k = some a → llt (key a) t) ∧ (∀ k a, i ≤ k → ix xs k = some a → ¬ llt (key a) t)) (fun p => (p.2 - p.1).toNat) (s := (0, (xs.length : Int)))
  ⟨⟨by simp, by simp, by simp⟩, fun k a h1 h2 => by simp at h2; omega, fun k a h1 h2 => by have := (j7 h2).2.1; simp at h1; omega⟩ (fun ⟨i, j⟩ ⟨⟨g1, g2, g3⟩, g4, g5⟩ => by
  dsimp only at g1 g2 g3 g4 g5 ⊢
  unfold bsl
  dsimp only
  by_cases c : i < j
  ·rw [if_pos c, half_eq g1 g2 (by omega)]
   obtain ⟨a, ha, ga⟩ := i7 (l := xs) (i := (i + j) / 2) (by omega) (by omega)
   rw [ha]
   simp only [ob, hc, N9]
   by_cases c2 : llt (key a) t
   ·rw [if_pos (N9.2 c2), s5 (by omega) (by omega)]
    refine .inl ⟨_, rfl, ⟨⟨by dsimp only; omega, by dsimp only; omega, g3⟩, fun k b k0 k1 hb => ?_, g5⟩, by dsimp only; omega⟩
    dsimp only at k1
    by_cases e : k = (i + j) / 2
    ·subst e; rw [ha] at hb; cases hb; exact c2
    ·exact C5 (aa5 hs hb ha (by omega)) c2
   ·rw [if_neg (fun h => c2 (N9.1 h))]
    refine .inl ⟨_, rfl, ⟨⟨g1, by dsimp only; omega, by dsimp only; omega⟩, g4, fun k b k0 hb => ?_⟩, by dsimp only; omega⟩
    dsimp only at k0
    by_cases e : k = (i + j) / 2
    ·subst e; rw [ha] at hb; cases hb; exact c2
    ·exact fun h => c2 (C5 (aa5 hs ha hb (by omega)) h)
  ·rw [if_neg c]
   have : i = j := by omega
   subst this
   exact .inr ⟨i, rfl, g1, g3, g4, g5⟩)
 rw [h1]
 simp only [ob]
 have uniq : ∀ k a, ix xs k = some a → key a = t → k = i := fun k a hk he => by
  rcases Int.lt_trichotomy k i with c | c | c
  ·have := h4 k a (j7 hk).1 c hk; rw [he] at this; exact absurd this (F8 t)
  ·exact c
  ·obtain ⟨b, hb, gb⟩ := i7 (l := xs) (i := i) h2 (by have := (j7 hk).2.1; omega)
   have := aa5 hs hb hk c
   rw [he] at this
   exact absurd this (h5 i b (Int.le_refl _) hb)
 refine ⟨i, ?_, h2, uniq, h3, h4, h5⟩
 by_cases c : i < xs.length
 ·obtain ⟨a, ha, ga⟩ := i7 (l := xs) (i := i) (by omega) c
  rw [if_pos c, ha]
  simp only [ob, hc]
  by_cases c2 : key a = t
  ·rw [decide_eq_true (cmpL_eq.2 c2), k7 ⟨a, i8 ha, c2⟩]
  ·rw [decide_eq_false (fun h => c2 (cmpL_eq.1 h)), o6]
   rintro ⟨b, hb, e⟩
   obtain ⟨k, k0, k1, hk⟩ := k9 hb
   have := uniq k b hk e
   subst this
   rw [hk] at ha; cases ha; exact c2 e
 ·rw [if_neg c]
  simp only [ob]
  rw [o6]
  rintro ⟨b, hb, e⟩
  obtain ⟨k, k0, k1, hk⟩ := k9 hb
  have := uniq k b hk e
  omega
theorem bsf_eq {A : Type} {key : A → List Int} {xs : List A} {t : List Int} {cmp : A → List Int → Option Int} (hs : Ord (xs.map key)) (hl : xs.length ≤ 500000) (hc : ∀ a, cmp a t = some (cmpL (key a) t)) :
  ∃ i, bsf xs t cmp = some (i, dec (∃ a ∈ xs, key a = t)) ∧ 0 ≤ i ∧ ∀ k a, ix xs k = some a → key a = t → k = i := by
 obtain ⟨i, h1, h2, h3, _⟩ := bsf_full hs hl hc
 exact ⟨i, h1, h2, h3⟩
theorem bsets_eq {xs : LL} {t : List Int} (hs : Ord xs) (hl : xs.length ≤ 500000) : ∃ i, n7 xs t slices_Compare_int_int = some (i, dec (t ∈ xs)) ∧ 0 ≤ i ∧ ∀ k, ix xs k = some t → k = i := by
 obtain ⟨i, h1, h2, h3⟩ := bsf_eq (key := fun a => a) (xs := xs) (t := t) (cmp := slices_Compare_int_int) (by simpa using hs) hl (fun a => ab3 a t)
 refine ⟨i, ?_, h2, fun k hk => h3 k t hk rfl⟩
 have : n7 xs t slices_Compare_int_int = bsf xs t slices_Compare_int_int := rfl
 rw [this, h1]
 simp
/-! ### The order that the specification tells -/
theorem before_eq {a b : List Int} (ha : a.length ≤ 1000000) : I0 a b = some (dec (llt a b)) := by
 unfold I0
 obtain ⟨o, h1, h2⟩ := A6 (body := U9 a b) (fun k => 0 ≤ k ∧ k ≤ a.length ∧ k ≤ b.length ∧ a.take k.toNat = b.take k.toNat) (fun o => (match o with | .inl _ => some (decide ((a.length : Int) < (b.length : Int))) | .inr x => some x) = some (dec (llt a b))) (fun k => (a.length - k).toNat) (s := 0) ⟨by omega, by omega, by omega, by simp⟩ (fun k ⟨g0, g1, g2, g3⟩ => by
  have hd := ak3 (a := a) (b := b) k.toNat (by omega) (by omega) g3
  unfold U9
  by_cases c : k < a.length ∧ k < b.length
  ·rw [if_pos (by simpa using c)]
   obtain ⟨x, hx, gx⟩ := i7 (l := a) g0 c.1
   obtain ⟨y, hy, gy⟩ := i7 (l := b) g0 c.2
   have da : a.drop k.toNat = x :: a.drop (k.toNat + 1) := by
    obtain ⟨hlt, rfl⟩ := List.getElem?_eq_some_iff.1 gx
    exact List.drop_eq_getElem_cons hlt
   have db : b.drop k.toNat = y :: b.drop (k.toNat + 1) := by
    obtain ⟨hlt, rfl⟩ := List.getElem?_eq_some_iff.1 gy
    exact List.drop_eq_getElem_cons hlt
   rw [da, db] at hd
   simp only [hx, hy, ob]
   by_cases e : x = y
   ·subst e
    rw [if_pos rfl, s5 (by omega) (by omega)]
    refine .inl ⟨k + 1, rfl, ⟨by omega, by omega, by omega, ?_⟩, by omega⟩
    rw [show (k + 1).toNat = k.toNat + 1 by omega, List.take_add_one, List.take_add_one, gx, gy, g3]
   ·rw [if_neg e]
    refine .inr ⟨_, rfl, ?_⟩
    dsimp only
    rw [z7]
    refine congrArg some (m7 ?_)
    rw [hd]
    exact ⟨fun h => .inl h, fun h => h.resolve_right fun g => e g.1⟩
  ·rw [if_neg (by simpa using c)]
   refine .inr ⟨_, rfl, ?_⟩
   dsimp only
   rw [z7]
   refine congrArg some (m7 ?_)
   rw [hd]
   by_cases ca : k < a.length
   ·have db : b.drop k.toNat = [] := List.drop_of_length_le (by omega)
    rw [db]
    constructor
    ·intro h; omega
    ·intro h; cases h' : a.drop k.toNat with
     | nil => rw [h'] at h; exact h.elim
     | cons z l => rw [h'] at h; exact h.elim
   ·have da : a.drop k.toNat = [] := List.drop_of_length_le (by omega)
    rw [da]
    constructor
    ·intro h
     cases h' : b.drop k.toNat with
     | nil => have := List.drop_eq_nil_iff.1 h'; omega
     | cons z l => trivial
    ·intro h
     cases h' : b.drop k.toNat with
     | nil => rw [h'] at h; exact h.elim
     | cons z l =>
      have : ¬ b.length ≤ k.toNat := fun g => by rw [List.drop_of_length_le g] at h'; cases h'
      omega)
 rw [h1]
 simp only [ob]
 exact h2
theorem ord_append {l m : LL} (hl : Ord l) (hm : Ord m) (h : ∀ a ∈ l, ∀ b ∈ m, llt a b) : Ord (l ++ m) := List.pairwise_append.2 ⟨hl, hm, h⟩
theorem insert_eq {l : LL} (h : Ord l) (hl : l.length ≤ 1000000) (hw : ∀ x ∈ l, x.length ≤ 1000000) (s : List Int) : ∃ r, M4 l s = some r ∧ Ord r ∧ (∀ x, x ∈ r ↔ x = s ∨ x ∈ l) ∧ r.length ≤ l.length + 1 := by
 unfold M4
 obtain ⟨k, h1, k0, k1, k2, k3⟩ := A6 (body := V5 l s) (fun k => 0 ≤ k ∧ k ≤ l.length ∧ ∀ i a, i < k → ix l i = some a → llt a s) (fun k => 0 ≤ k ∧ k ≤ l.length ∧ (∀ i a, i < k → ix l i = some a → llt a s) ∧ ∀ a, ix l k = some a → ¬ llt a s) (fun k => (l.length - k).toNat) (s := 0) ⟨by omega, by omega, fun i a hi ha => by have := (j7 ha).1; omega⟩ (fun k ⟨g0, g1, g2⟩ => by
  unfold V5
  by_cases c : k < l.length
  ·obtain ⟨a, ha, ga⟩ := i7 (l := l) g0 c
   rw [if_pos c, ha]
   simp only [ob, before_eq (hw a (i8 ha))]
   by_cases c2 : llt a s
   ·rw [ifP c2, s5 (by omega) (by omega)]
    refine .inl ⟨_, rfl, ⟨by omega, by omega, fun i b hi hb => ?_⟩, by omega⟩
    by_cases e : i = k
    ·subst e; rw [ha] at hb; cases hb; exact c2
    ·exact g2 i b (by omega) hb
   ·rw [ifN c2]
    exact .inr ⟨k, rfl, g0, g1, g2, fun b hb => by rw [ha] at hb; cases hb; exact c2⟩
  ·rw [if_neg c]
   exact .inr ⟨k, rfl, g0, g1, g2, fun b hb => by have := (j7 hb).2.1; omega⟩)
 rw [h1]
 simp only [ob]
 have step : (Option.bind (if k < (l.length : Int) then Option.bind (ix l k) fun a27 => Option.bind (I2 a27 s) fun a30 => some a30 else some false) fun t9 => if t9 = true then some l else Option.bind (subL l 0 k) fun a36 => Option.bind (app 24 ([] : LL) a36) fun a37 => Option.bind (app 24 a37 [s]) fun a40 => Option.bind (subL l k (l.length : Int)) fun a43 => Option.bind (app 24 a40 a43) fun a44 => some a44) = if dec (ix l k = some s) = true then some l else some (l.take k.toNat ++ [s] ++ l.drop k.toNat) := by
  have e : (if k < (l.length : Int) then Option.bind (ix l k) fun a27 => Option.bind (I2 a27 s) fun a30 => some a30 else some false) = some (dec (ix l k = some s)) := by
   by_cases c : k < l.length
   ·obtain ⟨a, ha, ga⟩ := i7 (l := l) k0 c
    rw [if_pos c, ha]
    simp only [ob, ints_eq]
    exact congrArg some (m7 (by simp))
   ·rw [if_neg c, o6]
    intro h; have := (j7 h).2.1; omega
  rw [e]
  simp only [ob]
  by_cases c : ix l k = some s
  ·rw [ifP c, ifP c]
  ·rw [ifN c, ifN c, subL_take k0 (by omega), subL_drop k0 (by omega)]
   simp only [ob]
   rw [app, if_pos (by simp; omega)]
   simp only [ob, List.nil_append]
   rw [app, if_pos (by simp; omega)]
   simp only [ob]
   rw [app, if_pos (by simp; omega)]
   rfl
 rw [step]
 by_cases c : ix l k = some s
 ·rw [ifP c]
  exact ⟨l, rfl, h, fun x => ⟨.inr, fun g => g.elim (fun e => e ▸ i8 c) id⟩, by omega⟩
 ·rw [ifN c]
  refine ⟨_, rfl, ?_, fun x => ?_, by simp; omega⟩
  ·have ht : Ord (l.take k.toNat) := h.sublist (List.take_sublist _ _)
   have hd : Ord (l.drop k.toNat) := h.sublist (List.drop_sublist _ _)
   have b1 : ∀ a ∈ l.take k.toNat, llt a s := fun a ha => by
    obtain ⟨i, hi, e⟩ := List.mem_take_iff_getElem.1 ha
    exact k2 (i : Int) a (by omega) (by rw [T1, ← e]; exact List.getElem?_eq_getElem _)
   have b2 : ∀ a ∈ l.drop k.toNat, llt s a := fun a ha => by
    obtain ⟨i, hi, e⟩ := List.mem_drop_iff_getElem.1 ha
    have hlk : k < l.length := by omega
    obtain ⟨z, hz, gz⟩ := i7 (l := l) k0 hlk
    have nz := k3 z hz
    have nz2 : llt s z := by
     rcases O6 z s with g | g | g
     ·exact absurd g nz
     ·exact absurd (g ▸ hz) c
     ·exact g
    by_cases i0 : i = 0
    ·subst i0
     obtain ⟨q1, q2⟩ := List.getElem?_eq_some_iff.1 gz
     have : a = z := by rw [← e, ← q2]; simp
     rw [this]; exact nz2
    ·refine C5 nz2 (h.get hz (j := k + i) ?_ (by omega))
     rw [show k + (i : Int) = ((k.toNat + i : Nat) : Int) by omega, T1, ← e]
     exact List.getElem?_eq_getElem _
   refine ord_append (ord_append ht (by simp) fun a ha b hb => ?_) hd fun a ha b hb => ?_
   ·simp only [List.mem_singleton] at hb; subst hb; exact b1 a ha
   ·rcases List.mem_append.1 ha with ha | ha
    ·exact C5 (b1 a ha) (b2 b hb)
    ·simp only [List.mem_singleton] at ha; subst ha; exact b2 b hb
  ·rw [List.mem_append, List.mem_append, List.mem_singleton]
   have := List.take_append_drop k.toNat l
   constructor
   ·rintro ((g | g) | g)
    ·exact .inr (List.mem_of_mem_take g)
    ·exact .inl g
    ·exact .inr (List.mem_of_mem_drop g)
   ·rintro (g | g)
    ·exact .inl (.inr g)
    ·rw [← this] at g
     rcases List.mem_append.1 g with g | g
     ·exact .inl (.inl g)
     ·exact .inr g
end Ab
end
section
namespace Ab
open Go
def R4 (x : j8) (n : Int) : Prop := SetN x.add n ∧ SetN x.del n ∧ ∀ a ∈ x.add, a ∉ x.del
def xWt (x : j8) : Prop := 1 ≤ x.weight ∧ x.weight ≤ 6
noncomputable def R8 (n : Int) (x : j8) : Int := if dec (R4 x n) = true then if dec (xWt x) = true then 0 else 3 else 5
noncomputable def H3 (n : Int) : List j8 → Int
 | [] => 0
 | x :: l => if R8 n x = 0 then H3 n l else R8 n x
theorem xCode_zero {n : Int} {x : j8} : R8 n x = 0 ↔ R4 x n ∧ xWt x := by
 unfold R8
 by_cases c1 : R4 x n
 ·rw [ifP c1]
  by_cases c2 : xWt x
  ·rw [ifP c2]; exact ⟨fun _ => ⟨c1, c2⟩, fun _ => rfl⟩
  ·rw [ifN c2]; exact ⟨fun h => by omega, fun h => absurd h.2 c2⟩
 ·rw [ifN c1]; exact ⟨fun h => by omega, fun h => absurd h.1 c1⟩
theorem ai7 {n : Int} : ∀ {l : List j8}, H3 n l = 0 ↔ ∀ x ∈ l, R4 x n ∧ xWt x
 | [] => by simp [H3]
 | x :: l => by
  rw [H3]
  by_cases c : R8 n x = 0
  ·rw [if_pos c, ai7]; simp [xCode_zero.1 c]
  ·rw [if_neg c]
   exact ⟨fun h => absurd h c, fun h => absurd (xCode_zero.2 (h x (by simp))) c⟩
structure OOk (o : i9) (n : Int) : Prop where
 pre : SetN o.pre n
 c0 : 0 ≤ o.cost
 c1 : o.cost ≤ 100
 l0 : 1 ≤ o.outcomes.length
 l1 : o.outcomes.length ≤ 4
 xs : ∀ x ∈ o.outcomes, R4 x n ∧ xWt x
noncomputable def U3 (o : i9) (n : Int) : Int := if dec (SetN o.pre n) = true then if dec (0 ≤ o.cost ∧ o.cost ≤ 100) = true then if dec (1 ≤ (o.outcomes.length : Int) ∧ (o.outcomes.length : Int) ≤ 4) = true then 0 else 9 else 3 else 5
noncomputable def P2 (o : i9) (n : Int) : Int := if U3 o n = 0 then H3 n o.outcomes else U3 o n
theorem ak0 {o : i9} {n : Int} : U3 o n = 0 ↔ SetN o.pre n ∧ (0 ≤ o.cost ∧ o.cost ≤ 100) ∧ (1 ≤ (o.outcomes.length : Int) ∧ (o.outcomes.length : Int) ≤ 4) := by
 unfold U3
 by_cases c1 : SetN o.pre n
 ·rw [ifP c1]
  by_cases c2 : 0 ≤ o.cost ∧ o.cost ≤ 100
  ·rw [ifP c2]
   by_cases c3 : 1 ≤ (o.outcomes.length : Int) ∧ (o.outcomes.length : Int) ≤ 4
   ·rw [ifP c3]; exact ⟨fun _ => ⟨c1, c2, c3⟩, fun _ => rfl⟩
   ·rw [ifN c3]; exact ⟨fun h => by omega, fun h => absurd h.2.2 c3⟩
  ·rw [ifN c2]; exact ⟨fun h => by omega, fun h => absurd h.2.1 c2⟩
 ·rw [ifN c1]; exact ⟨fun h => by omega, fun h => absurd h.1 c1⟩
theorem oCode_of {o : i9} {n : Int} (h : OOk o n) : P2 o n = 0 := by
 have := h.l0; have := h.l1
 rw [P2, if_pos (ak0.2 ⟨h.pre, ⟨h.c0, h.c1⟩, by omega, by omega⟩), ai7]
 exact h.xs
theorem oCode_ok {o : i9} {n : Int} (h : P2 o n = 0) : OOk o n := by
 unfold P2 at h
 by_cases c : U3 o n = 0
 ·rw [if_pos c] at h
  obtain ⟨g1, g2, g3⟩ := ak0.1 c
  exact ⟨g1, g2.1, g2.2, by omega, by omega, ai7.1 h⟩
 ·rw [if_neg c] at h; exact absurd h c
theorem oc1 {o : i9} {n : Int} (h0 : 0 ≤ n) (h1 : n ≤ 24) {j : Int} {x : j8} (hx : ix o.outcomes j = some x) : D5 o n j () = some (if R8 n x = 0 then .inl () else .inr (R8 n x)) := by
 unfold D5
 rw [hx]
 simp only [ob, ak5, q7]
 by_cases g1 : SetN x.add n
 ·rw [ifNN g1]
  by_cases g2 : SetN x.del n
  ·have := g2.len
   rw [ifNN g2, meets_eq g2.1 (by omega)]
   simp only [ob]
   by_cases g3 : ∀ a ∈ x.add, a ∉ x.del
   ·have g : R4 x n := ⟨g1, g2, g3⟩
    rw [ifN (fun ⟨a, ha, hb⟩ => g3 a ha hb)]
    unfold R8
    rw [ifP g]
    by_cases g4 : xWt x
    ·have g5 := g4
     unfold xWt at g5
     rw [ifP g4, if_neg (by simp; omega)]; rfl
    ·have g5 := g4
     unfold xWt at g5
     rw [ifN g4, if_pos (by simp; omega)]; rfl
   ·have g : ¬ R4 x n := fun h => g3 h.2.2
    rw [ifP (by
     rw [Classical.not_forall] at g3
     obtain ⟨a, ha⟩ := g3
     exact ⟨a, Classical.not_imp.1 ha |>.1, Classical.not_not.1 (Classical.not_imp.1 ha).2⟩)]
    unfold R8
    rw [ifN g]; rfl
  ·have g : ¬ R4 x n := fun h => g2 h.2.1
   rw [ifP g2]
   unfold R8
   rw [ifN g]; rfl
 ·have g : ¬ R4 x n := fun h => g1 h.1
  rw [ifP g1]
  unfold R8
  rw [ifN g]; rfl
theorem operatorCode_eq {o : i9} {n : Int} (h0 : 0 ≤ n) (h1 : n ≤ 24) : H2 o n = some (P2 o n) := by
 unfold H2
 simp only [ak5, ob, q7]
 unfold P2 U3
 by_cases c1 : SetN o.pre n
 ·rw [ifNN c1, ifP c1]
  by_cases c2 : 0 ≤ o.cost ∧ o.cost ≤ 100
  ·rw [if_neg (show ¬ ((decide (o.cost < 0)) || (decide (100 < o.cost))) = true by rw [Bool.or_eq_true, decide_eq_true_eq, decide_eq_true_eq]; omega), ifP c2]
   by_cases c3 : 1 ≤ (o.outcomes.length : Int) ∧ (o.outcomes.length : Int) ≤ 4
   ·rw [if_neg (show ¬ ((decide ((o.outcomes.length : Int) = 0)) || (decide (4 < (o.outcomes.length : Int)))) = true by rw [Bool.or_eq_true, decide_eq_true_eq, decide_eq_true_eq]; omega), ifP c3, if_pos rfl]
    rcases Y0 (body := D5 o n) (n := (o.outcomes.length : Int)) (fun j _ => H3 n o.outcomes = H3 n (o.outcomes.drop j.toNat)) (fun c => c = H3 n o.outcomes) (s := ()) (by omega) (by simp) (fun j _ j0 j1 hP => by
     obtain ⟨x, hx, gx⟩ := i7 (l := o.outcomes) j0 j1
     have hd : o.outcomes.drop j.toNat = x :: o.outcomes.drop (j.toNat + 1) := by
      obtain ⟨hlt, rfl⟩ := List.getElem?_eq_some_iff.1 gx
      exact List.drop_eq_getElem_cons hlt
     rw [oc1 h0 h1 hx]
     rw [hd, H3] at hP
     by_cases e : R8 n x = 0
     ·rw [if_pos e] at hP ⊢
      exact .inl ⟨(), rfl, by rw [hP, show (j + 1).toNat = j.toNat + 1 by omega]⟩
     ·rw [if_neg e] at hP ⊢
      exact .inr ⟨_, rfl, hP.symm⟩) with ⟨_, r1, r2⟩ | ⟨c, r1, rfl⟩
    ·rw [r1, r2]; simp [H3]
    ·rw [r1]; rfl
   ·rw [if_pos (show ((decide ((o.outcomes.length : Int) = 0)) || (decide (4 < (o.outcomes.length : Int)))) = true by rw [Bool.or_eq_true, decide_eq_true_eq, decide_eq_true_eq]; omega), ifN c3]; rfl
  ·rw [if_pos (show ((decide (o.cost < 0)) || (decide (100 < o.cost))) = true by rw [Bool.or_eq_true, decide_eq_true_eq, decide_eq_true_eq]; omega), ifN c2]; rfl
 ·rw [ifP c1, ifN c1]; rfl
theorem of2 {t : b9} {o : i9} (h0 : 0 ≤ t.facts) (h1 : t.facts ≤ 24) (hl : o.outcomes.length ≤ 1000000) (c : Int) : Loop (y4 t o) (c, 0) = some (if c = 0 then H3 t.facts o.outcomes else c) := by
 obtain ⟨r, r1, r2⟩ := A6 (body := y4 t o) (fun p => 0 ≤ p.2 ∧ p.2 ≤ o.outcomes.length ∧ (if c = 0 then H3 t.facts o.outcomes else c) = if p.1 = 0 then H3 t.facts (o.outcomes.drop p.2.toNat) else p.1) (fun r => r = if c = 0 then H3 t.facts o.outcomes else c) (fun p => (o.outcomes.length - p.2).toNat) (s := (c, 0)) ⟨by simp, by simp, by simp⟩ (fun ⟨e, j⟩ ⟨g0, g1, g2⟩ => by
  dsimp only at g0 g1 g2 ⊢
  unfold y4
  dsimp only
  by_cases cj : j < o.outcomes.length ∧ e = 0
  ·rw [if_pos (by simpa using cj)]
   obtain ⟨x, hx, gx⟩ := i7 (l := o.outcomes) g0 cj.1
   have hd : o.outcomes.drop j.toNat = x :: o.outcomes.drop (j.toNat + 1) := by
    obtain ⟨hlt, rfl⟩ := List.getElem?_eq_some_iff.1 gx
    exact List.drop_eq_getElem_cons hlt
   rw [cj.2, if_pos rfl, hd, H3] at g2
   rw [hx]
   simp only [ob, ah3 (n := t.facts) _ (show -9223372036854775808 < t.facts by omega) (show t.facts ≤ 9223372036854775807 by omega), disjoint_eq, in_eq, q7, cj.2]
   have hp : (if dec (¬ SetN x.add t.facts) = true then some true else if dec (¬ SetN x.del t.facts) = true then some true else some (dec (¬ ∀ a ∈ x.add, a ∉ x.del))) = some (dec (¬ R4 x t.facts)) := by
    unfold R4
    by_cases k1 : SetN x.add t.facts
    ·rw [ifNN k1]
     by_cases k2 : SetN x.del t.facts
     ·rw [ifNN k2]
      exact congrArg some (m7 ⟨fun h k => h k.2.2, fun h k => h ⟨k1, k2, k⟩⟩)
     ·rw [ifP k2, k7 (fun k => k2 k.2.1)]
    ·rw [ifP k1, k7 (fun k => k1 k.1)]
   rw [hp]
   simp only [ob]
   rw [s5 (by omega) (by omega)]
   have fin : (if dec (¬ R4 x t.facts) = true then some (5 : Int) else if dec (¬ (1 ≤ x.weight ∧ x.weight ≤ 6)) = true then some 3 else some 0) = some (R8 t.facts x) := by
    unfold R8
    by_cases k1 : R4 x t.facts
    ·rw [ifNN k1, ifP k1]
     by_cases k2 : xWt x
     ·rw [ifNN (p := 1 ≤ x.weight ∧ x.weight ≤ 6) k2, ifP k2]
     ·rw [ifP (p := ¬ (1 ≤ x.weight ∧ x.weight ≤ 6)) k2, ifN k2]
    ·rw [ifP k1, ifN k1]
   rw [fin]
   simp only [ob]
   refine .inl ⟨_, rfl, ⟨by dsimp only; omega, by dsimp only; omega, ?_⟩, by dsimp only; omega⟩
   dsimp only
   rw [g2, show (j + 1).toNat = j.toNat + 1 by omega]
  ·rw [if_neg (by simpa using cj)]
   refine .inr ⟨e, rfl, ?_⟩
   rw [g2]
   by_cases ce : e = 0
   ·rw [if_pos ce, List.drop_of_length_le (by omega), H3, ce]
   ·rw [if_neg ce])
 rw [r1, r2]
structure k6 (t : b9) : Prop where
 n0 : 0 ≤ t.facts
 n1 : t.facts ≤ 24
 init : SetN t.init t.facts
 goal : SetN t.goal t.facts
 ops : t.operators.length ≤ 40
 op : ∀ o ∈ t.operators, OOk o t.facts
theorem ag1 (t : b9) : ∃ f, E0 t = some f ∧ I3 t = some f ∧ ((f = ⟨0, 0⟩ ∧ k6 t) ∨ (f.code ≠ 0 ∧ ¬ k6 t)) := by
 unfold E0 I3
 simp only [in_eq, at_eq, ob, q7]
 by_cases c1 : 0 ≤ t.facts ∧ t.facts ≤ 24
 ·rw [if_neg (by simp; omega), ifNN c1]
  simp only [ak5, ah3 (n := t.facts) _ (show -9223372036854775808 < t.facts by omega) (show t.facts ≤ 9223372036854775807 by omega), ob, q7]
  by_cases c2 : SetN t.init t.facts
  ·rw [ifNN c2, ifNN c2]
   by_cases c3 : SetN t.goal t.facts
   ·rw [ifNN c3, ifNN c3]
    by_cases c4 : 40 < (t.operators.length : Int)
    ·rw [if_pos c4, if_pos c4]
     exact ⟨_, rfl, rfl, .inr ⟨by simp, fun h => by have := h.ops; omega⟩⟩
    ·rw [if_neg c4, if_neg c4]
     have hb : ∀ j : Int, 0 ≤ j → j < t.operators.length → ∃ o, ix t.operators j = some o ∧ J3 t j () = some (if P2 o t.facts = 0 then .inl () else .inr ⟨P2 o t.facts, j⟩) ∧ D7 t j () = some (if P2 o t.facts = 0 then .inl () else .inr ⟨P2 o t.facts, j⟩) := fun j h0 h1 => by
      obtain ⟨o, ho, _⟩ := i7 (l := t.operators) h0 h1
      refine ⟨o, ho, ?_, ?_⟩
      ·unfold J3
       rw [ho]
       simp only [ob, operatorCode_eq c1.1 c1.2]
       by_cases e : P2 o t.facts = 0
       ·rw [if_pos e, if_pos e]
       ·rw [if_neg e, if_neg e]
      ·unfold D7
       rw [ho]
       simp only [ob, ah3 (n := t.facts) _ (show -9223372036854775808 < t.facts by omega) (show t.facts ≤ 9223372036854775807 by omega), in_eq, at_eq, q7]
       have hp : (if dec (¬ SetN o.pre t.facts) = true then some (5 : Int) else if dec (¬ (0 ≤ o.cost ∧ o.cost ≤ 100)) = true then some 3 else if dec (¬ (1 ≤ (o.outcomes.length : Int) ∧ (o.outcomes.length : Int) ≤ 4)) = true then some 9 else some 0) = some (U3 o t.facts) := by
        unfold U3
        by_cases g1 : SetN o.pre t.facts
        ·rw [ifNN g1, ifP g1]
         by_cases g2 : 0 ≤ o.cost ∧ o.cost ≤ 100
         ·rw [ifNN g2, ifP g2]
          by_cases g3 : 1 ≤ (o.outcomes.length : Int) ∧ (o.outcomes.length : Int) ≤ 4
          ·rw [ifNN g3, ifP g3]
          ·rw [ifP g3, ifN g3]
         ·rw [ifP g2, ifN g2]
        ·rw [ifP g1, ifN g1]
       rw [hp]
       simp only [ob]
       by_cases eh : U3 o t.facts = 0
       ·have := ak0.1 eh
        rw [of2 c1.1 c1.2 (by omega), if_pos eh]
        simp only [ob, P2, eh, if_true]
        split <;> rfl
       ·have nl : Loop (y4 t o) (U3 o t.facts, 0) = some (U3 o t.facts) := by
         rw [Y5]
         have : y4 t o (U3 o t.facts, 0) = some (.inr (U3 o t.facts)) := by
          unfold y4
          dsimp only
          rw [if_neg (by simp [eh])]
         rw [this]
        rw [nl]
        simp only [ob, P2, if_neg eh]
     have heq : rngX 0 (t.operators.length : Int) (J3 t) () = rngX 0 (t.operators.length : Int) (D7 t) () :=
      (rngX_eq (fun _ _ => True) (by omega) trivial (fun j s h0 h1 _ => by
       obtain ⟨o, _, e1, e2⟩ := hb j h0 h1
       exact ⟨by rw [e1, e2], by rw [e1]; simp, fun _ _ => trivial⟩)).1
     rcases u4 (body := D7 t) (n := (t.operators.length : Int)) (fun j => match ix t.operators j with | some o => if P2 o t.facts = 0 then none else some (⟨P2 o t.facts, j⟩ : l6) | none => none) (by omega) (fun j h0 h1 _ => by
      obtain ⟨o, e0, _, e2⟩ := hb j h0 h1
      rw [e2, e0]
      dsimp only
      split <;> rfl) with ⟨h1, h2⟩ | ⟨j, f, h0, h1, h2, _, h4⟩
     ·rw [heq, h1]
      refine ⟨⟨0, 0⟩, rfl, rfl, .inl ⟨rfl, c1.1, c1.2, c2, c3, by omega, fun o ho => ?_⟩⟩
      obtain ⟨j, g0, g1, g2⟩ := k9 ho
      have := h2 j g0 g1
      rw [g2] at this
      dsimp only at this
      split at this
      ·rename_i e; exact oCode_ok e
      ·cases this
     ·rw [heq, h4]
      obtain ⟨o, e0, _, _⟩ := hb j h0 h1
      rw [e0] at h2
      dsimp only at h2
      split at h2
      ·cases h2
      ·rename_i e
       cases h2
       exact ⟨_, rfl, rfl, .inr ⟨e, fun h => e (oCode_of (h.op o (i8 e0)))⟩⟩
   ·rw [ifP c3, ifP c3]
    exact ⟨_, rfl, rfl, .inr ⟨by simp, fun h => c3 h.goal⟩⟩
  ·rw [ifP c2, ifP c2]
   exact ⟨_, rfl, rfl, .inr ⟨by simp, fun h => c2 h.init⟩⟩
 ·rw [if_pos (by simp; omega), if_pos (k7 c1)]
  exact ⟨_, rfl, rfl, .inr ⟨by simp, fun h => c1 ⟨h.n0, h.n1⟩⟩⟩
end Ab
end
section
namespace Ab
open Go
def noOO : i9 := ⟨[], [], 0⟩
def ooAt (t : b9) (op : Int) : i9 := (t.operators[op.toNat]?).getD noOO
theorem ix_oo {t : b9} {op : Int} (h0 : 0 ≤ op) (h1 : op < t.operators.length) : ix t.operators op = some (ooAt t op) := by
 obtain ⟨a, h2, h3⟩ := i7 h0 h1
 rw [h2, ooAt, h3]; rfl
def oCan (t : b9) (s : List Int) (op : Int) : Prop := ∀ x ∈ (ooAt t op).pre, x ∈ s
noncomputable def efc (n : Int) (s : List Int) (x : j8) : List Int := M8 (fun p => p ∈ x.add ∨ p ∈ s ∧ p ∉ x.del) n
theorem al0 (n : Int) (s : List Int) (x : j8) : SetN (efc n s x) n := setN_setOf _ _
theorem k6.at {t : b9} (h : k6 t) {op : Int} (h0 : 0 ≤ op) (h1 : op < t.operators.length) : OOk (ooAt t op) t.facts := h.op _ (i8 (ix_oo h0 h1))
theorem oCan_eq {t : b9} (ht : k6 t) {op : Int} (h0 : 0 ≤ op) (h1 : op < t.operators.length) {s : List Int} (hs : SetN s t.facts) : O9 t s op = some (dec (oCan t s op)) := by
 have := ht.n1; have := hs.len
 unfold O9
 rw [ix_oo h0 h1]
 simp only [ob]
 rw [W1 hs.1 (ht.at h0 h1).pre.1 (by omega)]
 rfl
theorem ac9 {t : b9} {op : Int} (h0 : 0 ≤ op) (h1 : op < t.operators.length) (s : List Int) : D1 t s op = some (dec (oCan t s op)) := by
 unfold D1
 rw [ix_oo h0 h1]
 simp only [ob, subset_eq]
 rfl
theorem effect_eq {t : b9} (ht : k6 t) (s : List Int) (x : j8) : Q3 t s x = some (efc t.facts s x) := by
 have := ht.n1
 unfold Q3
 rw [if_pos (by omega)]
 rw [forR_setOf (b := 8) (fun p => p ∈ x.add ∨ p ∈ s ∧ p ∉ x.del) ht.n0 (by omega) (fun j c g0 g1 => by
  unfold ac1
  simp only [ob, has_eq, q7]
  have e : (if dec (j ∈ x.add) = true then some true else if dec (j ∈ s) = true then some (dec (j ∉ x.del)) else some false) = some (dec (j ∈ x.add ∨ j ∈ s ∧ j ∉ x.del)) := by
   by_cases c1 : j ∈ x.add
   ·rw [if_pos (k7 c1), k7 (.inl c1)]
   ·rw [if_neg (fun h => c1 (l4.1 h))]
    by_cases c2 : j ∈ s
    ·rw [if_pos (k7 c2)]
     exact congrArg some (m7 ⟨fun h => .inr ⟨c2, h⟩, fun h => (h.resolve_left c1).2⟩)
    ·rw [if_neg (fun h => c2 (l4.1 h)), o6 (fun h => c2 (h.resolve_left c1).1)]
  rw [e]
  simp only [ob]
  refine ⟨fun hq => ?_, fun hq => ?_⟩
  ·rw [if_pos (k7 hq)]
   cases app 8 c [j] <;> rfl
  ·rw [if_neg (fun h => hq (l4.1 h))]; rfl)]
 rfl
theorem oUpdate_eq {n : Int} (hn : n ≤ 24) {s : List Int} (hs : SetN s n) {x : j8} (hx : R4 x n) : H1 s x.add x.del = some (efc n s x) := by
 have := hx.2.1.len
 rw [update_eq (n := n) (by omega) hx.2.1.1 (by omega) hs hx.1]
 exact congrArg some (setOf_congr fun _ _ _ => Or.comm)
/-! ### Policies -/
theorem ord_of_adj : ∀ {l : LL}, (∀ (k : Nat) a b, l[k]? = some a → l[k + 1]? = some b → llt a b) → Ord l
 | [], _ => .nil
 | [_], _ => by simp
 | a :: b :: l, h => by
  have ih : Ord (b :: l) := ord_of_adj fun k x y h1 h2 => h (k + 1) x y (by simpa using h1) (by simpa using h2)
  have hab : llt a b := h 0 a b rfl rfl
  refine List.pairwise_cons.2 ⟨fun c hc => ?_, ih⟩
  rcases List.mem_cons.1 hc with rfl | hc
  ·exact hab
  ·exact C5 hab ((List.pairwise_cons.1 ih).1 c hc)
structure H8 (t : b9) (p : List d9) : Prop where
 len : p.length ≤ 200
 ord : Ord (p.map d9.state)
 set : ∀ c ∈ p, SetN c.state t.facts
 op : ∀ c ∈ p, 0 ≤ c.operator ∧ c.operator < t.operators.length
 can : ∀ c ∈ p, oCan t c.state c.operator
def pSet (t : b9) (p : List d9) (j : Int) (c : d9) : Prop := SetN c.state t.facts ∧ ∀ b, 0 < j → ix p (j - 1) = some b → llt b.state c.state
noncomputable def J7 (t : b9) (p : List d9) (j : Int) (c : d9) : Int := if dec (pSet t p j c) = true then if dec (0 ≤ c.operator ∧ c.operator < t.operators.length) = true then if dec (oCan t c.state c.operator) = true then 0 else 11 else 3 else 5
theorem pCode_zero {t : b9} {p : List d9} {j : Int} {c : d9} : J7 t p j c = 0 → pSet t p j c ∧ (0 ≤ c.operator ∧ c.operator < t.operators.length) ∧ oCan t c.state c.operator := by
 unfold J7
 by_cases c1 : pSet t p j c
 ·rw [ifP c1]
  by_cases c2 : 0 ≤ c.operator ∧ c.operator < t.operators.length
  ·rw [ifP c2]
   by_cases c3 : oCan t c.state c.operator
   ·rw [ifP c3]; exact fun _ => ⟨c1, c2, c3⟩
   ·rw [ifN c3]; exact fun h => by omega
  ·rw [ifN c2]; exact fun h => by omega
 ·rw [ifN c1]; exact fun h => by omega
theorem pCode_of {t : b9} {p : List d9} (hp : H8 t p) {j : Int} {c : d9} (hc : ix p j = some c) : J7 t p j c = 0 := by
 have hm := i8 hc
 unfold J7
 rw [ifP ⟨hp.set c hm, fun b _ hb => aa5 hp.ord hb hc (by omega)⟩, ifP (hp.op c hm), ifP (hp.can c hm)]
theorem pol1 {t : b9} (ht : k6 t) {p : List d9} {j : Int} {c : d9} (hl : p.length ≤ 200) (hc : ix p j = some c) : B7 t p j () = some (if J7 t p j c = 0 then .inl () else .inr ⟨J7 t p j c, -9 - j⟩) := by
 obtain ⟨j0, j1, _⟩ := j7 hc
 have hn := ht.n1
 unfold B7
 rw [hc]
 simp only [ob, ak5, q7]
 have key : (if dec (¬ SetN c.state t.facts) = true then some true else if 0 < j then Option.bind (ix p (j - 1)) fun a40 => Option.bind (slices_Compare_int_int a40.state c.state) fun a45 => some (decide (0 ≤ a45)) else some false) = some (dec (¬ pSet t p j c)) := by
  by_cases g1 : SetN c.state t.facts
  ·rw [ifNN g1]
   by_cases g2 : 0 < j
   ·rw [if_pos g2]
    obtain ⟨b, hb, _⟩ := i7 (l := p) (i := j - 1) (by omega) (by omega)
    rw [hb]
    simp only [ob, ab3, z7]
    refine congrArg some (m7 ?_)
    rw [cmpL_ge]
    exact ⟨fun h g => h (g.2 b g2 hb), fun h g => h ⟨g1, fun b' _ hb' => by rw [hb] at hb'; cases hb'; exact g⟩⟩
   ·rw [if_neg g2, o6]
    exact fun h => h ⟨g1, fun _ g => absurd g g2⟩
  ·rw [ifP g1, k7 (fun h => g1 h.1)]
 rw [key]
 simp only [ob]
 rw [s5 (by omega) (by omega)]
 unfold J7
 by_cases g1 : pSet t p j c
 ·rw [ifNN g1, ifP g1]
  by_cases g2 : 0 ≤ c.operator ∧ c.operator < t.operators.length
  ·rw [if_neg (show ¬ ((decide (c.operator < 0)) || (decide ((t.operators.length : Int) ≤ c.operator))) = true by rw [Bool.or_eq_true, decide_eq_true_eq, decide_eq_true_eq]; omega), ifP g2, oCan_eq ht g2.1 g2.2 g1.1]
   simp only [ob, q7]
   by_cases g3 : oCan t c.state c.operator
   ·rw [ifNN g3, ifP g3]; rfl
   ·rw [ifP g3, ifN g3]; rfl
  ·rw [if_pos (show ((decide (c.operator < 0)) || (decide ((t.operators.length : Int) ≤ c.operator))) = true by rw [Bool.or_eq_true, decide_eq_true_eq, decide_eq_true_eq]; omega), ifN g2]; rfl
 ·rw [ifP g1, ifN g1]; rfl
theorem pol2 {t : b9} (ht : k6 t) {p : List d9} {j : Int} {c : d9} (hl : p.length ≤ 200) (hw : 0 < j → ∀ b, ix p (j - 1) = some b → b.state.length ≤ 1000000) (hc : ix p j = some c) : F0 t p j () = some (if J7 t p j c = 0 then .inl () else .inr ⟨J7 t p j c, -9 - j⟩) := by
 obtain ⟨j0, j1, _⟩ := j7 hc
 have hn := ht.n1; have hn0 := ht.n0; have ho := ht.ops
 unfold F0
 rw [hc]
 simp only [ob, ah3 (n := t.facts) _ (show -9223372036854775808 < t.facts by omega) (show t.facts ≤ 9223372036854775807 by omega), in_eq, at_eq, q7]
 have key : (if dec (¬ SetN c.state t.facts) = true then some true else if 0 < j then Option.bind (ix p (j - 1)) fun a39 => Option.bind (I0 a39.state c.state) fun a47 => some (!a47) else some false) = some (dec (¬ pSet t p j c)) := by
  by_cases g1 : SetN c.state t.facts
  ·rw [ifNN g1]
   by_cases g2 : 0 < j
   ·rw [if_pos g2]
    obtain ⟨b, hb, _⟩ := i7 (l := p) (i := j - 1) (by omega) (by omega)
    rw [hb]
    simp only [ob, before_eq (hw g2 b hb), q7]
    refine congrArg some (m7 ?_)
    exact ⟨fun h g => h (g.2 b g2 hb), fun h g => h ⟨g1, fun b' _ hb' => by rw [hb] at hb'; cases hb'; exact g⟩⟩
   ·rw [if_neg g2, o6]
    exact fun h => h ⟨g1, fun _ g => absurd g g2⟩
  ·rw [ifP g1, k7 (fun h => g1 h.1)]
 rw [key]
 simp only [ob]
 rw [s5 (n := -9 - j) (by omega) (by omega), s5 (n := (t.operators.length : Int) - 1) (by omega) (by omega)]
 unfold J7
 by_cases g1 : pSet t p j c
 ·rw [ifNN g1, ifP g1]
  by_cases g2 : 0 ≤ c.operator ∧ c.operator < t.operators.length
  ·rw [ifN (show ¬ ¬ (0 ≤ c.operator ∧ c.operator ≤ (t.operators.length : Int) - 1) by omega), ifP g2, ac9 g2.1 g2.2]
   simp only [ob, q7]
   by_cases g3 : oCan t c.state c.operator
   ·rw [ifNN g3, ifP g3]; rfl
   ·rw [ifP g3, ifN g3]; rfl
  ·rw [ifP (show ¬ (0 ≤ c.operator ∧ c.operator ≤ (t.operators.length : Int) - 1) by omega), ifN g2]; rfl
 ·rw [ifP g1, ifN g1]; rfl
theorem policy_eq (t : b9) (p : List d9) : ∃ f, E8 t p = some f ∧ ag8 t p = some f ∧ ((f = ⟨0, 0⟩ ∧ k6 t ∧ H8 t p) ∨ (f.code ≠ 0 ∧ ¬ (k6 t ∧ H8 t p))) := by
 obtain ⟨f, h1, h2, h3⟩ := ag1 t
 unfold E8 ag8
 rw [h1, h2]
 simp only [ob]
 rcases h3 with ⟨rfl, ht⟩ | ⟨hc, hnt⟩
 ·rw [if_neg (by simp), if_pos rfl]
  by_cases c1 : 200 < (p.length : Int)
  ·rw [if_pos c1, if_pos c1, at_eq]
   exact ⟨_, rfl, rfl, .inr ⟨by simp, fun h => by have := h.2.len; omega⟩⟩
  ·rw [if_neg c1, if_neg c1]
   have hn := ht.n1
   have hset : ∀ j : Int, (∀ i, 0 ≤ i → i < j → (match ix p i with | some c => if J7 t p i c = 0 then none else some (⟨J7 t p i c, -9 - i⟩ : l6) | none => none) = none) → 0 < j → ∀ b, ix p (j - 1) = some b → b.state.length ≤ 1000000 := fun j hj j0 b hb => by
    have := hj (j - 1) (by omega) (by omega)
    rw [hb] at this
    dsimp only at this
    split at this
    ·rename_i e
     have := (pCode_zero e).1.1.len
     omega
    ·cases this
   rcases u4 (body := B7 t p) (n := (p.length : Int)) (fun j => match ix p j with | some c => if J7 t p j c = 0 then none else some (⟨J7 t p j c, -9 - j⟩ : l6) | none => none) (by omega) (fun j h0 h1 _ => by
    obtain ⟨c, e0, _⟩ := i7 (l := p) h0 h1
    rw [pol1 ht (by omega) e0, e0]
    dsimp only
    split <;> rfl) with ⟨a1, a2⟩ | ⟨j, f, a0, a1, a2, a3, a4⟩
   ·rcases u4 (body := F0 t p) (n := (p.length : Int)) (fun j => match ix p j with | some c => if J7 t p j c = 0 then none else some (⟨J7 t p j c, -9 - j⟩ : l6) | none => none) (by omega) (fun j h0 h1 hj => by
     obtain ⟨c, e0, _⟩ := i7 (l := p) h0 h1
     rw [pol2 ht (by omega) (hset j hj) e0, e0]
     dsimp only
     split <;> rfl) with ⟨b1, b2⟩ | ⟨j', f', b0, b1, b2, b3, b4⟩
    ·rw [a1, b1]
     have all : ∀ j c, ix p j = some c → pSet t p j c ∧ (0 ≤ c.operator ∧ c.operator < t.operators.length) ∧ oCan t c.state c.operator := fun j c hc => by
      have := a2 j (j7 hc).1 (j7 hc).2.1
      rw [hc] at this
      dsimp only at this
      split at this
      ·rename_i e; exact pCode_zero e
      ·cases this
     have all' : ∀ c ∈ p, SetN c.state t.facts ∧ (0 ≤ c.operator ∧ c.operator < t.operators.length) ∧ oCan t c.state c.operator := fun c hc => by
      obtain ⟨j, _, _, hj⟩ := k9 hc
      obtain ⟨g1, g2, g3⟩ := all j c hj
      exact ⟨g1.1, g2, g3⟩
     refine ⟨_, rfl, rfl, .inl ⟨rfl, ht, by omega, ord_of_adj fun k a b ha hb => ?_, fun c hc => (all' c hc).1, fun c hc => (all' c hc).2.1, fun c hc => (all' c hc).2.2⟩⟩
     rw [List.getElem?_map] at ha hb
     cases ha' : p[k]? with
     | none => rw [ha'] at ha; cases ha
     | some a' =>
      cases hb' : p[k + 1]? with
      | none => rw [hb'] at hb; cases hb
      | some b' =>
       rw [ha'] at ha; rw [hb'] at hb; cases ha; cases hb
       refine (all ((k + 1 : Nat) : Int) b' (by rw [T1, hb'])).1.2 a' (by omega) ?_
       rw [show ((k + 1 : Nat) : Int) - 1 = (k : Nat) by omega, T1, ha']
    ·rw [a2 j' b0 b1] at b2; cases b2
   ·rcases u4 (body := F0 t p) (n := (p.length : Int)) (fun j => match ix p j with | some c => if J7 t p j c = 0 then none else some (⟨J7 t p j c, -9 - j⟩ : l6) | none => none) (by omega) (fun j h0 h1 hj => by
     obtain ⟨c, e0, _⟩ := i7 (l := p) h0 h1
     rw [pol2 ht (by omega) (hset j hj) e0, e0]
     dsimp only
     split <;> rfl) with ⟨b1, b2⟩ | ⟨j', f', b0, b1, b2, b3, b4⟩
    ·rw [b2 j a0 a1] at a2; cases a2
    ·have ej : j = j' := by
      rcases Int.lt_trichotomy j j' with h | h | h
      ·rw [b3 j a0 h] at a2; cases a2
      ·exact h
      ·rw [a3 j' b0 h] at b2; cases b2
     subst ej
     rw [a2] at b2
     cases b2
     rw [a4, b4]
     refine ⟨_, rfl, rfl, .inr ?_⟩
     obtain ⟨c, e0, _⟩ := i7 (l := p) a0 a1
     rw [e0] at a2
     dsimp only at a2
     split at a2
     ·cases a2
     ·rename_i e; cases a2; exact ⟨e, fun h => e (pCode_of h.2 e0)⟩
 ·rw [if_pos (fault_no hc), if_neg hc]
  exact ⟨f, rfl, rfl, .inr ⟨hc, fun h => hnt h.1⟩⟩
/-! ### What a policy chooses -/
theorem ae9 (p : List d9) (s : List Int) : ∃ r, F7 p s = some r ∧ ((r = -1 ∧ ∀ c ∈ p, c.state ≠ s) ∨ ∃ c, c ∈ p ∧ c.state = s ∧ r = c.operator) := by
 unfold F7
 rcases u4 (body := U7 p s) (n := (p.length : Int)) (fun j => match ix p j with | some c => if dec (c.state = s) = true then some c.operator else none | none => none) (by omega) (fun j h0 h1 _ => by
  obtain ⟨x, hx, _⟩ := i7 (l := p) h0 h1
  unfold U7
  simp only [hx, ob, ints_eq]
  by_cases e : x.state = s
  ·rw [ifP e, ifP e]
  ·rw [ifN e, ifN e]) with ⟨h1, h2⟩ | ⟨j, o, h0, h1, h2, h3, h4⟩
 ·rw [h1]
  refine ⟨-1, rfl, .inl ⟨rfl, fun c hc he => ?_⟩⟩
  obtain ⟨i, i0, i1, hi⟩ := k9 hc
  have := h2 i i0 i1
  rw [hi] at this
  dsimp only at this
  rw [ifP he] at this
  cases this
 ·rw [h4]
  obtain ⟨c, hc, _⟩ := i7 (l := p) h0 h1
  rw [hc] at h2
  dsimp only at h2
  split at h2
  ·rename_i e
   cases h2
   exact ⟨_, rfl, .inr ⟨c, i8 hc, l4.1 e, rfl⟩⟩
  ·cases h2
theorem chosen_eq {t : b9} {p : List d9} (hp : H8 t p) (s : List Int) : ∃ r, H9 p s = some r ∧ F7 p s = some r ∧ (r = -1 ∨ (0 ≤ r ∧ r < t.operators.length ∧ oCan t s r)) := by
 obtain ⟨r, h1, h2⟩ := ae9 p s
 refine ⟨r, ?_, h1, ?_⟩
 ·unfold H9
  obtain ⟨i, g1, g2, g3⟩ := bsf_eq (key := d9.state) (xs := p) (t := s) (cmp := open_Chosen_1) hp.ord (by have := hp.len; omega) (fun a => by unfold open_Chosen_1; rw [ab3]; rfl)
  have : j9 p s open_Chosen_1 = bsf p s open_Chosen_1 := rfl
  rw [this, g1]
  simp only [ob, q7]
  rcases h2 with ⟨rfl, h⟩ | ⟨c, hc, he, rfl⟩
  ·rw [ifP]
   rintro ⟨a, ha, e⟩; exact h a ha e
  ·rw [ifNN ⟨c, hc, he⟩]
   obtain ⟨k, _, _, hk⟩ := k9 hc
   have := g3 k c hk he
   subst this
   rw [hk]; rfl
 ·rcases h2 with ⟨rfl, h⟩ | ⟨c, hc, he, rfl⟩
  ·exact .inl rfl
  ·have := hp.op c hc
   exact .inr ⟨this.1, this.2, he ▸ hp.can c hc⟩
end Ab
end
section
namespace Ab
open Go
theorem ix_map {α β : Type} {f : α → β} {l : List α} {i : Int} : ix (l.map f) i = (ix l i).map f := by
 simp only [ix]
 split
 ·rw [List.getElem?_map]
 ·rfl
theorem Ord.one {l m : LL} (hl : Ord l) (hm : Ord m) {p : List Int → Prop} (h1 : ∀ y, y ∈ l ↔ p y) (h2 : ∀ y, y ∈ m ↔ p y) : l = m := Ord.ext hl hm fun y => (h1 y).trans (h2 y).symm
theorem cloneLL_eq {s : LL} (h : s.length ≤ 1000000) : C8 s = some s := by
 rw [C8, app, if_pos (by simp; omega)]; rfl
theorem results1 {t : b9} {o : i9} (ho : OOk o t.facts) (hn : t.facts ≤ 24) {s : List Int} (hs : SetN s t.facts) : forR 0 (o.outcomes.length : Int) (K9 s o) [] = some (o.outcomes.map (efc t.facts s)) := by
 have hl := ho.l1
 obtain ⟨c, h1, h2⟩ := p8 (body := K9 s o) (n := (o.outcomes.length : Int)) (s := []) (fun j c => c = (o.outcomes.take j.toNat).map (efc t.facts s)) (by omega) (by simp) (fun j c j0 j1 hP => by
  obtain ⟨x, hx, gx⟩ := i7 (l := o.outcomes) j0 j1
  unfold K9
  rw [hx]
  simp only [ob]
  rw [oUpdate_eq hn hs (ho.xs x (i8 hx)).1]
  simp only [ob]
  have hlen : c.length ≤ 4 := by rw [hP, List.length_map, List.length_take]; omega
  rw [app, if_pos (by simp; omega)]
  refine ⟨_, rfl, ?_⟩
  rw [show (j + 1).toNat = j.toNat + 1 by omega, List.take_add_one, gx, hP, List.map_append]; rfl)
 rw [h1, h2]
 simp
theorem A9 {t : b9} (ht : k6 t) {op : Int} (h0 : 0 ≤ op) (h1 : op < t.operators.length) {s : List Int} (hs : SetN s t.facts) : ∃ st w, u5 t s op = some (st, w) ∧ Ord st ∧ (∀ y, y ∈ st ↔ ∃ x ∈ (ooAt t op).outcomes, efc t.facts s x = y) ∧ st.length ≤ 4 ∧ w.length = st.length ∧ forR 0 ((ooAt t op).outcomes.length : Int) (G9 ((ooAt t op).outcomes.map (efc t.facts s)) st (ooAt t op)) (List.replicate st.length 0) = some w := by
 have ho := ht.at h0 h1
 have hl := ho.l1
 unfold u5
 rw [ix_oo h0 h1]
 simp only [ob]
 rw [results1 ho ht.n1 hs]
 simp only [ob]
 rw [cloneLL_eq (by simp; omega)]
 simp only [ob]
 obtain ⟨st, n1, n2, n3, n4⟩ := ai3 (l := (ooAt t op).outcomes.map (efc t.facts s)) (by simp; omega)
 have n4' : st.length ≤ 4 := by rw [List.length_map] at n4; omega
 have hm : mkL 8 (st.length : Int) (0 : Int) = some (List.replicate st.length 0) := by
  rw [mkL, if_pos (by omega)]; simp
 obtain ⟨w, w1, w2⟩ := p8 (body := G9 ((ooAt t op).outcomes.map (efc t.facts s)) st (ooAt t op)) (n := ((ooAt t op).outcomes.length : Int)) (s := List.replicate st.length 0) (fun j c => c.length = st.length) (by omega) (by simp) (fun j c j0 j1 hP => by
  obtain ⟨x, hx, gx⟩ := i7 (l := (ooAt t op).outcomes) j0 j1
  have hmem : efc t.facts s x ∈ st := (n3 _).2 (List.mem_map.2 ⟨x, i8 hx, rfl⟩)
  obtain ⟨i, e1, e2, e3⟩ := bsets_eq (t := efc t.facts s x) n2 (by omega)
  obtain ⟨k, k0, k1, hk⟩ := k9 hmem
  have := e3 k hk
  subst this
  obtain ⟨z, hz, gz⟩ := i7 (l := c) (i := k) k0 (by omega)
  unfold G9
  rw [hx, ix_map, hx]
  simp only [ob, Option.map_some, e1, hz]
  exact ⟨_, rfl, by rw [List.length_set]; exact hP⟩)
 rw [n1]
 simp only [ob, hm, w1]
 exact ⟨st, w, rfl, n2, fun y => by rw [n3, List.mem_map], n4', w2, w1⟩
/-! ### The coin -/
def coinX : j8 := ⟨[0], [], 1⟩
def coinY : j8 := ⟨[], [], 2⟩
def coinO : i9 := ⟨[], [coinX, coinY], 1⟩
def y6 : b9 := ⟨1, [], [0], [coinO]⟩
theorem coin_ok : k6 y6 where
 n0 := by decide
 n1 := by decide
 init := T6 _
 goal := setN1 0 (by decide) (by decide)
 ops := by decide
 op o ho := by
  simp only [y6, List.mem_singleton] at ho
  subst ho
  refine ⟨T6 _, by decide, by decide, by decide, by decide, fun x hx => ?_⟩
  simp only [coinO, List.mem_cons, List.not_mem_nil, or_false] at hx
  rcases hx with rfl | rfl
  ·exact ⟨⟨setN1 0 (by decide) (by decide), T6 _, by simp [coinX]⟩, by decide, by decide⟩
  ·exact ⟨⟨T6 _, T6 _, by simp [coinY]⟩, by decide, by decide⟩
theorem coin_X : efc 1 [] coinX = [0] := by
 refine ((setN1 0 (by decide) (by decide) : SetN [0] 1).eq_of (p := fun p => p ∈ coinX.add ∨ p ∈ [] ∧ p ∉ coinX.del) fun x h0 h1 => ?_).symm
 simp [coinX]
theorem coin_Y : efc 1 [] coinY = [] := by
 refine ((T6 1).eq_of (p := fun p => p ∈ coinY.add ∨ p ∈ [] ∧ p ∉ coinY.del) fun x h0 h1 => ?_).symm
 simp [coinY]
end Ab
end
section
namespace Ab
open Go
noncomputable def chO (p : List d9) (s : List Int) : Int := (F7 p s).getD (-1)
theorem rChosen_chO (p : List d9) (s : List Int) : F7 p s = some (chO p s) := by
 obtain ⟨r, h, _⟩ := ae9 p s
 rw [chO, h]; rfl
theorem af4 {t : b9} {p : List d9} (hp : H8 t p) (s : List Int) : H9 p s = some (chO p s) ∧ (chO p s = -1 ∨ (0 ≤ chO p s ∧ chO p s < t.operators.length ∧ oCan t s (chO p s))) := by
 obtain ⟨r, h1, h2, h3⟩ := chosen_eq hp s
 have : chO p s = r := by rw [chO, h2]; rfl
 rw [this]
 exact ⟨h1, h3⟩
theorem ifOr {a b : Prop} : (if dec a = true then some true else some (dec b)) = some (dec (a ∨ b)) := by
 by_cases h : a
 ·rw [ifP h, k7 (.inl h)]
 ·rw [ifN h]; exact congrArg some (m7 ⟨.inr, fun g => g.resolve_left h⟩)
end Ab
end
section
namespace Ab
open Go
end Ab
end
section
namespace Ab
open Go
def dg (x : Int) : List Int := if x < 10 then [48 + x] else [48 + x / 10, 48 + x % 10]
def encS (s : List Int) : List Int := s.flatMap (fun x => dg x ++ [44]) ++ [59]
def encK (l : LL) : List Int := l.flatMap encS
def small (s : List Int) : Prop := ∀ x ∈ s, 0 ≤ x ∧ x < 100
theorem dg_split {x y : Int} (hx : 0 ≤ x ∧ x < 100) (hy : 0 ≤ y ∧ y < 100) {r r' : List Int} (h : dg x ++ 44 :: r = dg y ++ 44 :: r') : x = y ∧ r = r' := by
 unfold dg at h
 split at h <;> split at h <;> simp only [List.cons_append, List.nil_append, List.cons.injEq] at h
 ·exact ⟨by omega, h.2.2⟩
 ·exfalso; omega
 ·exfalso; omega
 ·exact ⟨by omega, h.2.2.2⟩
theorem dg_head {x : Int} (hx : 0 ≤ x ∧ x < 100) : ∃ a l, dg x = a :: l ∧ 48 ≤ a ∧ a < 58 := by
 unfold dg
 split
 ·exact ⟨_, _, rfl, by omega, by omega⟩
 ·exact ⟨_, _, rfl, by omega, by omega⟩
theorem ad7 (x : Int) (s : List Int) : encS (x :: s) = dg x ++ 44 :: encS s := by simp [encS]
theorem encS_inj : ∀ {s s' r r' : List Int}, small s → small s' → encS s ++ r = encS s' ++ r' → s = s' ∧ r = r'
 | [], [], r, r', _, _, h => by simp [encS] at h; exact ⟨rfl, h⟩
 | [], y :: s', r, r', _, h2, h => by
  obtain ⟨a, l, ha, h3, h4⟩ := dg_head (h2 y (by simp))
  rw [ad7, ha] at h
  simp only [encS, List.flatMap_nil, List.nil_append, List.cons_append, List.cons.injEq] at h
  omega
 | x :: s, [], r, r', h1, _, h => by
  obtain ⟨a, l, ha, h3, h4⟩ := dg_head (h1 x (by simp))
  rw [ad7, ha] at h
  simp only [encS, List.flatMap_nil, List.nil_append, List.cons_append, List.cons.injEq] at h
  omega
 | x :: s, y :: s', r, r', h1, h2, h => by
  rw [ad7, ad7, List.append_assoc, List.append_assoc, List.cons_append, List.cons_append] at h
  obtain ⟨rfl, g⟩ := dg_split (h1 x (by simp)) (h2 y (by simp)) h
  obtain ⟨e1, e2⟩ := encS_inj (s := s) (s' := s') (fun z hz => h1 z (List.mem_cons_of_mem _ hz)) (fun z hz => h2 z (List.mem_cons_of_mem _ hz)) g
  exact ⟨by rw [e1], e2⟩
theorem encK_inj : ∀ {l l' : LL}, (∀ s ∈ l, small s) → (∀ s ∈ l', small s) → encK l = encK l' → l = l'
 | [], [], _, _, _ => rfl
 | [], s :: l', _, _, h => by
  have h := congrArg List.length h
  simp only [encK, encS, List.flatMap_nil, List.flatMap_cons, List.length_append, List.length_nil, List.length_cons] at h
  omega
 | s :: l, [], _, _, h => by
  have h := congrArg List.length h
  simp only [encK, encS, List.flatMap_nil, List.flatMap_cons, List.length_append, List.length_nil, List.length_cons] at h
  omega
 | s :: l, s' :: l', h1, h2, h => by
  have h : encS s ++ encK l = encS s' ++ encK l' := h
  obtain ⟨e1, e2⟩ := encS_inj (h1 s (List.mem_cons_self ..)) (h2 s' (List.mem_cons_self ..)) h
  have e3 := encK_inj (l := l) (l' := l') (fun z hz => h1 z (List.mem_cons_of_mem _ hz)) (fun z hz => h2 z (List.mem_cons_of_mem _ hz)) e2
  rw [e1, e3]
theorem dg_byte {x : Int} (hx : 0 ≤ x ∧ x < 100) : ∀ a ∈ dg x, 0 ≤ a ∧ a < 256 := by
 intro a ha
 unfold dg at ha
 split at ha <;> simp at ha <;> omega
theorem encS_byte {s : List Int} (h : small s) : ∀ a ∈ encS s, 0 ≤ a ∧ a < 256 := by
 intro a ha
 simp only [encS, List.mem_append, List.mem_flatMap, List.mem_singleton] at ha
 rcases ha with ⟨x, hx, h1 | h1⟩ | h1
 ·exact dg_byte (h x hx) a h1
 ·omega
 ·omega
theorem encK_byte {l : LL} (h : ∀ s ∈ l, small s) : ∀ a ∈ encK l, 0 ≤ a ∧ a < 256 := by
 intro a ha
 simp only [encK, List.mem_flatMap] at ha
 obtain ⟨s, hs, h1⟩ := ha
 exact encS_byte (h s hs) a h1
theorem strB_inj {l l' : List Int} (h1 : ∀ a ∈ l, 0 ≤ a ∧ a < 256) (h2 : ∀ a ∈ l', 0 ≤ a ∧ a < 256) (h : strB l = strB l') : l = l' := by
 have h3 : l.map (fun n => UInt8.ofNat n.toNat) = l'.map (fun n => UInt8.ofNat n.toNat) := by
  have := congrArg ByteArray.data h
  simpa [strB] using this
 have back : ∀ {m : List Int}, (∀ a ∈ m, 0 ≤ a ∧ a < 256) → (m.map (fun n => UInt8.ofNat n.toNat)).map (fun b => (b.toNat : Int)) = m := by
  intro m hm
  rw [List.map_map]
  conv => rhs; rw [← List.map_id m]
  apply List.map_congr_left
  intro a ha
  have := hm a ha
  simp only [Function.comp_apply, id_eq, UInt8.toNat_ofNat']
  omega
 rw [← back h1, ← back h2, h3]
def keyK (l : LL) : ByteArray := strB (encK l)
theorem keyK_inj {l l' : LL} (h1 : ∀ s ∈ l, small s) (h2 : ∀ s ∈ l', small s) (h : keyK l = keyK l') : l = l' := encK_inj h1 h2 (strB_inj (encK_byte h1) (encK_byte h2) h)
/-! ### Maps -/
theorem Y6 {K V : Type} [DecidableEq K] (k k' : K) (v : V) : ∀ m : List (K × V), mget (mset m k v) k' = if k' = k then some v else mget m k'
 | [] => by
  simp only [mset, mget]
 | p :: r => by
  simp only [mset]
  by_cases h : k = p.1
  ·rw [if_pos h]
   simp only [mget]
   by_cases h2 : k' = k
   ·rw [if_pos h2, if_pos h2]
   ·rw [if_neg h2, if_neg h2, if_neg (by rw [← h]; exact h2)]
  ·rw [if_neg h]
   simp only [mget]
   rw [Y6 k k' v r]
   by_cases h2 : k' = p.1
   ·rw [if_pos h2, if_pos h2, if_neg (fun e => h (e.symm.trans h2))]
   ·rw [if_neg h2, if_neg h2]
end Ab
end
section
namespace Ab
open Go
theorem an6 {α β : Type} {l : List α} {body : Int → List β → Option (List β)} (g : α → List β) (N : Nat) (c0 : List β)
  (hb : ∀ j a c, ix l j = some a → c.length + (g a).length ≤ N → body j c = some (c ++ g a)) (hN : c0.length + (l.flatMap g).length ≤ N) :
  forR 0 (l.length : Int) body c0 = some (c0 ++ l.flatMap g) := by
 obtain ⟨s', h1, h2⟩ := p8 (body := body) (n := (l.length : Int)) (s := c0) (fun j c => c = c0 ++ (l.take j.toNat).flatMap g) (by omega) (by simp) (fun j c h0 h1 hP => by
  obtain ⟨a, g1, g2⟩ := i7 h0 h1
  have e : (j + 1).toNat = j.toNat + 1 := by omega
  have ht : l.take (j + 1).toNat = l.take j.toNat ++ [a] := by rw [e, List.take_add_one, g2]; rfl
  refine ⟨c ++ g a, hb j a c g1 ?_, ?_⟩
  ·have hs : l = l.take j.toNat ++ [a] ++ l.drop (j + 1).toNat := by rw [← ht, List.take_append_drop]
   have hl : (l.flatMap g).length = ((l.take j.toNat).flatMap g).length + (g a).length + ((l.drop (j + 1).toNat).flatMap g).length := by
    conv => lhs; rw [hs]
    simp [List.flatMap_append]; omega
   rw [hP, List.length_append]; omega
  ·rw [ht, List.flatMap_append, hP]; simp)
 rw [h1, h2]
 simp
theorem small_eq : ∀ n : Fin 100, (F6 (n : Nat)).map strL = some (dg (n : Nat)) := by decide +kernel
theorem appendInt_eq {x : Int} (hx : 0 ≤ x ∧ x < 100) {l : List Int} (hl : l.length ≤ 1000000) : B1 x 10 l = some (l ++ dg x) := by
 have h := small_eq ⟨x.toNat, by omega⟩
 rw [show (((⟨x.toNat, by omega⟩ : Fin 100) : Nat) : Int) = x by simp; omega] at h
 obtain ⟨b, h1, h2⟩ := Option.map_eq_some_iff.1 h
 first
  | unfold B1 A0 y9
  | unfold B1 internal_strconv_AppendInt_w2 internal_strconv_AppendUint_w3
 rw [if_neg (by omega), IntKind.wrap_u64, Int.emod_eq_of_lt (by omega) (by omega)]
 simp only [ob, if_true]
 rw [if_pos hx.2, s5 (by omega) (by omega), h1]
 simp only [ob, h2]
 have : (dg x).length ≤ 2 := by unfold dg; split <;> simp
 rw [app, if_pos (by omega)]
 rfl
theorem dg_len (x : Int) : (dg x).length ≤ 2 := by unfold dg; split <;> simp
theorem key_eq {l : LL} (hs : ∀ s ∈ l, small s) (hN : (encK l).length ≤ 900000) : P1 l = some (keyK l) := by
 unfold P1
 rw [an6 encS 900000 [] (fun j s c hj hc => by
  unfold ae3
  rw [hj]
  simp only [ob]
  have hlen : (encS s).length = (s.flatMap fun x => dg x ++ [44]).length + 1 := by simp [encS]
  rw [an6 (fun x => dg x ++ [44]) 900000 c (fun i x c' hi hc' => by
   unfold ae4
   rw [hi]
   simp only [List.length_append, List.length_singleton] at hc'
   simp only [ob, appendInt_eq (hs s (i8 hj) x (i8 hi)) (l := c') (by omega)]
   rw [app, if_pos (by simp; omega)]
   simp) (by omega)]
  simp only [ob]
  rw [app, if_pos (by rw [List.length_append]; simp only [List.length_singleton]; omega)]
  simp [encS]) (by simpa [encK] using hN)]
 rfl
theorem encS_len : ∀ s : List Int, (encS s).length ≤ 3 * s.length + 1
 | [] => by simp [encS]
 | x :: s => by
  have := encS_len s
  have := dg_len x
  rw [ad7]
  simp only [List.length_append, List.length_cons]
  omega
end Ab
end
section
namespace Ab
open Go
/-! ### Loops side by side -/
theorem rngN_sim {S1 S2 O1 O2 : Type} {b1 : Int → S1 → Option (S1 ⊕ O1)} {b2 : Int → S2 → Option (S2 ⊕ O2)} (R : Int → S1 → S2 → Prop) (Q : O1 → O2 → Prop) : ∀ (k : Nat) (i : Int) (s1 : S1) (s2 : S2), R i s1 s2 →
  (∀ j s1 s2, i ≤ j → j < i + k → R j s1 s2 → (∃ t1 t2, b1 j s1 = some (.inl t1) ∧ b2 j s2 = some (.inl t2) ∧ R (j + 1) t1 t2) ∨ ∃ o1 o2, b1 j s1 = some (.inr o1) ∧ b2 j s2 = some (.inr o2) ∧ Q o1 o2) →
  (∃ t1 t2, rngN b1 k i s1 = some (.inl t1) ∧ rngN b2 k i s2 = some (.inl t2) ∧ R (i + k) t1 t2) ∨ ∃ o1 o2, rngN b1 k i s1 = some (.inr o1) ∧ rngN b2 k i s2 = some (.inr o2) ∧ Q o1 o2
 | 0, i, s1, s2, h, _ => .inl ⟨s1, s2, rfl, rfl, by simpa using h⟩
 | k + 1, i, s1, s2, h, hb => by
  rcases hb i s1 s2 (Int.le_refl _) (by omega) h with ⟨t1, t2, h1, h2, h3⟩ | ⟨o1, o2, h1, h2, h3⟩
  ·rcases rngN_sim R Q k (i + 1) t1 t2 h3 (fun j s1 s2 g1 g2 => hb j s1 s2 (by omega) (by omega)) with ⟨u1, u2, g1, g2, g3⟩ | ⟨o1, o2, g1, g2, g3⟩
   ·exact .inl ⟨u1, u2, by simp only [rngN, h1]; exact g1, by simp only [rngN, h2]; exact g2, by rw [show i + ((k + 1 : Nat) : Int) = i + 1 + k by omega]; exact g3⟩
   ·exact .inr ⟨o1, o2, by simp only [rngN, h1]; exact g1, by simp only [rngN, h2]; exact g2, g3⟩
  ·exact .inr ⟨o1, o2, by simp only [rngN, h1], by simp only [rngN, h2], h3⟩
theorem rngX_sim {S1 S2 O1 O2 : Type} {b1 : Int → S1 → Option (S1 ⊕ O1)} {b2 : Int → S2 → Option (S2 ⊕ O2)} {n : Int} (R : Int → S1 → S2 → Prop) (Q : O1 → O2 → Prop) {s1 : S1} {s2 : S2} (hn : 0 ≤ n) (h0 : R 0 s1 s2)
  (hb : ∀ j s1 s2, 0 ≤ j → j < n → R j s1 s2 → (∃ t1 t2, b1 j s1 = some (.inl t1) ∧ b2 j s2 = some (.inl t2) ∧ R (j + 1) t1 t2) ∨ ∃ o1 o2, b1 j s1 = some (.inr o1) ∧ b2 j s2 = some (.inr o2) ∧ Q o1 o2) :
  (∃ t1 t2, rngX 0 n b1 s1 = some (.inl t1) ∧ rngX 0 n b2 s2 = some (.inl t2) ∧ R n t1 t2) ∨ ∃ o1 o2, rngX 0 n b1 s1 = some (.inr o1) ∧ rngX 0 n b2 s2 = some (.inr o2) ∧ Q o1 o2 := by
 rcases rngN_sim R Q (n - 0).toNat 0 s1 s2 h0 (fun j s1 s2 g1 g2 => hb j s1 s2 g1 (by omega)) with ⟨t1, t2, h1, h2, h3⟩ | h
 ·exact .inl ⟨t1, t2, h1, h2, by rwa [show (0 : Int) + ((n - 0).toNat : Int) = n by omega] at h3⟩
 ·exact .inr h
theorem Loop_sim {S1 S2 O1 O2 : Type} {b1 : S1 → Option (S1 ⊕ O1)} {b2 : S2 → Option (S2 ⊕ O2)} (R : S1 → S2 → Prop) (Q : O1 → O2 → Prop) (μ : S1 → Nat)
  (hb : ∀ s1 s2, R s1 s2 → (∃ t1 t2, b1 s1 = some (.inl t1) ∧ b2 s2 = some (.inl t2) ∧ R t1 t2 ∧ μ t1 < μ s1) ∨ ∃ o1 o2, b1 s1 = some (.inr o1) ∧ b2 s2 = some (.inr o2) ∧ Q o1 o2) :
  ∀ (k : Nat) (s1 : S1) (s2 : S2), μ s1 < k → R s1 s2 → ∃ o1 o2, Loop b1 s1 = some o1 ∧ Loop b2 s2 = some o2 ∧ Q o1 o2
 | 0, _, _, h, _ => by omega
 | k + 1, s1, s2, h, hs => by
  rcases hb s1 s2 hs with ⟨t1, t2, h1, h2, h3, h4⟩ | ⟨o1, o2, h1, h2, h3⟩
  ·obtain ⟨o1, o2, g1, g2, g3⟩ := Loop_sim R Q μ hb k t1 t2 (by omega) h3
   exact ⟨o1, o2, by rw [Y5, h1]; exact g1, by rw [Y5, h2]; exact g2, g3⟩
  ·exact ⟨o1, o2, by rw [Y5, h1], by rw [Y5, h2], h3⟩
/-! ### States as' numbers -/
def wsN : List Int → Nat
 | [] => 0
 | a :: l => 2 ^ a.toNat + wsN l
theorem wsN_append : ∀ {l m : List Int}, wsN (l ++ m) = wsN l + wsN m
 | [], m => by simp [wsN]
 | a :: l, m => by simp only [List.cons_append, wsN, wsN_append (l := l)]; omega
theorem wsN_le : ∀ {l : List Int}, (∀ x ∈ l, x < 24) → wsN l ≤ l.length * 16777216
 | [], _ => by simp [wsN]
 | a :: l, h => by
  have h1 := wsN_le (l := l) fun x hx => h x (List.mem_cons_of_mem _ hx)
  have h2 : 2 ^ a.toNat ≤ 2 ^ 24 := Nat.pow_le_pow_right (by decide) (by have := h a (by simp); omega)
  simp only [wsN, List.length_cons]
  omega
theorem wsN_dvd {k : Nat} : ∀ {l : List Int}, (∀ x ∈ l, k ≤ x.toNat) → 2 ^ k ∣ wsN l
 | [], _ => ⟨0, rfl⟩
 | a :: l, h => Nat.dvd_add (Nat.pow_dvd_pow 2 (h a (by simp))) (wsN_dvd fun x hx => h x (List.mem_cons_of_mem _ hx))
theorem two_pow_no {k : Nat} (h : 2 ^ (k + 1) ∣ 2 ^ k) : False := by
 have h1 := Nat.le_of_dvd (Nat.two_pow_pos k) h
 have h2 := Nat.two_pow_pos k
 rw [Nat.pow_succ] at h1
 omega
theorem wsN_ne {a : Int} {l m : List Int} (ha : 0 ≤ a) (hl : ∀ x ∈ l, a < x) (hm : ∀ x ∈ m, a < x) : wsN (a :: l) ≠ wsN m := fun h => by
 have d1 : 2 ^ (a.toNat + 1) ∣ wsN l := wsN_dvd fun x hx => by have := hl x hx; omega
 have d2 : 2 ^ (a.toNat + 1) ∣ wsN m := wsN_dvd fun x hx => by have := hm x hx; omega
 rw [← h, wsN] at d2
 exact two_pow_no ((Nat.dvd_add_left d1).1 d2)
theorem wsN_inj : ∀ {l m : List Int}, Inc l → Inc m → (∀ x ∈ l, 0 ≤ x) → (∀ x ∈ m, 0 ≤ x) → wsN l = wsN m → l = m
 | [], [], _, _, _, _, _ => rfl
 | [], b :: m, _, _, _, _, h => by
  have := Nat.two_pow_pos b.toNat
  simp only [wsN] at h; omega
 | a :: l, [], _, _, _, _, h => by
  have := Nat.two_pow_pos a.toNat
  simp only [wsN] at h; omega
 | a :: l, b :: m, h1, h2, h3, h4, h => by
  obtain ⟨l1, l2⟩ := List.pairwise_cons.1 h1
  obtain ⟨m1, m2⟩ := List.pairwise_cons.1 h2
  rcases Int.lt_trichotomy a b with c | c | c
  ·exact absurd h (wsN_ne (h3 a (by simp)) l1 fun x hx => by
    rcases List.mem_cons.1 hx with rfl | hx
    ·exact c
    ·have := m1 x hx; omega)
  ·subst c
   simp only [wsN] at h
   rw [wsN_inj l2 m2 (fun x hx => h3 x (List.mem_cons_of_mem _ hx)) (fun x hx => h4 x (List.mem_cons_of_mem _ hx)) (by omega)]
  ·exact absurd h.symm (wsN_ne (h4 b (by simp)) m1 fun x hx => by
    rcases List.mem_cons.1 hx with rfl | hx
    ·exact c
    ·have := l1 x hx; omega)
theorem SetN.word_inj {s s' : List Int} {n : Int} (h : SetN s n) (h' : SetN s' n) (e : wsN s = wsN s') : s = s' :=
 wsN_inj h.1 h'.1 (fun x hx => (h.2 x hx).1) (fun x hx => (h'.2 x hx).1) e
theorem word_eq {s : List Int} {n : Int} (hs : SetN s n) (hn : n ≤ 24) : O3 s = some (wsN s : Int) := by
 have hl := hs.len
 unfold O3
 obtain ⟨w, h1, h2⟩ := p8 (body := aa6 s) (n := (s.length : Int)) (s := 0) (fun j w => w = (wsN (s.take j.toNat) : Int)) (by omega) (by simp [wsN]) (fun j w j0 j1 hP => by
  obtain ⟨a, ha, ga⟩ := i7 (l := s) j0 j1
  have hb := hs.2 a (i8 ha)
  have ht : s.take (j + 1).toNat = s.take j.toNat ++ [a] := by rw [show (j + 1).toNat = j.toNat + 1 by omega, List.take_add_one, ga]; rfl
  have b1 : wsN (s.take j.toNat) ≤ (s.take j.toNat).length * 16777216 := wsN_le fun x hx => by have := hs.2 x (List.mem_of_mem_take hx); omega
  have b2 : (s.take j.toNat).length ≤ 24 := by rw [List.length_take]; omega
  have b4 : (s.take j.toNat).length * 16777216 ≤ 24 * 16777216 := Nat.mul_le_mul_right _ b2
  obtain ⟨q, hq⟩ : ∃ q : Nat, q = 2 ^ a.toNat := ⟨_, rfl⟩
  have b3 : q ≤ 16777216 := by rw [hq]; exact (Nat.pow_le_pow_right (by decide) (by omega) : 2 ^ a.toNat ≤ 2 ^ 24)
  have ep : (2 : Int) ^ a.toNat = (q : Int) := by rw [hq]; push_cast; rfl
  unfold aa6
  rw [ha]
  simp only [ob]
  rw [IntKind.wrap_u64, Int.emod_eq_of_lt (by omega) (by omega), chk0, if_neg (by omega)]
  simp only [ob]
  have es : shlW .i64 1 a = (q : Int) := by
   unfold shlW
   rw [show min a.toNat (IntKind.i64).bits = a.toNat by simp only [IntKind.bits]; omega, Int.one_mul, ep]
   exact s5 (by omega) (by omega)
  rw [es, s5 (by omega) (by omega), ht, wsN_append, hP]
  refine ⟨_, rfl, ?_⟩
  simp only [wsN, ← hq]
  omega)
 rw [h1, h2, Int.toNat_natCast, List.take_length]
 rfl
theorem SetN.small {s : List Int} {n : Int} (h : SetN s n) (hn : n ≤ 24) : small s := fun x hx => by have := h.2 x hx; omega
theorem key1_eq {s : List Int} (hs : small s) (h1 : s.length ≤ 1000) : P1 [s] = some (keyK [s]) := by
 refine key_eq (by simpa using hs) ?_
 have := encS_len s
 simp only [encK, List.flatMap_cons, List.flatMap_nil, List.length_append, List.append_nil]
 omega
theorem SetN.key_inj {s s' : List Int} {n : Int} (hn : n ≤ 24) (h : SetN s n) (h' : SetN s' n) (e : keyK [s] = keyK [s']) : s = s' := by
 have := keyK_inj (l := [s]) (l' := [s']) (by simpa using h.small hn) (by simpa using h'.small hn) e
 simpa using this
theorem ai2 {t : b9} (ht : k6 t) {op : Int} (h0 : 0 ≤ op) (h1 : op < t.operators.length) {s : List Int} (hs : SetN s t.facts) : H5 t s op = u5 t s op := by
 obtain ⟨st, w, r1, r2, r3, r4, r5, r6⟩ := A9 ht h0 h1 hs
 have ho := ht.at h0 h1
 have hl := ho.l1
 have hn := ht.n1
 rw [r1]
 unfold H5
 rw [ix_oo h0 h1]
 simp only [ob]
 obtain ⟨l, a1, a2, a3, a4, a5⟩ := p8 (body := X4 t s (ooAt t op)) (n := ((ooAt t op).outcomes.length : Int)) (s := []) (fun j l => Ord l ∧ (l.length : Int) ≤ j ∧ (∀ y ∈ l, y.length ≤ 24) ∧ ∀ y, y ∈ l ↔ ∃ k x, k < j ∧ ix (ooAt t op).outcomes k = some x ∧ efc t.facts s x = y) (by omega) ⟨.nil, by simp, by simp, fun y => ⟨fun h => by (cases h), fun ⟨k, x, k1, k2, _⟩ => by have := (j7 k2).1; omega⟩⟩ (fun j l j0 j1 ⟨p1, p2, p3, p4⟩ => by
  obtain ⟨x, hx, _⟩ := i7 (l := (ooAt t op).outcomes) j0 j1
  unfold X4
  rw [hx]
  simp only [ob, effect_eq ht]
  obtain ⟨l', m1, m2, m3, m4⟩ := insert_eq p1 (by omega) (fun y hy => by have := p3 y hy; omega) (efc t.facts s x)
  rw [m1]
  have e24 := (al0 t.facts s x).len
  refine ⟨l', rfl, m2, by omega, fun y hy => ?_, fun y => ?_⟩
  ·rcases (m3 y).1 hy with rfl | h
   ·omega
   ·exact p3 y h
  ·rw [m3, p4]
   constructor
   ·rintro (rfl | ⟨k, x', k1, k2⟩)
    ·exact ⟨j, x, by omega, hx, rfl⟩
    ·exact ⟨k, x', by omega, k2⟩
   ·rintro ⟨k, x', k1, k2, k3⟩
    by_cases ek : k = j
    ·subst ek
     rw [hx] at k2; cases k2
     exact .inl k3.symm
    ·exact .inr ⟨k, x', by omega, k2, k3⟩)
 have hst : l = st := Ord.ext a2 r2 fun y => by
  rw [a5, r3]
  constructor
  ·rintro ⟨k, x, _, k2, k3⟩; exact ⟨x, i8 k2, k3⟩
  ·rintro ⟨x, hx, k3⟩
   obtain ⟨k, k0, k1, k2⟩ := k9 hx
   exact ⟨k, x, k1, k2, k3⟩
 subst hst
 have hm : mkL 8 (l.length : Int) (0 : Int) = some (List.replicate l.length 0) := by
  rw [mkL, if_pos (by omega)]; simp
 rw [a1]
 simp only [ob, hm]
 have e : forR 0 ((ooAt t op).outcomes.length : Int) (W8 t s (ooAt t op) l) (List.replicate l.length 0) = some w := by
  rw [← r6]
  refine forR_congr fun j c j0 j1 => ?_
  obtain ⟨x, hx, _⟩ := i7 (l := (ooAt t op).outcomes) j0 j1
  obtain ⟨i, e1, e2, e3⟩ := bsets_eq (t := efc t.facts s x) r2 (by omega)
  obtain ⟨r, g1, g2⟩ := ak1 l (efc t.facts s x)
  unfold W8 G9
  rw [hx, ix_map, hx]
  simp only [ob, Option.map_some, effect_eq ht, e1, g1]
  rcases g2 with ⟨_, h⟩ | ⟨_, _, h, _⟩
  ·exact absurd ((r3 _).2 ⟨x, i8 hx, rfl⟩) h
  ·rw [e3 r h]
 rw [e]
 rfl
end Ab
end
section
namespace Ab
open Go
def Ext (a b : LL) : Prop := ∀ k y, ix a k = some y → ix b k = some y
theorem Ext.refl (a : LL) : Ext a a := fun _ _ h => h
theorem Ext.mem {a b : LL} (h : Ext a b) {y : List Int} (hy : y ∈ a) : y ∈ b := by
 obtain ⟨k, _, _, hk⟩ := k9 hy
 exact i8 (h k y hk)
theorem Ext.snoc {a b : LL} (h : Ext a b) (z : List Int) : Ext a (b ++ [z]) := fun k y hk => by
 obtain ⟨i0, i1, g⟩ := j7 (h k y hk)
 rw [ix, if_pos i0, List.getElem?_append_left (by omega), g]
theorem Ext.len {a b : LL} (h : Ext a b) : a.length ≤ b.length := by
 by_cases c : a.length = 0
 ·omega
 ·obtain ⟨y, hy, _⟩ := i7 (l := a) (i := (a.length : Int) - 1) (by omega) (by omega)
  have := (j7 (h _ y hy)).2.1
  omega
structure Rc (t : b9) (l : LL) (m : List (ByteArray × Int)) (ws : List Int) : Prop where
 set : ∀ s ∈ l, SetN s t.facts
 len : l.length ≤ 2000
 map : ∀ s, SetN s t.facts → (0 < Option.getD (mget m (keyK [s])) 0 ↔ s ∈ l)
 wrd : ws = l.map fun s => (wsN s : Int)
theorem Rc.has {t : b9} {l : LL} {m : List (ByteArray × Int)} {ws : List Int} (h : Rc t l m ws) {s : List Int} (hs : SetN s t.facts) : (wsN s : Int) ∈ ws ↔ s ∈ l := by
 rw [h.wrd, List.mem_map]
 constructor
 ·rintro ⟨a, ha, e⟩
  have : a = s := (h.set a ha).word_inj hs (by omega)
  exact this ▸ ha
 ·intro hm; exact ⟨s, hm, rfl⟩
theorem Rc.put {t : b9} (hn : t.facts ≤ 24) {l : LL} {m : List (ByteArray × Int)} {ws : List Int} (h : Rc t l m ws) {s : List Int} (hs : SetN s t.facts) (hl : l.length < 2000) : Rc t (l ++ [s]) (mset m (keyK [s]) 1) (ws ++ [(wsN s : Int)]) := by
 refine ⟨fun y hy => ?_, by simp; omega, fun y hy => ?_, by rw [h.wrd]; simp⟩
 ·rcases List.mem_append.1 hy with g | g
  ·exact h.set y g
  ·simp only [List.mem_singleton] at g; subst g; exact hs
 ·rw [Y6, List.mem_append, List.mem_singleton]
  by_cases e : keyK [y] = keyK [s]
  ·have := SetN.key_inj hn hy hs e
   subst this
   rw [if_pos rfl]
   simp
  ·rw [if_neg e, h.map y hy]
   constructor
   ·exact .inl
   ·rintro (g | g)
    ·exact g
    ·exact absurd (by rw [g]) e
theorem reach4 {t : b9} (ht : k6 t) {st : LL} {w : List Int} (hst : ∀ y ∈ st, SetN y t.facts) {l0 : LL} {m0 : List (ByteArray × Int)} {ws0 : List Int} (h0 : Rc t l0 m0 ws0) :
  (∃ p q, rngX 0 (st.length : Int) (C1 (st, w)) (l0, m0) = some (.inl p) ∧ rngX 0 (st.length : Int) (n8 2000 (st, w)) (l0, ws0) = some (.inl q) ∧ q.1 = p.1 ∧ Rc t p.1 p.2 q.2 ∧ Ext l0 p.1 ∧ ∀ y ∈ st, y ∈ p.1) ∨ ∃ o1 o2, rngX 0 (st.length : Int) (C1 (st, w)) (l0, m0) = some (.inr o1) ∧ rngX 0 (st.length : Int) (n8 2000 (st, w)) (l0, ws0) = some (.inr o2) ∧ o1 = ([], false) ∧ o2 = ([], false) := by
 have hn := ht.n1
 rcases rngX_sim (b1 := C1 (st, w)) (b2 := n8 2000 (st, w)) (n := (st.length : Int)) (s1 := (l0, m0)) (s2 := (l0, ws0)) (fun j p q => q.1 = p.1 ∧ Rc t p.1 p.2 q.2 ∧ Ext l0 p.1 ∧ ∀ k y, k < j → ix st k = some y → y ∈ p.1) (fun o1 o2 => o1 = ([], false) ∧ o2 = ([], false)) (by omega) ⟨rfl, h0, .refl _, fun k y k0 hk => by have := (j7 hk).1; omega⟩ (fun j ⟨l, m⟩ ⟨l', ws⟩ j0 j1 ⟨e, g1, g2, g3⟩ => by
  dsimp only at e g1 g2 g3
  subst e
  obtain ⟨y, hy, _⟩ := i7 (l := st) j0 j1
  have hs := hst y (i8 hy)
  have hyl := hs.len
  unfold C1 n8
  dsimp only
  rw [hy]
  simp only [ob]
  rw [key1_eq (hs.small hn) (by omega), word_eq hs hn]
  simp only [ob, has_eq]
  have mono : ∀ {l2 : LL}, Ext l' l2 → y ∈ l2 → ∀ k z, k < j + 1 → ix st k = some z → z ∈ l2 := fun h1 h2 k z hk hz => by
   by_cases ek : k = j
   ·subst ek; rw [hy] at hz; cases hz; exact h2
   ·exact h1.mem (g3 k z (by omega) hz)
  by_cases c : y ∈ l'
  ·rw [if_pos ((g1.map y hs).2 c), ifP ((g1.has hs).2 c)]
   exact .inl ⟨_, _, rfl, rfl, rfl, g1, g2, mono (.refl _) c⟩
  ·rw [if_neg (fun h => c ((g1.map y hs).1 h)), ifN (fun h => c ((g1.has hs).1 h))]
   have hlen := g1.len
   by_cases c2 : (l'.length : Int) = 2000
   ·rw [if_pos c2, if_pos (by omega)]
    exact .inr ⟨_, _, rfl, rfl, rfl, rfl⟩
   ·rw [if_neg c2, if_neg (by omega), app, if_pos (by simp; omega)]
    simp only [ob]
    rw [app, if_pos (by rw [g1.wrd]; simp; omega)]
    exact .inl ⟨_, _, rfl, rfl, rfl, g1.put hn hs (by omega), g2.snoc _, mono ((Ext.refl _).snoc _) (by simp)⟩) with ⟨p, q, h1, h2, h3, h4, h5, h6⟩ | h
 ·refine .inl ⟨p, q, h1, h2, h3, h4, h5, fun y hy => ?_⟩
  obtain ⟨k, _, k1, hk⟩ := k9 hy
  exact h6 k y k1 hk
 ·exact .inr h
def ClS (t : b9) (l : LL) (s : List Int) (n : Int) : Prop := ∀ op : Int, 0 ≤ op → op < n → oCan t s op → ∀ x ∈ (ooAt t op).outcomes, efc t.facts s x ∈ l
theorem ClS.ext {t : b9} {l l' : LL} {s : List Int} {n : Int} (h : ClS t l s n) (e : Ext l l') : ClS t l' s n := fun op h0 h1 hc x hx => e.mem (h op h0 h1 hc x hx)
theorem reach2 {t : b9} (ht : k6 t) {l0 : LL} {m0 : List (ByteArray × Int)} {ws0 : List Int} (h0 : Rc t l0 m0 ws0) {at_ : Int} {s : List Int} (hs : ix l0 at_ = some s) :
  (∃ p q, rngX 0 (t.operators.length : Int) (D9 t at_) (l0, m0) = some (.inl p) ∧ rngX 0 (t.operators.length : Int) (m8 t 2000 at_) (l0, ws0) = some (.inl q) ∧ q.1 = p.1 ∧ Rc t p.1 p.2 q.2 ∧ Ext l0 p.1 ∧ ClS t p.1 s t.operators.length) ∨ ∃ o1 o2, rngX 0 (t.operators.length : Int) (D9 t at_) (l0, m0) = some (.inr o1) ∧ rngX 0 (t.operators.length : Int) (m8 t 2000 at_) (l0, ws0) = some (.inr o2) ∧ o1 = ([], false) ∧ o2 = ([], false) := by
 have hset := h0.set s (i8 hs)
 exact rngX_sim (b1 := D9 t at_) (b2 := m8 t 2000 at_) (n := (t.operators.length : Int)) (s1 := (l0, m0)) (s2 := (l0, ws0)) (fun j p q => q.1 = p.1 ∧ Rc t p.1 p.2 q.2 ∧ Ext l0 p.1 ∧ ClS t p.1 s j) (fun o1 o2 => o1 = ([], false) ∧ o2 = ([], false)) (by omega) ⟨rfl, h0, .refl _, fun op a b => by omega⟩ (fun j ⟨l, m⟩ ⟨l', ws⟩ j0 j1 ⟨e, g1, g2, g3⟩ => by
  dsimp only at e g1 g2 g3
  subst e
  unfold D9 m8
  dsimp only
  rw [g2 _ _ hs]
  simp only [ob]
  rw [oCan_eq ht j0 j1 hset, ac9 j0 j1]
  simp only [ob, q7]
  have step : ∀ {l2 : LL}, Ext l' l2 → (oCan t s j → ∀ x ∈ (ooAt t j).outcomes, efc t.facts s x ∈ l2) → ClS t l2 s (j + 1) := fun h1 h2 op a b hc x hx => by
   by_cases eo : op = j
   ·subst eo; exact h2 hc x hx
   ·exact h1.mem (g3 op a (by omega) hc x hx)
  by_cases c : oCan t s j
  ·rw [ifNN c, ifNN c, ai2 ht j0 j1 hset]
   obtain ⟨st, w, r1, r2, r3, _⟩ := A9 ht j0 j1 hset
   rw [r1]
   simp only [ob]
   rcases reach4 ht (st := st) (w := w) (fun y hy => by
    obtain ⟨x, _, rfl⟩ := (r3 y).1 hy
    exact al0 _ _ _) g1 with ⟨p, q, h1, h2, h3, h4, h5, h6⟩ | ⟨o1, o2, h1, h2, h3, h4⟩
   ·rw [h1, h2]
    refine .inl ⟨p, q, rfl, rfl, h3, h4, fun k y hk => h5 k y (g2 k y hk), step h5 fun _ x hx => h6 _ ((r3 _).2 ⟨x, hx, rfl⟩)⟩
   ·rw [h1, h2]
    exact .inr ⟨o1, o2, rfl, rfl, h3, h4⟩
  ·rw [ifP c, ifP c]
   exact .inl ⟨_, _, rfl, rfl, rfl, g1, g2, step (.refl _) fun h => absurd h c⟩)
structure Cl (t : b9) (l : LL) : Prop where
 len : l.length ≤ 2000
 set : ∀ s ∈ l, SetN s t.facts
 init : t.init ∈ l
 closed : ∀ s ∈ l, ClS t l s t.operators.length
theorem reach_full {t : b9} (ht : k6 t) : (∃ out, C0 t = some (out, true) ∧ u9 t 2000 = some (out, true) ∧ Cl t out ∧ Ord out ∧ ∃ l, Loop (n9 t 2000) ([t.init], [(wsN t.init : Int)], 0) = some (.inl l) ∧ out.length ≤ l.length) ∨ (C0 t = some ([], false) ∧ u9 t 2000 = some ([], false)) := by
 have hn := ht.n1
 have hi := ht.init
 have hil := hi.len
 unfold C0 u9
 rw [aj8 (by omega)]
 simp only [ob]
 rw [key1_eq (hi.small hn) (by omega), word_eq hi hn]
 simp only [ob]
 rw [app, if_pos (by simp)]
 simp only [ob, List.nil_append]
 have r0 : Rc t [t.init] (mset ([] : List (ByteArray × Int)) (keyK [t.init]) 1) [(wsN t.init : Int)] := by
  refine ⟨by simpa using hi, by simp, fun s hs => ?_, rfl⟩
  rw [Y6]
  by_cases e : keyK [s] = keyK [t.init]
  ·rw [if_pos e, SetN.key_inj hn hs hi e]; simp
  ·rw [if_neg e]
   simp only [mget, List.mem_singleton, Option.getD_none]
   exact ⟨fun h => by omega, fun h => absurd (by rw [h]) e⟩
 obtain ⟨o1, o2, q1, q2, q3⟩ := Loop_sim (b1 := A8 t) (b2 := n9 t 2000) (fun p q => q.1 = p.1 ∧ q.2.2 = p.2.2 ∧ Rc t p.1 p.2.1 q.2.1 ∧ 0 ≤ p.2.2 ∧ p.2.2 ≤ p.1.length ∧ t.init ∈ p.1 ∧ ∀ i s, i < p.2.2 → ix p.1 i = some s → ClS t p.1 s t.operators.length) (fun o1 o2 => (∃ l, o1 = .inl l ∧ o2 = .inl l ∧ Cl t l) ∨ (o1 = .inr ([], false) ∧ o2 = .inr ([], false))) (fun p => (2000 - p.2.2).toNat) (fun ⟨l, m, a⟩ ⟨l', ws, a'⟩ ⟨e1, e2, g1, g2, g3, g4, g5⟩ => by
  dsimp only at e1 e2 g1 g2 g3 g4 g5
  subst e1 e2
  have hlen := g1.len
  unfold A8 n9
  dsimp only
  by_cases c : a' < l'.length
  ·rw [if_pos c, if_pos c]
   obtain ⟨s, hs, _⟩ := i7 (l := l') g2 c
   rcases reach2 ht g1 hs with ⟨p, q, h1, h2, h3, h4, h5, h6⟩ | ⟨o1, o2, h1, h2, h3, h4⟩
   ·rw [h1, h2]
    have := h5.len
    have := h4.len
    simp only [ob]
    rw [s5 (by omega) (by omega)]
    refine .inl ⟨_, _, rfl, rfl, ⟨h3, rfl, h4, by dsimp only; omega, by dsimp only; omega, h5.mem g4, fun i s' hi' hs' => ?_⟩, by dsimp only; omega⟩
    dsimp only at hi' hs' ⊢
    by_cases ei : i = a'
    ·subst ei
     rw [h5 _ _ hs] at hs'; cases hs'
     exact h6
    ·obtain ⟨y, hy, _⟩ := i7 (l := l') (i := i) (j7 hs').1 (by omega)
     have hy2 := h5 _ _ hy
     rw [hs'] at hy2
     cases hy2
     exact (g5 i s' (by omega) hy).ext h5
   ·rw [h1, h2]
    refine .inr ⟨_, _, rfl, rfl, .inr ⟨by rw [h3], by rw [h4]⟩⟩
  ·rw [if_neg c, if_neg c]
   refine .inr ⟨_, _, rfl, rfl, .inl ⟨l', rfl, rfl, g1.len, g1.set, g4, fun s hs => ?_⟩⟩
   obtain ⟨i, i0, i1, hi⟩ := k9 hs
   exact g5 i s (by omega) hi) _ ([t.init], mset ([] : List (ByteArray × Int)) (keyK [t.init]) 1, 0) ([t.init], [(wsN t.init : Int)], 0) (Nat.lt_succ_self _) ⟨rfl, rfl, r0, by simp, by simp, by simp, fun i s hi hs => by have := (j7 hs).1; dsimp only at hi; omega⟩
 rw [q1, q2]
 rcases q3 with ⟨l, rfl, rfl, hc⟩ | ⟨rfl, rfl⟩
 ·left
  simp only [ob]
  have hcl := hc.len
  obtain ⟨r, n1, n2, n3, n4⟩ := ai3 (l := l) (by omega)
  rw [n1]
  obtain ⟨l', a1, a2, a3, a4, a5⟩ := p8 (body := K3 l) (n := (l.length : Int)) (s := []) (fun j l' => Ord l' ∧ (l'.length : Int) ≤ j ∧ (∀ y ∈ l', y.length ≤ 24) ∧ ∀ y, y ∈ l' ↔ ∃ k, k < j ∧ ix l k = some y) (by omega) ⟨.nil, by simp, by simp, fun y => ⟨fun h => by (cases h), fun ⟨k, k1, k2⟩ => by have := (j7 k2).1; omega⟩⟩ (fun j l' j0 j1 ⟨p1, p2, p3, p4⟩ => by
   obtain ⟨s, hs, _⟩ := i7 (l := l) j0 j1
   unfold K3
   rw [hs]
   simp only [ob]
   obtain ⟨l2, m1, m2, m3, m4⟩ := insert_eq p1 (by omega) (fun y hy => by have := p3 y hy; omega) s
   rw [m1]
   have e24 := (hc.set s (i8 hs)).len
   refine ⟨l2, rfl, m2, by omega, fun y hy => ?_, fun y => ?_⟩
   ·rcases (m3 y).1 hy with rfl | h
    ·omega
    ·exact p3 y h
   ·rw [m3, p4]
    constructor
    ·rintro (rfl | ⟨k, k1, k2⟩)
     ·exact ⟨j, by omega, hs⟩
     ·exact ⟨k, by omega, k2⟩
    ·rintro ⟨k, k1, k2⟩
     by_cases ek : k = j
     ·subst ek
      rw [hs] at k2; cases k2
      exact .inl rfl
     ·exact .inr ⟨k, by omega, k2⟩)
  rw [a1]
  have : l' = r := Ord.ext a2 n2 fun y => by
   rw [a5, n3]
   constructor
   ·rintro ⟨k, _, k2⟩; exact i8 k2
   ·intro hy
    obtain ⟨k, _, k1, hk⟩ := k9 hy
    exact ⟨k, k1, hk⟩
  subst this
  refine ⟨l', rfl, rfl, ⟨by omega, fun s hs => hc.set s ((n3 s).1 hs), (n3 _).2 hc.init, fun s hs op h0 h1 hcan x hx => (n3 _).2 (hc.closed s ((n3 s).1 hs) op h0 h1 hcan x hx)⟩, a2, l, rfl, n4⟩
 ·right
  exact ⟨rfl, rfl⟩
theorem explore_ok {t : b9} (ht : k6 t) : I7 t = (C0 t).bind fun r => if r.2 = true then some (r.1, ⟨0, 0⟩) else some ([], ⟨10, -7⟩) := by
 obtain ⟨f, h1, _, h3⟩ := ag1 t
 rcases h3 with ⟨rfl, _⟩ | ⟨_, hn⟩
 ·unfold I7
  rw [h1]
  simp only [ob]
  rw [if_neg (by simp)]
  congr 1
  funext r
  cases r.2 <;> rfl
 ·exact absurd ht hn
theorem explore_bad {t : b9} {f : l6} (hv : E0 t = some f) (hc : f.code ≠ 0) : I7 t = some ([], f) := by
 unfold I7
 rw [hv]
 simp only [ob]
 rw [if_pos (fault_no hc)]
end Ab
end
section
namespace Ab
open Go
theorem O4 {α : Type} [DecidableEq α] : ∀ {c S : List α}, c.Nodup → (∀ x ∈ c, x ∈ S) → c.length ≤ S.length
 | [], _, _, _ => Nat.zero_le _
 | a :: c, S, h, hs => by
  obtain ⟨h1, h2⟩ := List.nodup_cons.1 h
  have ha := hs a (by simp)
  have := O4 (c := c) (S := S.erase a) h2 fun x hx => by
   have hne : x ≠ a := fun e => h1 (e ▸ hx)
   exact (List.mem_erase_of_ne hne).2 (hs x (List.mem_cons_of_mem _ hx))
  rw [List.length_erase_of_mem ha] at this
  have : 0 < S.length := List.length_pos_of_mem ha
  simp only [List.length_cons]
  omega
section
variable {α : Type}
def Dn (G L : α → Prop) (nx : α → List α) : Nat → α → Prop
 | 0, s => G s
 | k + 1, s => G s ∨ (L s ∧ ∀ y ∈ nx s, Dn G L nx k y)
variable {G L : α → Prop} {nx : α → List α}
theorem Dn.goal {k : Nat} {s : α} (h : G s) : Dn G L nx k s := by
 cases k with
 | zero => exact h
 | succ k => exact .inl h
theorem Dn.succ : ∀ {k : Nat} {s : α}, Dn G L nx k s → Dn G L nx (k + 1) s
 | 0, s, h => .inl h
 | k + 1, s, h => by
  rcases h with h | ⟨h1, h2⟩
  ·exact .inl h
  ·exact .inr ⟨h1, fun y hy => (h2 y hy).succ⟩
theorem Dn.mono {k m : Nat} {s : α} (h : Dn G L nx k s) (hm : k ≤ m) : Dn G L nx m s := by
 induction hm with
 | refl => exact h
 | step _ ih => exact ih.succ
def Ht (G L : α → Prop) (nx : α → List α) (k : Nat) (s : α) : Prop := Dn G L nx k s ∧ ∀ j, j < k → ¬ Dn G L nx j s
theorem Ht.unique {k m : Nat} {s : α} (h : Ht G L nx k s) (h' : Ht G L nx m s) : k = m := by
 rcases Nat.lt_trichotomy k m with c | c | c
 ·exact absurd h.1 (h'.2 k c)
 ·exact c
 ·exact absurd h'.1 (h.2 m c)
theorem Ht.le {k m : Nat} {s : α} (h : Ht G L nx k s) (h' : Dn G L nx m s) : k ≤ m := by
 rcases Nat.lt_or_ge m k with c | c
 ·exact absurd h' (h.2 m c)
 ·exact c
theorem Ht.of_dn : ∀ {k : Nat} {s : α}, Dn G L nx k s → ∃ m, m ≤ k ∧ Ht G L nx m s
 | 0, s, h => ⟨0, Nat.le_refl _, h, fun j hj => by omega⟩
 | k + 1, s, h => by
  by_cases c : Dn G L nx k s
  ·obtain ⟨m, h1, h2⟩ := Ht.of_dn c
   exact ⟨m, by omega, h2⟩
  ·exact ⟨k + 1, Nat.le_refl _, h, fun j hj hd => c (hd.mono (by omega))⟩
theorem Ht.zero {s : α} (h : G s) : Ht G L nx 0 s := ⟨h, fun j hj => by omega⟩
theorem Ht.goal {k : Nat} {s : α} (h : Ht G L nx k s) (hg : G s) : k = 0 := h.unique (.zero hg)
theorem Ht.step {k : Nat} {s : α} (h : Ht G L nx k s) (hg : ¬ G s) (hne : ∀ s, L s → nx s ≠ []) : ∃ m, k = m + 1 ∧ L s ∧ (∀ y ∈ nx s, ∃ j, j ≤ m ∧ Ht G L nx j y) ∧ ∃ y ∈ nx s, Ht G L nx m y := by
 cases k with
 | zero => exact absurd h.1 hg
 | succ m =>
  rcases h.1 with g | ⟨h1, h2⟩
  ·exact absurd g hg
  ·refine ⟨m, rfl, h1, fun y hy => Ht.of_dn (h2 y hy), ?_⟩
   cases m with
   | zero =>
    obtain ⟨y, hy⟩ := List.exists_mem_of_ne_nil _ (hne s h1)
    exact ⟨y, hy, h2 y hy, fun j hj => by omega⟩
   | succ m =>
    have hn := h.2 (m + 1) (by omega)
    have : ∃ y ∈ nx s, ¬ Dn G L nx m y := Classical.byContradiction fun hc => hn (.inr ⟨h1, fun y hy => Classical.byContradiction fun hy2 => hc ⟨y, hy, hy2⟩⟩)
    obtain ⟨y, hy, hy2⟩ := this
    exact ⟨y, hy, h2 y hy, fun j hj hd => hy2 (hd.mono (by omega))⟩
end
end Ab
end
section
namespace Ab
open Go
def j3 (t : b9) (s : List Int) : Prop := ∀ x ∈ t.goal, x ∈ s
noncomputable def B4 (p : List d9) (s : List Int) : Prop := 0 ≤ chO p s
noncomputable def nxS (t : b9) (p : List d9) (s : List Int) : LL := (ooAt t (chO p s)).outcomes.map (efc t.facts s)
inductive Rch (t : b9) (p : List d9) : List Int → Prop
 | init : Rch t p t.init
 | step {s y : List Int} : Rch t p s → ¬ j3 t s → B4 p s → y ∈ nxS t p s → Rch t p y
theorem chO_mem {p : List d9} {s : List Int} (h : 0 ≤ chO p s) : ∃ c ∈ p, c.state = s ∧ chO p s = c.operator := by
 obtain ⟨r, h1, h2⟩ := ae9 p s
 have e : chO p s = r := by rw [chO, h1]; rfl
 rw [e] at h ⊢
 rcases h2 with ⟨rfl, _⟩ | ⟨c, h3, h4, h5⟩
 ·omega
 ·exact ⟨c, h3, h4, h5⟩
theorem live_op {t : b9} {p : List d9} (hp : H8 t p) {s : List Int} (h : B4 p s) : (0 ≤ chO p s ∧ chO p s < t.operators.length) ∧ oCan t s (chO p s) := by
 obtain ⟨_, e⟩ := af4 hp s
 unfold B4 at h
 rcases e with e | e
 ·omega
 ·exact ⟨⟨e.1, e.2.1⟩, e.2.2⟩
theorem Rch.set {t : b9} (ht : k6 t) {p : List d9} {s : List Int} (h : Rch t p s) : SetN s t.facts := by
 cases h with
 | init => exact ht.init
 | step _ _ _ hy =>
  obtain ⟨x, _, rfl⟩ := List.mem_map.1 hy
  exact al0 _ _ _
noncomputable def candK (t : b9) (p : List d9) : LL := t.init :: p.flatMap fun c => (ooAt t c.operator).outcomes.map (efc t.facts c.state)
theorem flat_len {α β : Type} {f : α → List β} {n : Nat} : ∀ {l : List α}, (∀ a ∈ l, (f a).length ≤ n) → (l.flatMap f).length ≤ l.length * n
 | [], _ => by simp
 | a :: l, h => by
  have h1 := h a (by simp)
  have h2 := flat_len (l := l) fun b hb => h b (List.mem_cons_of_mem _ hb)
  rw [List.flatMap_cons, List.length_append, List.length_cons, Nat.succ_mul]
  omega
theorem candK_len {t : b9} (ht : k6 t) {p : List d9} (hp : H8 t p) : (candK t p).length ≤ 801 := by
 have h := flat_len (f := fun c : d9 => (ooAt t c.operator).outcomes.map (efc t.facts c.state)) (n := 4) (l := p) fun c hc => by
  have := hp.op c hc
  have := (ht.at this.1 this.2).l1
  simpa using this
 have := hp.len
 have h2 : p.length * 4 ≤ 200 * 4 := Nat.mul_le_mul_right _ this
 unfold candK
 rw [List.length_cons]
 omega
theorem Rch.cand {t : b9} {p : List d9} {s : List Int} (h : Rch t p s) : s ∈ candK t p := by
 cases h with
 | init => exact List.mem_cons_self ..
 | @step s y _ _ hl hy =>
  obtain ⟨c, h1, h2, h3⟩ := chO_mem hl
  refine List.mem_cons_of_mem _ (List.mem_flatMap.2 ⟨c, h1, ?_⟩)
  unfold nxS at hy
  rw [h3] at hy
  rw [h2]
  exact hy
theorem ab9 {t : b9} (ht : k6 t) {p : List d9} (hp : H8 t p) {l : LL} (hn : l.Nodup) (h : ∀ s ∈ l, Rch t p s) : l.length ≤ 801 :=
 Nat.le_trans (O4 hn fun s hs => (h s hs).cand) (candK_len ht hp)
theorem Ord.nodup {l : LL} (h : Ord l) : l.Nodup := List.Pairwise.imp (fun {a b : List Int} (hab : llt a b) (e : a = b) => F8 a (by rw [← e] at hab; exact hab)) h
def ClV (t : b9) (p : List d9) (l : LL) (s : List Int) : Prop := ¬ j3 t s → B4 p s → ∀ y ∈ nxS t p s, y ∈ l
structure Vis (t : b9) (p : List d9) (l : LL) : Prop where
 ord : Ord l
 mem : ∀ s, s ∈ l ↔ Rch t p s
theorem vis_of {t : b9} {p : List d9} {l : LL} (ho : Ord l) (hi : t.init ∈ l) (hr : ∀ s ∈ l, Rch t p s) (hc : ∀ s ∈ l, ClV t p l s) : Vis t p l := by
 refine ⟨ho, fun s => ⟨hr s, fun h => ?_⟩⟩
 induction h with
 | init => exact hi
 | step _ hg hl hy ih => exact hc _ ih hg hl _ hy
theorem Vis.unique {t : b9} {p : List d9} {l m : LL} (h : Vis t p l) (h' : Vis t p m) : l = m := Ord.one h.ord h'.ord h.mem h'.mem
theorem containsLL_eq {l : LL} {s : List Int} : n5 l (fun y => I4 y s) = some (dec (s ∈ l)) := by
 unfold n5 B6
 rcases u4 (body := s9 l fun y => I4 y s) (n := (l.length : Int)) (fun j => if dec (ix l j = some s) = true then some j else none) (by omega) (fun j h0 h1 _ => by
  obtain ⟨x, hx, _⟩ := i7 (l := l) h0 h1
  unfold s9 I4
  rw [hx]
  simp only [ob, equal_eq]
  by_cases e : x = s
  ·rw [ifP e, ifP (by rw [e])]
  ·rw [ifN e, ifN (by simpa using e)]) with ⟨h1, h2⟩ | ⟨j, o, h0, h1, h2, h3, h4⟩
 ·rw [h1]
  simp only [ob]
  rw [o6]
  ·rfl
  ·intro hs
   obtain ⟨i, i0, i1, hi⟩ := k9 hs
   have := h2 i i0 i1
   rw [ifP hi] at this
   cases this
 ·rw [h4]
  split at h2
  ·rename_i e
   cases h2
   simp only [ob]
   rw [k7 (i8 (l4.1 e)), decide_eq_true h0]
  ·cases h2
theorem vis4 {t : b9} (ht : k6 t) {p : List d9} (hp : H8 t p) {s : List Int} (hs : Rch t p s) (hg : ¬ j3 t s) (hl : B4 p s) {st : LL} {w : List Int} (hst : ∀ y, y ∈ st ↔ y ∈ nxS t p s) {l0 : LL} (hn : l0.Nodup) (hr : ∀ s ∈ l0, Rch t p s) :
  ∃ l, forR 0 (st.length : Int) (K8 (st, w)) l0 = some l ∧ l.Nodup ∧ (∀ s ∈ l, Rch t p s) ∧ Ext l0 l ∧ ∀ y ∈ st, y ∈ l := by
 obtain ⟨l, h1, h2, h3, h4, h5⟩ := p8 (body := K8 (st, w)) (n := (st.length : Int)) (s := l0) (fun j l => l.Nodup ∧ (∀ s ∈ l, Rch t p s) ∧ Ext l0 l ∧ ∀ k y, k < j → ix st k = some y → y ∈ l) (by omega) ⟨hn, hr, .refl _, fun k y hk h => by have := (j7 h).1; omega⟩ (fun j l j0 j1 ⟨a1, a2, a3, a4⟩ => by
  obtain ⟨y, hy, _⟩ := i7 (l := st) j0 j1
  unfold K8
  dsimp only
  rw [hy]
  simp only [ob, containsLL_eq, q7]
  have mono : ∀ {l2 : LL}, Ext l l2 → y ∈ l2 → ∀ k z, k < j + 1 → ix st k = some z → z ∈ l2 := fun h1 h2 k z hk hz => by
   by_cases ek : k = j
   ·subst ek; rw [hy] at hz; cases hz; exact h2
   ·exact h1.mem (a4 k z (by omega) hz)
  have hry : Rch t p y := .step hs hg hl ((hst y).1 (i8 hy))
  by_cases c : y ∈ l
  ·rw [ifNN c]
   exact ⟨l, rfl, a1, a2, a3, mono (.refl _) c⟩
  ·have hlen := ab9 ht hp a1 a2
   rw [ifP c, app, if_pos (by simp; omega)]
   refine ⟨_, rfl, List.nodup_append.2 ⟨a1, by simp, fun a ha b hb => ?_⟩, fun z hz => ?_, a3.snoc _, mono ((Ext.refl _).snoc _) (by simp)⟩
   ·simp only [List.mem_singleton] at hb; subst hb; exact fun e => c (e ▸ ha)
   ·rcases List.mem_append.1 hz with g | g
    ·exact a2 z g
    ·simp only [List.mem_singleton] at g; exact g ▸ hry)
 refine ⟨l, h1, h2, h3, h4, fun y hy => ?_⟩
 obtain ⟨k, _, k1, hk⟩ := k9 hy
 exact h5 k y k1 hk
theorem oVisited_eq {t : b9} (ht : k6 t) {p : List d9} (hp : H8 t p) : ∃ l, S7 t p = some l ∧ Vis t p l := by
 have hn := ht.n1
 have hil := ht.init.len
 unfold S7
 rw [aj8 (by omega)]
 simp only [ob]
 obtain ⟨l, h1, h2, h3, h4, h5⟩ := A6 (body := S3 t p) (fun q => q.1.Nodup ∧ (∀ s ∈ q.1, Rch t p s) ∧ t.init ∈ q.1 ∧ (0 ≤ q.2 ∧ q.2 ≤ q.1.length) ∧ ∀ i s, i < q.2 → ix q.1 i = some s → ClV t p q.1 s) (fun l => l.Nodup ∧ (∀ s ∈ l, Rch t p s) ∧ t.init ∈ l ∧ ∀ s ∈ l, ClV t p l s) (fun q => (801 - q.2).toNat) (s := ([t.init], 0)) ⟨by simp, by simpa using Rch.init, by simp, by simp, fun i s hi h => by have := (j7 h).1; dsimp only at hi; omega⟩ (fun ⟨l, a⟩ ⟨g1, g2, g3, g4, g5⟩ => by
  dsimp only at g1 g2 g3 g4 g5 ⊢
  have hlen := ab9 ht hp g1 g2
  unfold S3
  dsimp only
  by_cases c : a < l.length
  ·rw [if_pos c]
   obtain ⟨s, hs, _⟩ := i7 (l := l) g4.1 c
   have hrs := g2 s (i8 hs)
   have hset := hrs.set ht
   have hsl := hset.len
   rw [hs]
   simp only [ob, (af4 hp s).1, W1 hset.1 ht.goal.1 (show s.length ≤ 1000000 by omega)]
   have key : (if chO p s < 0 then some true else some (dec (∀ x ∈ t.goal, x ∈ s))) = some (dec (chO p s < 0 ∨ j3 t s)) := by
    unfold j3
    rw [← ifOr]
    by_cases h : chO p s < 0
    ·rw [if_pos h, ifP h]
    ·rw [if_neg h, ifN h]
   rw [key]
   simp only [ob]
   have fin : ∀ {l2 : LL}, Ext l l2 → ClV t p l2 s → ∀ i z, i < a + 1 → ix l2 i = some z → ClV t p l2 z := fun h1 h2 i z hi hz => by
    by_cases ei : i = a
    ·subst ei
     rw [h1 _ _ hs] at hz; cases hz; exact h2
    ·obtain ⟨y, hy, _⟩ := i7 (l := l) (i := i) (j7 hz).1 (by omega)
     have := h1 _ _ hy
     rw [hz] at this; cases this
     exact fun q1 q2 y hy2 => h1.mem (g5 i z (by omega) hy q1 q2 y hy2)
   by_cases cs : chO p s < 0 ∨ j3 t s
   ·rw [ifP cs]
    simp only [ob]
    rw [s5 (by omega) (by omega)]
    refine .inl ⟨_, rfl, ⟨g1, g2, g3, by dsimp only; omega, fin (.refl _) fun q1 q2 => ?_⟩, by dsimp only; omega⟩
    rcases cs with c1 | c1
    ·unfold B4 at q2; omega
    ·exact absurd c1 q1
   ·rw [ifN cs]
    have hl : B4 p s := by unfold B4; have := fun h => cs (.inl h); omega
    have hg : ¬ j3 t s := fun h => cs (.inr h)
    have ho := live_op hp hl
    obtain ⟨st, w, r1, _, r3, _⟩ := A9 ht ho.1.1 ho.1.2 hset
    rw [r1]
    simp only [ob]
    obtain ⟨l2, e1, e2, e3, e4, e5⟩ := vis4 ht hp hrs hg hl (st := st) (w := w) (fun y => by rw [r3, nxS, List.mem_map]) g1 g2
    rw [e1]
    simp only [ob]
    have := e4.len
    rw [s5 (by omega) (by omega)]
    exact .inl ⟨_, rfl, ⟨e2, e3, e4.mem g3, by dsimp only; omega, fin e4 fun _ _ y hy => e5 y (by rw [r3]; exact List.mem_map.1 hy)⟩, by dsimp only; omega⟩
  ·rw [if_neg c]
   refine .inr ⟨l, rfl, g1, g2, g3, fun s hs => ?_⟩
   obtain ⟨i, i0, i1, hi⟩ := k9 hs
   exact g5 i s (by omega) hi)
 rw [h1]
 simp only [ob]
 have hlen := ab9 ht hp h2 h3
 obtain ⟨r, n1, n2, n3, n4⟩ := ai3 (l := l) (by omega)
 rw [n1]
 exact ⟨r, rfl, vis_of n2 ((n3 _).2 h4) (fun s hs => h3 s ((n3 s).1 hs)) fun s hs q1 q2 y hy => (n3 y).2 (h5 s ((n3 s).1 hs) q1 q2 y hy)⟩
theorem rvis3 {t : b9} (ht : k6 t) {p : List d9} (hp : H8 t p) {s : List Int} (hs : Rch t p s) (hg : ¬ j3 t s) (hl : B4 p s) {st : LL} {w : List Int} (hst : ∀ y, y ∈ st ↔ y ∈ nxS t p s) {l0 : LL} {b0 : Bool} (ho : Ord l0) (hr : ∀ s ∈ l0, Rch t p s) :
  ∃ l b, forR 0 (st.length : Int) (L3 (st, w)) (l0, b0) = some (l, b) ∧ Ord l ∧ (∀ s ∈ l, Rch t p s) ∧ (∀ s ∈ l0, s ∈ l) ∧ l0.length ≤ l.length ∧ (b = false → b0 = false ∧ l = l0 ∧ ∀ y ∈ st, y ∈ l) ∧ (b = true → b0 = true ∨ l0.length < l.length) := by
 have hn := ht.n1
 obtain ⟨⟨l, b⟩, h1, h2, h3, h4, h5, h6, h7⟩ := p8 (body := L3 (st, w)) (n := (st.length : Int)) (s := (l0, b0)) (fun j q => Ord q.1 ∧ (∀ s ∈ q.1, Rch t p s) ∧ (∀ s ∈ l0, s ∈ q.1) ∧ l0.length ≤ q.1.length ∧ (q.2 = false → b0 = false ∧ q.1 = l0 ∧ ∀ k y, k < j → ix st k = some y → y ∈ q.1) ∧ (q.2 = true → b0 = true ∨ l0.length < q.1.length)) (by omega) ⟨ho, hr, fun _ h => h, Nat.le_refl _, fun h => ⟨h, rfl, fun k y hk h => by have := (j7 h).1; omega⟩, fun h => .inl h⟩ (fun j ⟨l, b⟩ j0 j1 ⟨a1, a2, a3, a4, a5, a6⟩ => by
  dsimp only at a1 a2 a3 a4 a5 a6
  obtain ⟨y, hy, _⟩ := i7 (l := st) j0 j1
  have hry : Rch t p y := .step hs hg hl ((hst y).1 (i8 hy))
  unfold L3
  dsimp only
  rw [hy]
  obtain ⟨z, z1, z2⟩ := ak1 l y
  simp only [ob, z1]
  rcases z2 with ⟨rfl, hz⟩ | ⟨z0, _, hz, _⟩
  ·rw [if_pos (by decide)]
   have hlen := ab9 ht hp a1.nodup a2
   obtain ⟨l2, m1, m2, m3, m4⟩ := insert_eq a1 (by omega) (fun y hy => by have := ((a2 y hy).set ht).len; omega) y
   rw [m1]
   have hlt : l.length < l2.length := by
    have := O4 (c := y :: l) (S := l2) (List.nodup_cons.2 ⟨hz, a1.nodup⟩) fun x hx => (m3 x).2 (List.mem_cons.1 hx)
    simp only [List.length_cons] at this
    omega
   refine ⟨_, rfl, m2, fun x hx => ?_, fun x hx => (m3 x).2 (.inr (a3 x hx)), by dsimp only; omega, fun h => by (cases h), fun _ => .inr (by dsimp only; omega)⟩
   rcases (m3 x).1 hx with rfl | h
   ·exact hry
   ·exact a2 x h
  ·rw [if_neg (by omega)]
   refine ⟨_, rfl, a1, a2, a3, a4, fun h => ?_, a6⟩
   obtain ⟨q1, q2, q3⟩ := a5 h
   refine ⟨q1, q2, fun k z' hk hz' => ?_⟩
   by_cases ek : k = j
   ·subst ek; rw [hy] at hz'; cases hz'; exact i8 hz
   ·exact q3 k z' (by omega) hz')
 refine ⟨l, b, h1, h2, h3, h4, h5, fun h => ?_, h7⟩
 obtain ⟨q1, q2, q3⟩ := h6 h
 refine ⟨q1, q2, fun y hy => ?_⟩
 obtain ⟨k, _, k1, hk⟩ := k9 hy
 exact q3 k y k1 hk
theorem rVisited_eq {t : b9} (ht : k6 t) {p : List d9} (hp : H8 t p) : ∃ l, T9 t p = some l ∧ Vis t p l := by
 have hn := ht.n1
 unfold T9
 obtain ⟨l, h1, h2⟩ := A6 (body := R7 t p) (fun q => Ord q.1 ∧ (∀ s ∈ q.1, Rch t p s) ∧ t.init ∈ q.1 ∧ (q.2 = false → ∀ s ∈ q.1, ClV t p q.1 s)) (fun l => Vis t p l) (fun q => 2 * (801 - q.1.length) + if q.2 = true then 1 else 0) (s := ([t.init], true)) ⟨by simp, by simpa using Rch.init, by simp, fun h => by cases h⟩ (fun ⟨l0, b0⟩ ⟨g1, g2, g3, g4⟩ => by
  dsimp only at g1 g2 g3 g4 ⊢
  unfold R7
  dsimp only
  by_cases cb : b0 = true
  ·subst cb
   rw [if_pos rfl]
   obtain ⟨⟨l, b⟩, e1, e2, e3, e4, e5, e6, e7⟩ := A6 (body := Q7 t p) (fun q => Ord q.1 ∧ (∀ s ∈ q.1, Rch t p s) ∧ t.init ∈ q.1 ∧ l0.length ≤ q.1.length ∧ 0 ≤ q.2.2 ∧ (q.2.1 = false → q.1 = l0 ∧ ∀ i s, i < q.2.2 → ix q.1 i = some s → ClV t p q.1 s) ∧ (q.2.1 = true → l0.length < q.1.length)) (fun r => Ord r.1 ∧ (∀ s ∈ r.1, Rch t p s) ∧ t.init ∈ r.1 ∧ l0.length ≤ r.1.length ∧ (r.2 = false → ∀ s ∈ r.1, ClV t p r.1 s) ∧ (r.2 = false → r.1 = l0) ∧ (r.2 = true → l0.length < r.1.length)) (fun q => (801 - q.2.2).toNat) (s := (l0, false, 0)) ⟨g1, g2, g3, Nat.le_refl _, by simp, fun _ => ⟨rfl, fun i s hi h => by have := (j7 h).1; dsimp only at hi; omega⟩, fun h => by (cases h)⟩ (fun ⟨l, b, i⟩ ⟨a1, a2, a3, a4, a5, a6, a7⟩ => by
    dsimp only at a1 a2 a3 a4 a5 a6 a7 ⊢
    have hlen := ab9 ht hp a1.nodup a2
    unfold Q7
    dsimp only
    by_cases c : i < l.length
    ·rw [if_pos c]
     obtain ⟨s, hs, _⟩ := i7 (l := l) a5 c
     have hrs := a2 s (i8 hs)
     have hset := hrs.set ht
     rw [hs]
     simp only [ob, rChosen_chO]
     have key : (if chO p s < 0 then some true else Option.bind (L8 t s) fun a36 => some a36) = some (dec (chO p s < 0 ∨ j3 t s)) := by
      unfold L8 j3
      rw [subset_eq, ← ifOr]
      simp only [ob]
      by_cases h : chO p s < 0
      ·rw [if_pos h, ifP h]
      ·rw [if_neg h, ifN h]
     rw [key]
     simp only [ob]
     by_cases cs : chO p s < 0 ∨ j3 t s
     ·rw [ifP cs]
      simp only [ob]
      rw [s5 (by omega) (by omega)]
      refine .inl ⟨_, rfl, ⟨a1, a2, a3, a4, by dsimp only; omega, fun h => ⟨(a6 h).1, fun k z hk hz => ?_⟩, a7⟩, by dsimp only; omega⟩
      dsimp only at hk
      by_cases ek : k = i
      ·subst ek; rw [hs] at hz; cases hz
       intro q1 q2
       rcases cs with c1 | c1
       ·unfold B4 at q2; omega
       ·exact absurd c1 q1
      ·exact (a6 h).2 k z (by omega) hz
     ·rw [ifN cs]
      have hl : B4 p s := by unfold B4; have := fun h => cs (.inl h); omega
      have hg : ¬ j3 t s := fun h => cs (.inr h)
      have ho := live_op hp hl
      rw [ai2 ht ho.1.1 ho.1.2 hset]
      obtain ⟨st, w, r1, _, r3, _⟩ := A9 ht ho.1.1 ho.1.2 hset
      rw [r1]
      simp only [ob]
      obtain ⟨l2, b2, f1, f2, f3, f4, f5, f6, f7⟩ := rvis3 ht hp hrs hg hl (st := st) (w := w) (fun y => by rw [r3, nxS, List.mem_map]) (b0 := b) a1 a2
      rw [f1]
      simp only [ob]
      rw [s5 (by omega) (by omega)]
      refine .inl ⟨_, rfl, ⟨f2, f3, f4 _ a3, by dsimp only; omega, by dsimp only; omega, fun h => ?_, fun h => ?_⟩, by dsimp only; omega⟩
      ·obtain ⟨q1, q2, q3⟩ := f6 h
       subst q2
       refine ⟨(a6 q1).1, fun k z hk hz => ?_⟩
       dsimp only at hk
       by_cases ek : k = i
       ·subst ek; rw [hs] at hz; cases hz
        exact fun _ _ y hy => q3 y (by rw [r3]; exact List.mem_map.1 hy)
       ·exact (a6 q1).2 k z (by omega) hz
      ·rcases f7 h with q | q
       ·have := a7 q; dsimp only; omega
       ·dsimp only; omega
    ·rw [if_neg c]
     refine .inr ⟨_, rfl, a1, a2, a3, a4, fun h s hs => ?_, fun h => (a6 h).1, a7⟩
     obtain ⟨k, k0, k1, hk⟩ := k9 hs
     exact (a6 h).2 k s (by have : k < (l.length : Int) := k1; omega) hk)
   rw [e1]
   simp only [ob]
   dsimp only at e2 e3 e4 e5 e6 e7
   have hlen := ab9 ht hp e2.nodup e3
   refine .inl ⟨_, rfl, ⟨e2, e3, e4, e6⟩, ?_⟩
   dsimp only
   cases b with
   | false => simp; have := e7.1 rfl; rw [this]; omega
   | true => have := e7.2 rfl; simp; omega
  ·rw [if_neg cb]
   have hb : b0 = false := by simpa using cb
   exact .inr ⟨_, rfl, vis_of g1 g3 g2 (g4 hb)⟩)
 rw [h1]
 exact ⟨l, rfl, h2⟩
end Ab
end
section
namespace Ab
open Go
abbrev HtS (t : b9) (p : List d9) (k : Nat) (s : List Int) : Prop := Ht (j3 t) (B4 p) (nxS t p) k s
theorem Vis.closed {t : b9} {p : List d9} {l : LL} (h : Vis t p l) : ∀ s ∈ l, ¬ j3 t s → B4 p s → ∀ y ∈ nxS t p s, y ∈ l := fun s hs hg hl y hy => (h.mem y).2 (.step ((h.mem s).1 hs) hg hl hy)
theorem Vis.len {t : b9} (ht : k6 t) {p : List d9} (hp : H8 t p) {l : LL} (h : Vis t p l) : l.length ≤ 801 := ab9 ht hp h.ord.nodup fun s hs => (h.mem s).1 hs
theorem find_eq {l : LL} (ho : Ord l) (hl : l.length ≤ 500000) {s : List Int} {i : Int} (hi : ix l i = some s) : L9 l s = some i := by
 unfold L9
 obtain ⟨k, h1, _, h3⟩ := bsets_eq (t := s) ho hl
 rw [h1, h3 i hi]; rfl
theorem ad8 {l : LL} (ho : Ord l) {s : List Int} {i : Int} (hi : ix l i = some s) : B2 l s = some i := by
 obtain ⟨z, h1, h2⟩ := ak1 l s
 rw [h1]
 rcases h2 with ⟨_, h⟩ | ⟨_, _, h, _⟩
 ·exact absurd (i8 hi) h
 ·rw [ho.inj h hi]
structure ValOk (t : b9) (p : List d9) (l : LL) (v : List Int) : Prop where
 len : v.length = l.length
 val : ∀ i s x, ix l i = some s → ix v i = some x → x = -1 ∨ ∃ k : Nat, x = k ∧ HtS t p k s
 goal : ∀ i s x, ix l i = some s → ix v i = some x → j3 t s → x = 0
theorem ValOk.m1 {t : b9} {p : List d9} {l : LL} {v : List Int} (h : ValOk t p l v) : ∀ x ∈ v, -1 ≤ x := fun x hx => by
 obtain ⟨i, i0, i1, hi⟩ := k9 hx
 obtain ⟨s, hs, _⟩ := i7 (l := l) i0 (by have := h.len; omega)
 rcases h.val i s x hs hi with e | ⟨k, e, _⟩ <;> omega
def Stays (v v' : List Int) : Prop := ∀ i x, ix v i = some x → x ≠ -1 → ix v' i = some x
theorem Stays.known {v v' : List Int} (h : Stays v v') (hl : v'.length = v.length) {i : Int} (hn : ix v i ≠ some (-1)) : ix v' i ≠ some (-1) := fun he => by
 obtain ⟨i0, i1, _⟩ := j7 he
 obtain ⟨x, hx, _⟩ := i7 (l := v) i0 (by omega)
 have hne : x ≠ -1 := fun e => hn (e ▸ hx)
 rw [h i x hx hne] at he
 exact hne (Option.some.inj he)
theorem contains1_eq {l : List Int} {s : Int} : B3 l s = some (dec (s ∈ l)) := by
 unfold B3 H6
 rcases u4 (body := E4 l s) (n := (l.length : Int)) (fun j => if dec (ix l j = some s) = true then some j else none) (by omega) (fun j h0 h1 _ => by
  obtain ⟨x, hx, _⟩ := i7 (l := l) h0 h1
  unfold E4
  rw [hx]
  simp only [ob]
  by_cases e : s = x
  ·rw [if_pos e, ifP (by rw [e])]
  ·rw [if_neg e, ifN (by simpa using fun h => e h.symm)]) with ⟨h1, h2⟩ | ⟨j, o, h0, h1, h2, h3, h4⟩
 ·rw [h1]
  simp only [ob]
  rw [o6]
  ·rfl
  ·intro hs
   obtain ⟨i, i0, i1, hi⟩ := k9 hs
   have := h2 i i0 i1
   rw [ifP hi] at this
   cases this
 ·rw [h4]
  split at h2
  ·rename_i e
   cases h2
   simp only [ob]
   rw [k7 (i8 (l4.1 e)), decide_eq_true h0]
  ·cases h2
end Ab
end
section
namespace Ab
open Go
theorem set01 : SetN [0] 1 := setN1 0 (by decide) (by decide)
theorem one_rng {S O : Type} {body : Int → S → Option (S ⊕ O)} {s : S} {x : S ⊕ O} (h : body 0 s = some x) : rngX 0 1 body s = some x := by
 unfold rngX
 rw [show ((1 : Int) - 0).toNat = 1 from rfl]
 simp only [rngN, h]
 cases x <;> rfl
theorem am1 (p : List d9) : N7 p p = some true := by
 unfold N7
 rw [if_pos rfl, rngX_all (by omega) fun j j0 j1 => by
  obtain ⟨c, hc, _⟩ := i7 (l := p) j0 j1
  unfold ab1
  rw [hc]
  simp only [ob, decide_true, Bool.not_true, Bool.false_eq_true, if_false, ints_eq, k7]]
 rfl
end Ab
end
section
namespace Ab
open Go
end Ab
end
section
namespace Ab
open Go
end Ab
end
section
namespace Ab
open Go
noncomputable def nxC (t : b9) (ch : List Int → Int) (s : List Int) : LL := (ooAt t (ch s)).outcomes.map (efc t.facts s)
inductive RchC (t : b9) (ch : List Int → Int) : List Int → Prop
 | init : RchC t ch t.init
 | step {s y : List Int} (h : RchC t ch s) (hg : ¬ j3 t s) (hy : y ∈ nxC t ch s) : RchC t ch y
def ChOk (t : b9) (ch : List Int → Int) : Prop := ∀ s, RchC t ch s → ¬ j3 t s → (0 ≤ ch s ∧ ch s < t.operators.length) ∧ oCan t s (ch s)
section
variable {t : b9} {ch : List Int → Int}
theorem RchC.set (ht : k6 t) {s : List Int} (h : RchC t ch s) : SetN s t.facts := by
 cases h with
 | init => exact ht.init
 | step _ _ hy => obtain ⟨x, _, rfl⟩ := List.mem_map.1 hy; exact al0 _ _ _
structure PolB (t : b9) (ch : List Int → Int) (p : List d9) : Prop where
 ord : Ord (p.map d9.state)
 mem : ∀ s, (∃ c ∈ p, c.state = s) ↔ RchC t ch s ∧ ¬ j3 t s
 op : ∀ c ∈ p, c.operator = ch c.state
theorem polB_eq {p : List d9} (h : ∀ c ∈ p, c.operator = ch c.state) : p = (p.map d9.state).map fun s => (⟨s, ch s⟩ : d9) := by
 rw [List.map_map]
 have : p.map id = p.map ((fun s => (⟨s, ch s⟩ : d9)) ∘ d9.state) := List.map_congr_left fun c hc => by
  have := h c hc
  cases c with
  | mk s o => dsimp only at this; simp only [id, Function.comp, this]
 rwa [List.map_id] at this
theorem PolB.unique {p q : List d9} (h : PolB t ch p) (g : PolB t ch q) : p = q := by
 have e : p.map d9.state = q.map d9.state := by
  refine Ord.ext h.ord g.ord fun s => ?_
  have a := h.mem s; have b := g.mem s
  simp only [List.mem_map]
  exact ⟨fun ⟨c, h1, h2⟩ => b.2 (a.1 ⟨c, h1, h2⟩), fun ⟨c, h1, h2⟩ => a.2 (b.1 ⟨c, h1, h2⟩)⟩
 rw [polB_eq h.op, e, ← polB_eq g.op]
theorem PolB.rch {p : List d9} (h : PolB t ch p) {c : d9} (hc : c ∈ p) : RchC t ch c.state ∧ ¬ j3 t c.state := (h.mem _).1 ⟨c, hc, rfl⟩
theorem PolB.pol (ht : k6 t) (hk : ChOk t ch) {p : List d9} (h : PolB t ch p) (hl : p.length ≤ 200) : H8 t p :=
 ⟨hl, h.ord, fun c hc => (h.rch hc).1.set ht, fun c hc => by rw [h.op c hc]; exact (hk _ (h.rch hc).1 (h.rch hc).2).1, fun c hc => by rw [h.op c hc]; exact (hk _ (h.rch hc).1 (h.rch hc).2).2⟩
theorem chO_ch {p : List d9} (hop : ∀ c ∈ p, c.operator = ch c.state) (s : List Int) : (chO p s = -1 ∧ ∀ c ∈ p, c.state ≠ s) ∨ ((∃ c ∈ p, c.state = s) ∧ chO p s = ch s) := by
 obtain ⟨r, h1, h2⟩ := ae9 p s
 have : chO p s = r := by rw [chO, h1]; rfl
 rw [this]
 rcases h2 with ⟨rfl, h⟩ | ⟨c, hc, rfl, rfl⟩
 ·exact .inl ⟨rfl, h⟩
 ·exact .inr ⟨⟨c, hc, rfl⟩, hop c hc⟩
theorem rch_of {p : List d9} (hop : ∀ c ∈ p, c.operator = ch c.state) {s : List Int} (h : Rch t p s) : RchC t ch s := by
 induction h with
 | init => exact .init
 | @step s y _ hg hl hy ih =>
  refine .step ih hg ?_
  rcases chO_ch hop s with ⟨e, _⟩ | ⟨_, e⟩
  ·unfold B4 at hl; omega
  ·unfold nxS at hy; rw [e] at hy; exact hy
theorem PolB.live {p : List d9} (h : PolB t ch p) {s : List Int} (hs : RchC t ch s) (hg : ¬ j3 t s) : chO p s = ch s := by
 rcases chO_ch h.op s with ⟨_, e⟩ | ⟨_, e⟩
 ·obtain ⟨c, hc, he⟩ := (h.mem s).2 ⟨hs, hg⟩
  exact absurd he (e c hc)
 ·exact e
theorem PolB.reach (hk : ChOk t ch) {p : List d9} (h : PolB t ch p) {s : List Int} (hs : RchC t ch s) : Rch t p s := by
 induction hs with
 | init => exact .init
 | @step s y hr hg hy ih =>
  have e := h.live hr hg
  refine .step ih hg (by unfold B4; rw [e]; exact (hk s hr hg).1.1) (by unfold nxS; rw [e]; exact hy)
/-! ### One choice put in its place -/
theorem mem_takeN {α : Type} {l : List α} {n : Nat} {a : α} (h : a ∈ l.take n) : ∃ k : Int, 0 ≤ k ∧ k < n ∧ ix l k = some a := by
 obtain ⟨k, hk⟩ := List.getElem?_of_mem h
 rw [List.getElem?_take] at hk
 split at hk
 ·exact ⟨k, by omega, by omega, by rw [T1]; exact hk⟩
 ·cases hk
theorem mem_dropN {α : Type} {l : List α} {n : Nat} {a : α} (h : a ∈ l.drop n) : ∃ k : Int, (n : Int) ≤ k ∧ ix l k = some a := by
 obtain ⟨k, hk⟩ := List.getElem?_of_mem h
 rw [List.getElem?_drop] at hk
 exact ⟨(n + k : Nat), by omega, by rw [T1]; exact hk⟩
theorem ins_ord {p : List d9} {c : d9} {i : Int} (ho : Ord (p.map d9.state)) (h0 : 0 ≤ i) (hlt : ∀ k a, 0 ≤ k → k < i → ix p k = some a → llt a.state c.state) (hge : ∀ k a, i ≤ k → ix p k = some a → ¬ llt a.state c.state) (hns : ∀ a ∈ p, a.state ≠ c.state) :
  Ord ((p.take i.toNat ++ c :: p.drop i.toNat).map d9.state) := by
 have a1 : ∀ a ∈ p.take i.toNat, llt a.state c.state := fun a ha => by
  obtain ⟨k, k0, k1, hk⟩ := mem_takeN ha
  exact hlt k a k0 (by omega) hk
 have a2 : ∀ a ∈ p.drop i.toNat, llt c.state a.state := fun a ha => by
  obtain ⟨k, k1, hk⟩ := mem_dropN ha
  rcases O6 a.state c.state with h | h | h
  ·exact absurd h (hge k a (by omega) hk)
  ·exact absurd h (hns a (i8 hk))
  ·exact h
 have s1 : Ord ((p.take i.toNat).map d9.state) := by rw [List.map_take]; exact List.Pairwise.sublist (List.take_sublist _ _) ho
 have s2 : Ord ((p.drop i.toNat).map d9.state) := by rw [List.map_drop]; exact List.Pairwise.sublist (List.drop_sublist _ _) ho
 rw [List.map_append, List.map_cons]
 refine List.pairwise_append.2 ⟨s1, List.pairwise_cons.2 ⟨fun x hx => ?_, s2⟩, fun x hx y hy => ?_⟩
 ·obtain ⟨a, ha, rfl⟩ := List.mem_map.1 hx
  exact a2 a ha
 ·obtain ⟨a, ha, rfl⟩ := List.mem_map.1 hx
  rcases List.mem_cons.1 hy with rfl | hy
  ·exact a1 a ha
  ·obtain ⟨b, hb, rfl⟩ := List.mem_map.1 hy
   exact C5 (a1 a ha) (a2 b hb)
theorem ins_mem {α : Type} {p : List α} {c x : α} {n : Nat} : x ∈ p.take n ++ c :: p.drop n ↔ x = c ∨ x ∈ p := by
 have : x ∈ p ↔ x ∈ p.take n ∨ x ∈ p.drop n := by
  rw [← List.mem_append, List.take_append_drop]
 rw [this]
 simp only [List.mem_append, List.mem_cons]
 constructor
 ·rintro (h | h | h)
  ·exact .inr (.inl h)
  ·exact .inl h
  ·exact .inr (.inr h)
 ·rintro (h | h | h)
  ·exact .inr (.inl h)
  ·exact .inl h
  ·exact .inr (.inr h)
theorem ins_len {α : Type} {p : List α} {c : α} {n : Nat} (h : n ≤ p.length) : (p.take n ++ c :: p.drop n).length = p.length + 1 := by simp; omega
structure PolP (t : b9) (ch : List Int → Int) (p : List d9) : Prop where
 pol : H8 t p
 of : ∀ c ∈ p, (RchC t ch c.state ∧ ¬ j3 t c.state) ∧ c.operator = ch c.state
theorem PolP.op {p : List d9} (h : PolP t ch p) : ∀ c ∈ p, c.operator = ch c.state := fun c hc => (h.of c hc).2
theorem PolP.ins (ht : k6 t) (hk : ChOk t ch) {p : List d9} (h : PolP t ch p) {s : List Int} (hs : RchC t ch s) (hg : ¬ j3 t s) {i : Int} (h0 : 0 ≤ i) (h1 : i ≤ p.length) (hlt : ∀ k a, 0 ≤ k → k < i → ix p k = some a → llt a.state s) (hge : ∀ k a, i ≤ k → ix p k = some a → ¬ llt a.state s) (hns : ∀ a ∈ p, a.state ≠ s) (hl : p.length < 200) :
  PolP t ch (p.take i.toNat ++ ⟨s, ch s⟩ :: p.drop i.toNat) := by
 have key : ∀ {q : d9 → Prop}, q ⟨s, ch s⟩ → (∀ c ∈ p, q c) → ∀ c ∈ p.take i.toNat ++ ⟨s, ch s⟩ :: p.drop i.toNat, q c := fun h1 h2 c hc => by
  rcases ins_mem.1 hc with rfl | hc
  ·exact h1
  ·exact h2 c hc
 exact ⟨⟨by rw [ins_len (by omega)]; omega, ins_ord h.pol.ord h0 hlt hge hns, key (hs.set ht) h.pol.set, key (hk s hs hg).1 h.pol.op, key (hk s hs hg).2 h.pol.can⟩, key ⟨⟨hs, hg⟩, rfl⟩ h.of⟩
theorem am4 {p : List d9} (h : Ord (p.map d9.state)) {s : List Int} (hns : ∀ a ∈ p, a.state ≠ s) : (s :: p.map d9.state).Nodup :=
 List.nodup_cons.2 ⟨fun hm => by obtain ⟨a, ha, e⟩ := List.mem_map.1 hm; exact hns a ha e, h.nodup⟩
structure BI (t : b9) (ch : List Int → Int) (q : LL) (p : List d9) (a : Int) : Prop where
 a0 : 0 ≤ a
 a1 : a ≤ q.length
 pp : PolP t ch p
 qr : ∀ s ∈ q, RchC t ch s
 qi : t.init ∈ q
 px : ∀ c ∈ p, ∀ y ∈ nxC t ch c.state, y ∈ q
 dn : ∀ k s, k < a → ix q k = some s → j3 t s ∨ ∃ c ∈ p, c.state = s
 ql : q.length ≤ 1 + 4 * p.length
theorem build_prog (ht : k6 t) (hk : ChOk t ch) {choose : List Int → Option Int} (hch : ∀ s, RchC t ch s → ¬ j3 t s → choose s = some (ch s)) :
  ∃ r, T0 t choose = some r ∧ ((r = ([], false) ∧ ∃ l : LL, l.Nodup ∧ (∀ s ∈ l, RchC t ch s ∧ ¬ j3 t s) ∧ l.length = 201) ∨ ∃ p, r = (p, true) ∧ PolB t ch p ∧ p.length ≤ 200) := by
 have hn := ht.n1
 obtain ⟨o, o1, o2⟩ := A6 (body := R3 t choose) (fun x => BI t ch x.1 x.2.1 x.2.2) (fun o => (o = .inr ([], false) ∧ ∃ l : LL, l.Nodup ∧ (∀ s ∈ l, RchC t ch s ∧ ¬ j3 t s) ∧ l.length = 201) ∨ ∃ p, o = .inl p ∧ PolB t ch p ∧ p.length ≤ 200) (fun x => (1000 - x.2.2).toNat)
  (s := ([t.init], [], 0)) ⟨by dsimp only; omega, by simp, ⟨⟨by simp, .nil, by simp, by simp, by simp⟩, by simp⟩, fun s hs => by rw [List.mem_singleton.1 hs]; exact .init, by simp, by simp, fun k s hk hs => by have := (j7 hs).1; dsimp only at hk; omega, by simp⟩ (fun ⟨q, p, a⟩ h => by
   have a0 : 0 ≤ a := h.a0
   have a1 : a ≤ q.length := h.a1
   have ql : q.length ≤ 1 + 4 * p.length := h.ql
   have pp : PolP t ch p := h.pp
   have qr : ∀ s ∈ q, RchC t ch s := h.qr
   have qi : t.init ∈ q := h.qi
   have px : ∀ c ∈ p, ∀ y ∈ nxC t ch c.state, y ∈ q := h.px
   have dn : ∀ k s, k < a → ix q k = some s → j3 t s ∨ ∃ c ∈ p, c.state = s := h.dn
   have pl : p.length ≤ 200 := pp.pol.len
   clear h
   dsimp only
   unfold R3
   dsimp only
   by_cases c : a < q.length
   ·rw [if_pos c]
    obtain ⟨s, hs, _⟩ := i7 (l := q) a0 c
    have hr := qr s (i8 hs)
    have hset := hr.set ht
    have hsl := hset.len
    rw [hs]
    simp only [ob, W1 hset.1 ht.goal.1 (show s.length ≤ 1000000 by omega), (af4 pp.pol s).1]
    have key : (if dec (∀ x ∈ t.goal, x ∈ s) = true then some true else some (decide (0 ≤ chO p s))) = some (dec (j3 t s ∨ 0 ≤ chO p s)) := by
     by_cases hg : j3 t s
     ·rw [ifP (p := ∀ x ∈ t.goal, x ∈ s) hg, k7 (.inl hg)]
     ·rw [ifN (p := ∀ x ∈ t.goal, x ∈ s) hg, z7]
      congr 1
      exact m7 ⟨.inr, fun h => h.resolve_left hg⟩
    rw [key]
    simp only [ob]
    have hw : w64 (a + 1) = a + 1 := s5 (by omega) (by omega)
    by_cases cg : j3 t s ∨ 0 ≤ chO p s
    ·rw [ifP cg]
     unfold G5
     dsimp only
     refine .inl ⟨(q, p, a + 1), by rw [hw], ⟨by dsimp only; omega, by dsimp only; omega, pp, qr, qi, px, fun (k : Int) z hk2 hz => ?_, ql⟩, by dsimp only; omega⟩
     dsimp only at hk2 hz
     by_cases e : k = a
     ·subst e
      rw [hs] at hz; cases hz
      refine cg.imp id fun hc => ?_
      rcases chO_ch pp.op s with ⟨e, _⟩ | ⟨e, _⟩
      ·omega
      ·exact e
     ·exact dn k z (by omega) hz
    ·rw [ifN cg]
     have hg : ¬ j3 t s := fun g => cg (.inl g)
     have hns : ∀ c ∈ p, c.state ≠ s := by
      rcases chO_ch pp.op s with ⟨_, e⟩ | ⟨_, e⟩
      ·exact e
      ·exact absurd (.inr (by rw [e]; exact (hk s hr hg).1.1)) cg
     by_cases cl : (p.length : Int) = 200
     ·rw [if_pos cl]
      refine .inr ⟨_, rfl, .inl ⟨rfl, s :: p.map d9.state, am4 pp.pol.ord hns, fun z hz => ?_, by simp; omega⟩⟩
      rcases List.mem_cons.1 hz with rfl | hz
      ·exact ⟨hr, hg⟩
      ·obtain ⟨c, hc, rfl⟩ := List.mem_map.1 hz
       exact (pp.of c hc).1
     ·rw [if_neg cl, hch s hr hg]
      simp only [ob]
      have ho := hk s hr hg
      obtain ⟨i, i1, i0, _, i2, i3, i4⟩ := bsf_full (key := d9.state) (xs := p) (t := s) (cmp := I5) pp.pol.ord (by omega) (fun a => by unfold I5; rw [ab3]; rfl)
      have hb : j9 p s I5 = some (i, dec (∃ a ∈ p, a.state = s)) := i1
      rw [hb]
      simp only [ob, aj8 (show s.length ≤ 1000000 by omega)]
      rw [insL, if_pos ⟨i0, i2, by omega⟩]
      obtain ⟨st, w, r1, _, r3, r4, _⟩ := A9 ht ho.1.1 ho.1.2 hset
      simp only [ob, r1]
      rw [app, if_pos (by omega)]
      simp only [ob]
      unfold G5
      dsimp only
      have hst : ∀ y, y ∈ st ↔ y ∈ nxC t ch s := fun y => by rw [r3, nxC, List.mem_map]
      have pp' := pp.ins ht hk hr hg i0 i2 i3 i4 hns (by omega)
      refine .inl ⟨(q ++ st, p.take i.toNat ++ ⟨s, ch s⟩ :: p.drop i.toNat, a + 1), by rw [hw], ⟨by dsimp only; omega, by simp; omega, pp', fun z hz => ?_, List.mem_append_left _ qi, fun c hc y hy => ?_, fun k z hk2 hz => ?_, ?_⟩, by dsimp only; omega⟩
      ·rcases List.mem_append.1 hz with hz | hz
       ·exact qr z hz
       ·exact .step hr hg ((hst z).1 hz)
      ·rcases ins_mem.1 hc with rfl | hc
       ·exact List.mem_append_right _ ((hst y).2 hy)
       ·exact List.mem_append_left _ (px c hc y hy)
      ·dsimp only at hk2 hz
       obtain ⟨z', hz', _⟩ := i7 (l := q) (i := k) (j7 hz).1 (by omega)
       have e : z' = z := by
        obtain ⟨k0, _, g1⟩ := j7 hz
        obtain ⟨_, k1, g2⟩ := j7 hz'
        rw [List.getElem?_append_left (by omega), g2] at g1
        exact Option.some.inj g1
       subst e
       by_cases e : k = a
       ·subst e
        rw [hs] at hz'; cases hz'
        exact .inr ⟨⟨s, ch s⟩, ins_mem.2 (.inl rfl), rfl⟩
       ·refine (dn k _ (by omega) hz').imp id fun ⟨c, hc, e⟩ => ⟨c, ins_mem.2 (.inr hc), e⟩
      ·dsimp only
       rw [List.length_append, ins_len (by omega)]
       omega
   ·rw [if_neg c]
    have all : ∀ s, RchC t ch s → s ∈ q := fun s hs => by
     induction hs with
     | init => exact qi
     | @step s y _ hg hy ih =>
      obtain ⟨k, k0, k1, hk1⟩ := k9 ih
      rcases dn k s (by omega) hk1 with g | ⟨c, hc, rfl⟩
      ·exact absurd g hg
      ·exact px c hc y hy
    refine .inr ⟨_, rfl, .inr ⟨p, rfl, ⟨pp.pol.ord, fun s => ⟨fun ⟨c, hc, e⟩ => e ▸ (pp.of c hc).1, fun ⟨hs, hg⟩ => ?_⟩, pp.op⟩, pl⟩⟩
    obtain ⟨k, k0, k1, hk1⟩ := k9 (all s hs)
    exact (dn k s (by omega) hk1).resolve_left hg)
 unfold T0
 rw [o1]
 rcases o2 with ⟨rfl, h⟩ | ⟨p, rfl, h⟩
 ·exact ⟨_, rfl, .inl ⟨rfl, h⟩⟩
 ·exact ⟨_, rfl, .inr ⟨p, rfl, h⟩⟩
theorem goal_dec (s : List Int) : L8 t s = some (dec (j3 t s)) := by
 unfold L8 j3
 rw [subset_eq]
 simp only [ob]
theorem build_ref (ht : k6 t) (hk : ChOk t ch) {all : LL} {value : List Int} {kind : Int} (hall : ∀ s, RchC t ch s → ¬ j3 t s → s ∈ all) (hlen : all.length ≤ 200) (hv : value.length = all.length)
  (hop : ∀ s, RchC t ch s → ¬ j3 t s → ∀ i v, ix all i = some s → ix value i = some v → (Option.bind (if kind = 1 then Option.bind (M6 t all value s) fun a62 => some a62 else some v) fun o => if kind = 2 then Option.bind (D8 t all value s) fun a69 => some a69 else some o) = some (ch s)) :
  ∃ p, ab2 t all value kind = some p ∧ PolB t ch p := by
 have hn := ht.n1
 unfold ab2
 obtain ⟨p, h1, h2⟩ := A6 (body := W5 t all value kind) (PolP t ch) (PolB t ch) (fun p => 201 - p.length) (s := []) ⟨⟨by simp, .nil, by simp, by simp, by simp⟩, by simp⟩ (fun p h => by
  have pl := h.pol.len
  unfold W5
  obtain ⟨l, v1, hvis⟩ := rVisited_eq ht h.pol
  have hll := hvis.len ht h.pol
  rw [v1]
  simp only [ob]
  obtain ⟨f, f1, f2⟩ := p8 (body := W7 t p l) (n := (l.length : Int)) (s := -1) (fun j f => (f = -1 ∧ ∀ k s, k < j → ix l k = some s → j3 t s ∨ 0 ≤ chO p s) ∨ (0 ≤ f ∧ ∃ s, ix l f = some s ∧ ¬ j3 t s ∧ chO p s < 0)) (by omega) (.inl ⟨rfl, fun k s hk hs => by have := (j7 hs).1; omega⟩) (fun j f j0 j1 hf => by
   obtain ⟨s, hs, _⟩ := i7 (l := l) j0 j1
   unfold W7
   rw [hs]
   simp only [ob, goal_dec, rChosen_chO, q7]
   by_cases hg : j3 t s
   ·rw [ifNN hg]
    simp only [ob, Bool.false_eq_true, if_false]
    refine ⟨_, rfl, ?_⟩
    rcases hf with ⟨e, h1⟩ | h1
    ·refine .inl ⟨e, fun k z hk hz => ?_⟩
     by_cases e : k = j
     ·subst e; rw [hs] at hz; cases hz; exact .inl hg
     ·exact h1 k z (by omega) hz
    ·exact .inr h1
   ·rw [ifP hg]
    simp only [ob]
    by_cases hc : chO p s < 0
    ·rw [if_pos (decide_eq_true hc)]
     exact ⟨_, rfl, .inr ⟨j0, s, hs, hg, hc⟩⟩
    ·rw [if_neg (by simpa using hc)]
     refine ⟨_, rfl, ?_⟩
     rcases hf with ⟨e, h1⟩ | h1
     ·refine .inl ⟨e, fun k z hk hz => ?_⟩
      by_cases e : k = j
      ·subst e; rw [hs] at hz; cases hz; exact .inr (by omega)
      ·exact h1 k z (by omega) hz
     ·exact .inr h1)
  rw [f1]
  simp only [ob]
  rcases f2 with ⟨rfl, f2⟩ | ⟨f0, s, hs, hg, hc⟩
  ·rw [if_pos (by decide)]
   refine .inr ⟨p, rfl, ⟨h.pol.ord, fun s => ⟨fun ⟨c, hc, e⟩ => e ▸ (h.of c hc).1, fun ⟨hs, hg⟩ => ?_⟩, h.op⟩⟩
   have reach : ∀ s, RchC t ch s → Rch t p s := fun s hs => by
    induction hs with
    | init => exact .init
    | @step s y hr hg hy ih =>
     obtain ⟨k, k0, k1, hk1⟩ := k9 ((hvis.mem s).2 ih)
     have hlive := (f2 k s k1 hk1).resolve_left hg
     refine .step ih hg hlive ?_
     rcases chO_ch h.op s with ⟨e, _⟩ | ⟨_, e⟩
     ·omega
     ·unfold nxS; rw [e]; exact hy
   obtain ⟨k, k0, k1, hk1⟩ := k9 ((hvis.mem s).2 (reach s hs))
   have hlive := (f2 k s k1 hk1).resolve_left hg
   rcases chO_ch h.op s with ⟨e, _⟩ | ⟨e, _⟩
   ·omega
   ·exact e
  ·rw [if_neg (by omega), hs]
   have hr : RchC t ch s := rch_of h.op ((hvis.mem s).1 (i8 hs))
   have hset := hr.set ht
   have hsl := hset.len
   have hns : ∀ c ∈ p, c.state ≠ s := by
    rcases chO_ch h.op s with ⟨_, e⟩ | ⟨_, e⟩
    ·exact e
    ·have := (hk s hr hg).1.1; omega
   obtain ⟨pl1, e1, e2⟩ := ak1 all s
   have hsa := hall s hr hg
   rcases e2 with ⟨_, e2⟩ | ⟨e0, e3, e4, _⟩
   ·exact absurd hsa e2
   obtain ⟨v, hv1, _⟩ := i7 (l := value) (i := pl1) e0 (by omega)
   have hcode := hop s hr hg pl1 v e4 hv1
   simp only [ob, e1, hv1]
   rw [← Option.bind_assoc, hcode]
   simp only [ob]
   obtain ⟨⟨n, k⟩, g1, g2, g3, g4, g5, g6⟩ := A6 (body := X1 p s) (fun x => 0 ≤ x.2 ∧ x.2 ≤ p.length ∧ x.1 = p.take x.2.toNat ∧ ∀ j a, 0 ≤ j → j < x.2 → ix p j = some a → llt a.state s) (fun x => 0 ≤ x.2 ∧ x.2 ≤ p.length ∧ x.1 = p.take x.2.toNat ∧ (∀ j a, 0 ≤ j → j < x.2 → ix p j = some a → llt a.state s) ∧ ∀ j a, x.2 ≤ j → ix p j = some a → ¬ llt a.state s) (fun x => (p.length - x.2).toNat) (s := ([], 0)) ⟨by dsimp only; omega, by simp, by simp, fun j a h0 h1 => by dsimp only at h1; omega⟩ (fun ⟨n, k⟩ ⟨k0, k1, k2, k3⟩ => by
    dsimp only at k0 k1 k2 k3 ⊢
    unfold X1
    dsimp only
    by_cases ck : k < p.length
    ·rw [if_pos ck]
     obtain ⟨c, hc, hcg⟩ := i7 (l := p) k0 ck
     have hcs := (h.pol.set c (i8 hc)).len
     simp only [hc, ob]
     rw [before_eq (by omega)]
     simp only [ob]
     by_cases cb : llt c.state s
     ·rw [ifP cb, app, if_pos (by rw [k2]; simp; omega)]
      simp only [ob]
      rw [s5 (by omega) (by omega)]
      refine .inl ⟨_, rfl, ⟨by dsimp only; omega, by dsimp only; omega, ?_, fun j a h0 h1 ha => ?_⟩, by dsimp only; omega⟩
      ·dsimp only
       rw [k2, show (k + 1).toNat = k.toNat + 1 by omega, List.take_add_one, hcg]; rfl
      ·dsimp only at h1
       by_cases e : j = k
       ·subst e; rw [hc] at ha; cases ha; exact cb
       ·exact k3 j a h0 (by omega) ha
     ·rw [ifN cb]
      refine .inr ⟨_, rfl, k0, k1, k2, k3, fun j a h0 ha hlt => ?_⟩
      dsimp only at h0
      by_cases e : j = k
      ·subst e; rw [hc] at ha; cases ha; exact cb hlt
      ·exact cb (C5 (aa5 h.pol.ord hc ha (by omega)) hlt)
    ·rw [if_neg ck]
     simp only [ob, Bool.false_eq_true, if_false]
     exact .inr ⟨_, rfl, k0, k1, k2, k3, fun j a h0 ha => by have := (j7 ha).2.1; dsimp only at h0; omega⟩)
   dsimp only at g2 g3 g4 g5 g6
   rw [g1]
   simp only [ob]
   have hnd := O4 (S := all) (am4 h.pol.ord hns) (fun z hz => by
    rcases List.mem_cons.1 hz with rfl | hz
    ·exact hsa
    ·obtain ⟨c, hc, rfl⟩ := List.mem_map.1 hz
     exact hall _ (h.of c hc).1.1 (h.of c hc).1.2)
   simp only [List.length_cons, List.length_map] at hnd
   have nl : n.length ≤ p.length := by rw [g4, List.length_take]; exact Nat.min_le_right _ _
   rw [app, if_pos (by simp; omega)]
   simp only [ob]
   rw [subL_drop g2 g3]
   simp only [ob]
   rw [app, if_pos (by simp; omega)]
   simp only [ob]
   have e : n ++ [(⟨s, ch s⟩ : d9)] ++ p.drop k.toNat = p.take k.toNat ++ ⟨s, ch s⟩ :: p.drop k.toNat := by rw [g4]; simp
   rw [e]
   refine .inl ⟨_, rfl, h.ins ht hk hr hg g2 g3 g5 g6 hns (by omega), ?_⟩
   rw [ins_len (by omega)]
   omega)
 rw [h1]
 exact ⟨p, rfl, h2⟩
end
end Ab
end
section
namespace Ab
open Go
/-! ### Values of ordered states -/
noncomputable def sc (t : b9) (s : List Int) (op : Int) : LL := (ooAt t op).outcomes.map (efc t.facts s)
structure Rep {A : Type} (all : LL) (v : List A) (f : List Int → A) : Prop where
 len : v.length = all.length
 get : ∀ {i : Int} {s : List Int}, ix all i = some s → ix v i = some (f s)
noncomputable def upd {A : Type} (f : List Int → A) (s : List Int) (x : A) : List Int → A := fun z => if dec (z = s) = true then x else f z
theorem A5 {A : Type} {f : List Int → A} {s : List Int} {x : A} : upd f s x s = x := ifP rfl
theorem E7 {A : Type} {f : List Int → A} {s z : List Int} {x : A} (h : z ≠ s) : upd f s x z = f z := ifN h
section
variable {A : Type} {all : LL} {v : List A} {f g : List Int → A}
theorem Rep.of (h : Rep all v f) {s : List Int} (hs : s ∈ all) : ∃ i, ix all i = some s ∧ ix v i = some (f s) := by
 obtain ⟨i, _, _, hi⟩ := k9 hs
 exact ⟨i, hi, h.get hi⟩
theorem Rep.set (ho : Ord all) (h : Rep all v f) {i : Int} {s : List Int} (hi : ix all i = some s) (x : A) : Rep all (v.set i.toNat x) (upd f s x) := by
 obtain ⟨i0, i1, _⟩ := j7 hi
 have hl := h.len
 refine ⟨by rw [List.length_set]; exact hl, fun {j z} hj => ?_⟩
 rw [ix_put i0 (by omega) (j7 hj).1]
 by_cases e : j = i
 ·subst e
  rw [hi] at hj; cases hj
  rw [if_pos rfl, A5]
 ·rw [if_neg e, E7 (fun hz => e (by subst hz; exact ho.inj hj hi))]
  exact h.get hj
theorem Rep.congr (h : Rep all v f) (e : ∀ s ∈ all, f s = g s) : Rep all v g := ⟨h.len, fun hi => by rw [← e _ (i8 hi)]; exact h.get hi⟩
theorem Rep.repl (c : A) : Rep all (List.replicate all.length c) fun _ => c := ⟨by simp, fun {i s} hi => by
 obtain ⟨i0, i1, g⟩ := j7 hi
 have : i.toNat < all.length := (List.getElem?_eq_some_iff.1 g).1
 rw [ix, if_pos i0, List.getElem?_replicate, if_pos this]⟩
end
theorem repeat_eq (c : Int) {n : Nat} (h1 : 1 ≤ n) (hn : n ≤ 100000) : z8 [c] (n : Int) = some (List.replicate n c) := by
 unfold z8
 dsimp only
 rw [if_pos (show (1 : Int) ≤ n ∧ (n : Int) ≤ 4294967295 by omega)]
 simp
def DnA (t : b9) : Nat → List Int → Prop
 | 0, s => j3 t s
 | k + 1, s => j3 t s ∨ ∃ op : Int, (0 ≤ op ∧ op < t.operators.length) ∧ oCan t s op ∧ ∀ y ∈ sc t s op, DnA t k y
section
variable {t : b9}
theorem DnA.goal {k : Nat} {s : List Int} (h : j3 t s) : DnA t k s := by
 cases k with
 | zero => exact h
 | succ k => exact .inl h
theorem DnA.succ : ∀ {k : Nat} {s : List Int}, DnA t k s → DnA t (k + 1) s
 | 0, s, h => .inl h
 | k + 1, s, h => by
  rcases h with h | ⟨op, h1, h2, h3⟩
  ·exact .inl h
  ·exact .inr ⟨op, h1, h2, fun y hy => DnA.succ (h3 y hy)⟩
theorem DnA.mono {k m : Nat} {s : List Int} (h : DnA t k s) (hm : k ≤ m) : DnA t m s := by
 induction hm with
 | refl => exact h
 | step _ ih => exact ih.succ
def HtA (t : b9) (k : Nat) (s : List Int) : Prop := DnA t k s ∧ ∀ j, j < k → ¬ DnA t j s
theorem HtA.unique {k m : Nat} {s : List Int} (h : HtA t k s) (h' : HtA t m s) : k = m := by
 rcases Nat.lt_trichotomy k m with c | c | c
 ·exact absurd h.1 (h'.2 k c)
 ·exact c
 ·exact absurd h'.1 (h.2 m c)
theorem HtA.zero {s : List Int} (h : j3 t s) : HtA t 0 s := ⟨h, fun j hj => by omega⟩
theorem HtA.of_not {k : Nat} {s : List Int} (h : DnA t (k + 1) s) (hn : ¬ DnA t k s) : HtA t (k + 1) s := ⟨h, fun j hj hd => hn (hd.mono (by omega))⟩
structure ClO (t : b9) (all : LL) : Prop where
 cl : Cl t all
 ord : Ord all
theorem ClO.len {all : LL} (h : ClO t all) : all.length ≤ 2000 := h.cl.len
theorem ClO.set {all : LL} (h : ClO t all) {s : List Int} (hs : s ∈ all) : SetN s t.facts := h.cl.set s hs
theorem ClO.sc {all : LL} (h : ClO t all) {s : List Int} (hs : s ∈ all) {op : Int} (h0 : 0 ≤ op ∧ op < t.operators.length) (hc : oCan t s op) {y : List Int} (hy : y ∈ sc t s op) : y ∈ all := by
 obtain ⟨x, hx, rfl⟩ := List.mem_map.1 hy
 exact h.cl.closed s hs op h0.1 h0.2 hc x hx
def WW (f : List Int → Int) (l : LL) (w : Int) : Prop := 0 ≤ w ∧ (∀ y ∈ l, 0 ≤ f y ∧ f y ≤ w) ∧ ∃ y ∈ l, f y = w
theorem WW.unique {f : List Int → Int} {l : LL} {w w' : Int} (h : WW f l w) (h' : WW f l w') : w = w' := by
 obtain ⟨_, a, y, hy, rfl⟩ := h
 obtain ⟨_, b, z, hz, rfl⟩ := h'
 have := (a z hz).2; have := (b y hy).2
 omega
def BestV (t : b9) (f : List Int → Int) (s : List Int) (b : Int) : Prop :=
 ((0 ≤ b ∧ b < t.operators.length) ∧ oCan t s b) ∧ ∃ w, WW f (sc t s b) w ∧ ∀ op : Int, (0 ≤ op ∧ op < t.operators.length) → oCan t s op → ∀ w', WW f (sc t s op) w' → w ≤ w' ∧ (op < b → w < w')
theorem BestV.unique {f : List Int → Int} {s : List Int} {b c : Int} (h : BestV t f s b) (g : BestV t f s c) : b = c := by
 obtain ⟨⟨h1, h2⟩, w, h3, h4⟩ := h
 obtain ⟨⟨g1, g2⟩, x, g3, g4⟩ := g
 have a := h4 c g1 g2 x g3
 have e := g4 b h1 h2 w h3
 rcases Int.lt_trichotomy b c with q | q | q
 ·have := e.2 q; omega
 ·exact q
 ·have := a.2 q; omega
/-! ### Ranks, layer by layer -/
structure RankA (t : b9) (all : LL) (f : List Int → Int) : Prop where
 val : ∀ s ∈ all, (f s = -1 ∧ ∀ k, ¬ DnA t k s) ∨ ∃ k : Nat, f s = k ∧ HtA t k s
 le : ∀ s ∈ all, f s ≤ all.length
theorem RankA.ht {all : LL} {f : List Int → Int} (h : RankA t all f) {s : List Int} (hs : s ∈ all) {k : Nat} (hk : HtA t k s) : f s = k := by
 rcases h.val s hs with ⟨_, e⟩ | ⟨m, e, hm⟩
 ·exact absurd hk.1 (e k)
 ·rw [e, hm.unique hk]
end
section
variable {t : b9}
end
end Ab
end
section
namespace Ab
open Go
/-! ### Loops that do the same, till one of them gives up -/
theorem rngN_follow {S O : Type} {b1 b2 : Int → S → Option (S ⊕ O)} (F : O → Prop) : ∀ (k : Nat) (i : Int) (s : S) (r : S ⊕ O), rngN b1 k i s = some r →
  (∀ j s r, i ≤ j → j < i + k → b1 j s = some r → b2 j s = some r ∨ ∃ o, b2 j s = some (.inr o) ∧ F o) → rngN b2 k i s = some r ∨ ∃ o, rngN b2 k i s = some (.inr o) ∧ F o
 | 0, _, s, r, h, _ => .inl h
 | k + 1, i, s, r, h, hb => by
  simp only [rngN] at h ⊢
  cases h1 : b1 i s with
  | none => rw [h1] at h; cases h
  | some x =>
   rw [h1] at h
   rcases hb i s x (Int.le_refl _) (by omega) h1 with h2 | ⟨o, h2, h3⟩
   ·rw [h2]
    cases x with
    | inl s' => exact rngN_follow F k (i + 1) s' r h fun j s r g1 g2 => hb j s r (by omega) (by omega)
    | inr o => exact .inl h
   ·rw [h2]
    exact .inr ⟨o, rfl, h3⟩
theorem rngX_follow {S O : Type} {b1 b2 : Int → S → Option (S ⊕ O)} (F : O → Prop) {n : Int} {s : S} {r : S ⊕ O} (h : rngX 0 n b1 s = some r)
  (hb : ∀ j s r, 0 ≤ j → j < n → b1 j s = some r → b2 j s = some r ∨ ∃ o, b2 j s = some (.inr o) ∧ F o) : rngX 0 n b2 s = some r ∨ ∃ o, rngX 0 n b2 s = some (.inr o) ∧ F o :=
 rngN_follow F _ _ _ _ h fun j s r h1 h2 => hb j s r h1 (by omega)
theorem an4 {S O : Type} {b1 b2 : S → Option (S ⊕ O)} (F : O → Prop) (hb : ∀ s r, b1 s = some r → b2 s = some r ∨ ∃ o, b2 s = some (.inr o) ∧ F o) : ∀ (k : Nat) (s : S) (r : O), D2 b1 k s = some r → D2 b2 k s = some r ∨ ∃ o, D2 b2 k s = some o ∧ F o
 | 0, _, _, h => by cases h
 | k + 1, s, r, h => by
  simp only [D2] at h ⊢
  cases h1 : b1 s with
  | none => rw [h1] at h; cases h
  | some x =>
   rw [h1] at h
   rcases hb s x h1 with h2 | ⟨o, h2, h3⟩
   ·rw [h2]
    cases x with
    | inl s' => exact an4 F hb k s' r h
    | inr o => exact .inl h
   ·rw [h2]
    exact .inr ⟨o, rfl, h3⟩
theorem Loop_follow {S O : Type} {b1 b2 : S → Option (S ⊕ O)} (F : O → Prop) (hb : ∀ s r, b1 s = some r → b2 s = some r ∨ ∃ o, b2 s = some (.inr o) ∧ F o) {s : S} {r : O} (h : Loop b1 s = some r) : Loop b2 s = some r ∨ ∃ o, Loop b2 s = some o ∧ F o := by
 obtain ⟨k, hk⟩ := P3.1 h
 rcases an4 F hb k s r hk with h | ⟨o, h1, h2⟩
 ·exact .inl (P3.2 ⟨k, h⟩)
 ·exact .inr ⟨o, P3.2 ⟨k, h1⟩, h2⟩
theorem rngN_post {S O : Type} {b : Int → S → Option (S ⊕ O)} (P : S → Prop) (Q : O → Prop) : ∀ (k : Nat) (i : Int) (s : S) (r : S ⊕ O), P s → rngN b k i s = some r →
  (∀ j s, P s → (∀ s', b j s = some (.inl s') → P s') ∧ ∀ o, b j s = some (.inr o) → Q o) → (∀ s', r = .inl s' → P s') ∧ ∀ o, r = .inr o → Q o
 | 0, _, s, r, hs, h, _ => by
  simp only [rngN, Option.some.injEq] at h
  subst h
  exact ⟨fun s' e => by cases e; exact hs, fun o e => by cases e⟩
 | k + 1, i, s, r, hs, h, hb => by
  simp only [rngN] at h
  cases h1 : b i s with
  | none => rw [h1] at h; cases h
  | some x =>
   rw [h1] at h
   cases x with
   | inl s' => exact rngN_post P Q k (i + 1) s' r ((hb i s hs).1 s' h1) h hb
   | inr o =>
    cases h
    exact ⟨fun s' e => (by cases e), fun o' e => by cases e; exact (hb i s hs).2 o h1⟩
theorem LoopN_post {S O : Type} {b : S → Option (S ⊕ O)} (P : S → Prop) (Q : O → Prop) (hb : ∀ s, P s → (∀ s', b s = some (.inl s') → P s') ∧ ∀ o, b s = some (.inr o) → Q o) : ∀ (k : Nat) (s : S) (o : O), P s → D2 b k s = some o → Q o
 | 0, _, _, _, h => by cases h
 | k + 1, s, o, hs, h => by
  simp only [D2] at h
  cases h1 : b s with
  | none => rw [h1] at h; cases h
  | some x =>
   rw [h1] at h
   cases x with
   | inl s' => exact LoopN_post P Q hb k s' o ((hb s hs).1 s' h1) h
   | inr o' => cases h; exact (hb s hs).2 o h1
section
variable {t : b9} {m : Int}
theorem low4 (hm : m ≤ 2000) (a36 : LL × (List Int)) (j : Int) (s : LL × (List Int)) (r : (LL × (List Int)) ⊕ (LL × Bool)) (h : n8 2000 a36 j s = some r) :
  n8 m a36 j s = some r ∨ ∃ o, n8 m a36 j s = some (.inr o) ∧ o = ([], false) := by
 obtain ⟨c1, c2⟩ := s
 unfold n8 at h ⊢
 dsimp only at h ⊢
 obtain ⟨x1, h1, h⟩ := b6 h
 rw [h1]
 simp only [ob]
 obtain ⟨x2, h2, h⟩ := b6 h
 rw [h2]
 simp only [ob]
 obtain ⟨x3, h3, h⟩ := b6 h
 rw [h3]
 simp only [ob]
 by_cases c : x3 = true
 ·rw [if_pos c] at h ⊢
  exact .inl h
 ·rw [if_neg c] at h ⊢
  by_cases c2 : m ≤ (c1.length : Int)
  ·rw [if_pos c2]
   exact .inr ⟨_, rfl, rfl⟩
  ·rw [if_neg (by omega)] at h
   rw [if_neg c2]
   left
   simp only [h1, ob, h2] at h ⊢
   exact h
theorem len4 (a36 : LL × (List Int)) (j : Int) (s : LL × (List Int)) (hs : (s.1.length : Int) ≤ m) : (∀ s', n8 m a36 j s = some (.inl s') → (s'.1.length : Int) ≤ m) ∧ ∀ o, n8 m a36 j s = some (.inr o) → o = ([], false) := by
 obtain ⟨c1, c2⟩ := s
 dsimp only at hs
 unfold n8
 dsimp only
 cases ix a36.1 j with
 | none => exact ⟨fun s' h => (by cases h), fun o h => by cases h⟩
 | some x1 =>
  simp only [ob]
  cases O3 x1 with
  | none => exact ⟨fun s' h => (by cases h), fun o h => by cases h⟩
  | some x2 =>
   simp only [ob]
   cases J2 c2 x2 with
   | none => exact ⟨fun s' h => (by cases h), fun o h => by cases h⟩
   | some x3 =>
    simp only [ob]
    unfold K6
    dsimp only
    by_cases c : x3 = true
    ·rw [if_pos c]
     exact ⟨fun s' h => by cases h; exact hs, fun o h => by cases h⟩
    ·rw [if_neg c]
     by_cases c2 : m ≤ (c1.length : Int)
     ·rw [if_pos c2]
      exact ⟨fun s' h => (by cases h), fun o h => by cases h; rfl⟩
     ·rw [if_neg c2]
      refine ⟨fun s' h => ?_, fun o h => ?_⟩
      ·obtain ⟨a, g1, h⟩ := b6 h
       obtain ⟨b, _, h⟩ := b6 h
       cases h
       rw [app] at g1
       split at g1
       ·cases g1; simp; omega
       ·cases g1
      ·obtain ⟨a, g1, h⟩ := b6 h
       obtain ⟨b, _, h⟩ := b6 h
       cases h
theorem low2 (hm : m ≤ 2000) (i j : Int) (s : LL × (List Int)) (r : (LL × (List Int)) ⊕ (LL × Bool)) (h : m8 t 2000 i j s = some r) :
  m8 t m i j s = some r ∨ ∃ o, m8 t m i j s = some (.inr o) ∧ o = ([], false) := by
 obtain ⟨c1, c2⟩ := s
 unfold m8 at h ⊢
 dsimp only at h ⊢
 obtain ⟨x1, h1, h⟩ := b6 h
 rw [h1]
 simp only [ob]
 obtain ⟨x2, h2, h⟩ := b6 h
 rw [h2]
 simp only [ob]
 by_cases c : (!x2) = true
 ·rw [if_pos c] at h ⊢
  exact .inl h
 ·rw [if_neg c, h1] at h
  rw [if_neg c]
  simp only [ob] at h
  obtain ⟨x3, h3, h⟩ := b6 h
  rw [h3]
  simp only [ob]
  obtain ⟨x4, h4, h⟩ := b6 h
  rcases rngX_follow (b2 := n8 m x3) (fun o => o = (([], false) : LL × Bool)) h4 (fun j s r _ _ hh => low4 hm x3 j s r hh) with h5 | ⟨o, h5, rfl⟩
  ·rw [h5]
   exact .inl h
  ·rw [h5]
   exact .inr ⟨_, rfl, rfl⟩
theorem len2 (i j : Int) (s : LL × (List Int)) (hs : (s.1.length : Int) ≤ m) : (∀ s', m8 t m i j s = some (.inl s') → (s'.1.length : Int) ≤ m) ∧ ∀ o, m8 t m i j s = some (.inr o) → o = ([], false) := by
 obtain ⟨c1, c2⟩ := s
 dsimp only at hs
 have key : ∀ r, m8 t m i j (c1, c2) = some r → (∀ s', r = .inl s' → (s'.1.length : Int) ≤ m) ∧ ∀ o, r = .inr o → o = ([], false) := fun r h => by
  unfold m8 at h
  dsimp only at h
  obtain ⟨x1, h1, h⟩ := b6 h
  obtain ⟨x2, h2, h⟩ := b6 h
  unfold L7 at h
  by_cases c : (!x2) = true
  ·rw [if_pos c] at h
   cases h
   exact ⟨fun s' e => by cases e; exact hs, fun o e => by cases e⟩
  ·rw [if_neg c] at h
   obtain ⟨x0, _, h⟩ := b6 h
   obtain ⟨x3, h3, h⟩ := b6 h
   obtain ⟨x4, h4, h⟩ := b6 h
   have p := rngN_post (b := n8 m x3) (fun s => (s.1.length : Int) ≤ m) (fun o => o = ([], false)) _ _ _ x4 hs h4 (fun j s hs => len4 x3 j s hs)
   cases x4 with
   | inl s' =>
    obtain ⟨d1, d2⟩ := s'
    cases h
    exact ⟨fun s' e => by cases e; exact p.1 _ rfl, fun o e => by cases e⟩
   | inr o =>
    cases h
    exact ⟨fun s' e => (by cases e), fun o' e => by cases e; exact p.2 _ rfl⟩
 exact ⟨fun s' h => (key _ h).1 s' rfl, fun o h => (key _ h).2 o rfl⟩
theorem reached_low (ht : k6 t) (h1 : 1 ≤ m) (hm : m ≤ 2000) : u9 t m = some ([], false) ∨ ∃ out, C0 t = some (out, true) ∧ u9 t 2000 = some (out, true) ∧ ClO t out ∧ u9 t m = some (out, true) ∧ (out.length : Int) ≤ m := by
 have hi := ht.init
 have low : ∀ s r, n9 t 2000 s = some r → n9 t m s = some r ∨ ∃ o, n9 t m s = some (.inr o) ∧ o = .inr ([], false) := fun ⟨c1, c2, i⟩ r h => by
  unfold n9 at h ⊢
  dsimp only at h ⊢
  by_cases c : i < (c1.length : Int)
  ·rw [if_pos c] at h ⊢
   obtain ⟨x4, h4, h⟩ := b6 h
   rcases rngX_follow (b2 := m8 t m i) (fun o => o = (([], false) : LL × Bool)) h4 (fun j s r _ _ hh => low2 hm i j s r hh) with h5 | ⟨o, h5, rfl⟩
   ·rw [h5]
    exact .inl h
   ·rw [h5]
    exact .inr ⟨_, rfl, rfl⟩
  ·rw [if_neg c] at h ⊢
   exact .inl h
 have len : ∀ s : LL × (List Int) × Int, (s.1.length : Int) ≤ m → (∀ s', n9 t m s = some (.inl s') → (s'.1.length : Int) ≤ m) ∧ ∀ o, n9 t m s = some (.inr o) → ∀ l, o = .inl l → (l.length : Int) ≤ m := fun ⟨c1, c2, i⟩ hs => by
  dsimp only at hs
  have key : ∀ r, n9 t m (c1, c2, i) = some r → (∀ s', r = .inl s' → (s'.1.length : Int) ≤ m) ∧ ∀ o, r = .inr o → ∀ l, o = .inl l → (l.length : Int) ≤ m := fun r h => by
   unfold n9 at h
   dsimp only at h
   by_cases c : i < (c1.length : Int)
   ·rw [if_pos c] at h
    obtain ⟨x4, h4, h⟩ := b6 h
    have p := rngN_post (b := m8 t m i) (fun s => (s.1.length : Int) ≤ m) (fun o => o = ([], false)) _ _ _ x4 hs h4 (fun j s hs => len2 i j s hs)
    cases x4 with
    | inl s' =>
     obtain ⟨d1, d2⟩ := s'
     cases h
     exact ⟨fun s' e => by cases e; exact p.1 _ rfl, fun o e => by cases e⟩
    | inr o =>
     cases h
     exact ⟨fun s' e => (by cases e), fun o' e l e2 => by cases e; cases e2⟩
   ·rw [if_neg c] at h
    cases h
    exact ⟨fun s' e => (by cases e), fun o e l e2 => by cases e; cases e2; exact hs⟩
  exact ⟨fun s' h => (key _ h).1 s' rfl, fun o h => (key _ h).2 o rfl⟩
 have start : ∀ m', u9 t m' = Option.bind (Loop (n9 t m') ([t.init], [(wsN t.init : Int)], 0)) fun | .inl c6 => (Option.bind (forR 0 (c6.length : Int) (K3 c6) []) fun out21 => some (out21, true)) | .inr x => some x := fun m' => by
  unfold u9
  rw [word_eq hi ht.n1]
  simp only [ob]
  rw [app, if_pos (by simp)]
  rfl
 rcases reach_full ht with ⟨out, q1, q2, q3, q4, l, q5, q6⟩ | ⟨q1, q2⟩
 ·rcases Loop_follow _ low q5 with h | ⟨o, h, rfl⟩
  ·right
   have hl : (l.length : Int) ≤ m := by
    obtain ⟨k, hk⟩ := P3.1 h
    exact LoopN_post (b := n9 t m) (fun s => (s.1.length : Int) ≤ m) (fun o => ∀ l, o = .inl l → (l.length : Int) ≤ m) len k _ _ (by simpa using h1) hk l rfl
   refine ⟨out, q1, q2, ⟨q3, q4⟩, ?_, by omega⟩
   rw [start, h]
   have e := q2
   rw [start, q5] at e
   exact e
  ·left
   rw [start, h]; rfl
 ·left
  have e := q2
  rw [start] at e
  obtain ⟨o, e1, e2⟩ := b6 e
  rcases Loop_follow _ low e1 with h | ⟨o, h, rfl⟩
  ·rw [start, h]; exact e2
  ·rw [start, h]; rfl
end
end Ab
end
section
namespace Ab
open Go
theorem rngX_hit {O : Type} {body : Int → Unit → Option (Unit ⊕ O)} {n w : Int} {b : O} (h0 : 0 ≤ w) (h1 : w < n) (hb : ∀ j, 0 ≤ j → j < w → body j () = some (.inl ())) (hw : body w () = some (.inr b)) : rngX 0 n body () = some (.inr b) := by
 rcases u4 (body := body) (n := n) (fun j => if j = w then some b else none) (by omega) (fun j j0 j1 hp => by
  have hj : j ≤ w := by
   rcases Int.lt_or_le w j with c | c
   ·have := hp w h0 c
    rw [if_pos rfl] at this; cases this
   ·exact c
  by_cases e : j = w
  ·subst e; rw [if_pos rfl]; exact hw
  ·rw [if_neg e]; exact hb j j0 (by omega)) with ⟨_, h⟩ | ⟨j, o, _, _, h, _, g⟩
 ·have := h w h0 h1
  rw [if_pos rfl] at this; cases this
 ·rw [g]
  split at h
  ·cases h; rfl
  ·cases h
def sumN (l : List Int) : Nat := (l.map Int.toNat).sum
theorem aj6 : ∀ {l : List Int} {i : Nat} {x y : Int}, l[i]? = some y → 0 ≤ x → x < y → sumN (l.set i x) < sumN l
 | [], _, _, _, h, _, _ => by simp at h
 | a :: l, 0, x, y, h, h0, h1 => by
  simp only [List.getElem?_cons_zero, Option.some.injEq] at h
  subst h
  simp only [sumN, List.set_cons_zero, List.map_cons, List.sum_cons]
  omega
 | a :: l, i + 1, x, y, h, h0, h1 => by
  have := aj6 (l := l) (i := i) (by simpa using h) h0 h1
  simp only [sumN, List.set_cons_succ, List.map_cons, List.sum_cons] at this ⊢
  omega
section
variable {t : b9}
def MX (g : List Int → Int) (l : LL) (m : Int) : Prop := (∀ y ∈ l, g y ≤ m) ∧ ∃ y ∈ l, g y = m
theorem MX.unique {g : List Int → Int} {l : LL} {m m' : Int} (h : MX g l m) (h' : MX g l m') : m = m' := by
 obtain ⟨a, y, hy, rfl⟩ := h
 obtain ⟨b, z, hz, rfl⟩ := h'
 have := a z hz; have := b y hy
 omega
end
section
variable {t : b9}
structure LowA (t : b9) (all : LL) (g : List Int → Int) : Prop where
 b : ∀ s ∈ all, 0 ≤ g s ∧ g s ≤ 1000000000
 dn : ∀ s ∈ all, g s < 1000000000 → DnA t (g s).toNat s
 goal : ∀ s ∈ all, j3 t s → g s = 0
noncomputable def gOf (f : List Int → Int) (s : List Int) : Int := if f s < 0 then 1000000000 else f s
end
section
variable {t : b9}
end
end Ab
end
section
namespace Ab
open Go
section
variable {t : b9}
def DsC (t : b9) (S : List Int → Prop) : Nat → List Int → Prop
 | 0, s => j3 t s
 | k + 1, s => j3 t s ∨ (S s ∧ ∃ op : Int, (0 ≤ op ∧ op < t.operators.length) ∧ oCan t s op ∧ (∀ y ∈ sc t s op, S y) ∧ ∃ y ∈ sc t s op, DsC t S k y)
variable {S T : List Int → Prop}
theorem DsC.goal {k : Nat} {s : List Int} (h : j3 t s) : DsC t S k s := by
 cases k with
 | zero => exact h
 | succ k => exact .inl h
theorem DsC.succ : ∀ {k : Nat} {s : List Int}, DsC t S k s → DsC t S (k + 1) s
 | 0, s, h => .inl h
 | k + 1, s, h => by
  rcases h with h | ⟨h0, op, h1, h2, h3, y, hy, h4⟩
  ·exact .inl h
  ·exact .inr ⟨h0, op, h1, h2, h3, y, hy, h4.succ⟩
theorem DsC.mono {k m : Nat} {s : List Int} (h : DsC t S k s) (hm : k ≤ m) : DsC t S m s := by
 induction hm with
 | refl => exact h
 | step _ ih => exact ih.succ
theorem DsC.sub (hST : ∀ s, S s → T s) : ∀ {k : Nat} {s : List Int}, DsC t S k s → DsC t T k s
 | 0, s, h => h
 | k + 1, s, h => by
  rcases h with h | ⟨h0, op, h1, h2, h3, y, hy, h4⟩
  ·exact .inl h
  ·exact .inr ⟨hST s h0, op, h1, h2, fun z hz => hST z (h3 z hz), y, hy, h4.sub hST⟩
def HtD (t : b9) (S : List Int → Prop) (k : Nat) (s : List Int) : Prop := DsC t S k s ∧ ∀ j, j < k → ¬ DsC t S j s
theorem HtD.unique {k m : Nat} {s : List Int} (h : HtD t S k s) (h' : HtD t S m s) : k = m := by
 rcases Nat.lt_trichotomy k m with c | c | c
 ·exact absurd h.1 (h'.2 k c)
 ·exact c
 ·exact absurd h'.1 (h.2 m c)
theorem HtD.of_dn : ∀ {k : Nat} {s : List Int}, DsC t S k s → ∃ m, m ≤ k ∧ HtD t S m s
 | 0, s, h => ⟨0, Nat.le_refl _, h, fun j hj => by omega⟩
 | k + 1, s, h => by
  by_cases c : DsC t S k s
  ·obtain ⟨m, h1, h2⟩ := HtD.of_dn c
   exact ⟨m, by omega, h2⟩
  ·exact ⟨k + 1, Nat.le_refl _, h, fun j hj hd => c (hd.mono (by omega))⟩
theorem HtD.of_not {k : Nat} {s : List Int} (h : DsC t S (k + 1) s) (hn : ¬ DsC t S k s) : HtD t S (k + 1) s := ⟨h, fun j hj hd => hn (hd.mono (by omega))⟩
theorem HtD.step {k : Nat} {s : List Int} (h : HtD t S (k + 1) s) : ¬ j3 t s ∧ S s ∧ ∃ op : Int, (0 ≤ op ∧ op < t.operators.length) ∧ oCan t s op ∧ (∀ y ∈ sc t s op, S y) ∧ ∃ y ∈ sc t s op, HtD t S k y := by
 have hg : ¬ j3 t s := fun g => h.2 0 (by omega) g
 rcases h.1 with g | ⟨h0, op, h1, h2, h3, y, hy, h4⟩
 ·exact absurd g hg
 ·refine ⟨hg, h0, op, h1, h2, h3, y, hy, h4, fun j hj hd => ?_⟩
  exact h.2 (j + 1) (by omega) (.inr ⟨h0, op, h1, h2, h3, y, hy, hd⟩)
theorem HtD.chain {all : LL} (hc : ClO t all) : ∀ {k : Nat} {s : List Int}, s ∈ all → HtD t S k s → ∃ c : LL, c.length = k + 1 ∧ c.Nodup ∧ ∀ x ∈ c, x ∈ all ∧ ∃ j, j ≤ k ∧ HtD t S j x
 | 0, s, hs, h => ⟨[s], rfl, by simp, fun x hx => by rw [List.mem_singleton.1 hx]; exact ⟨hs, 0, Nat.le_refl _, h⟩⟩
 | k + 1, s, hs, h => by
  obtain ⟨_, _, op, h1, h2, _, y, hy, h4⟩ := h.step
  obtain ⟨c, c1, c2, c3⟩ := HtD.chain hc (hc.sc hs h1 h2 hy) h4
  refine ⟨s :: c, by simp [c1], List.nodup_cons.2 ⟨fun hm => ?_, c2⟩, fun x hx => ?_⟩
  ·obtain ⟨_, j, j1, j2⟩ := c3 s hm
   have := j2.unique h; omega
  ·rcases List.mem_cons.1 hx with rfl | hx
   ·exact ⟨hs, k + 1, Nat.le_refl _, h⟩
   ·obtain ⟨q0, j, q1, q2⟩ := c3 x hx
    exact ⟨q0, j, by omega, q2⟩
theorem HtD.lt {all : LL} (hc : ClO t all) {k : Nat} {s : List Int} (hs : s ∈ all) (h : HtD t S k s) : k < all.length := by
 obtain ⟨c, c1, c2, c3⟩ := h.chain hc hs
 have := O4 c2 fun x hx => (c3 x hx).1
 omega
/-! ### Lists of numbers -/
theorem an3 {l : List Int} {f : Int → Option Bool} {p : Int → Prop} (h : ∀ x ∈ l, f x = some (dec (p x))) : l9 l f = some (dec (∃ x ∈ l, p x)) := by
 unfold l9 A4
 rcases u4 (body := q9 l f) (n := (l.length : Int)) (fun j => if dec (∃ x, ix l j = some x ∧ p x) = true then some j else none) (by omega) (fun j h0 h1 _ => by
  obtain ⟨x, hx, _⟩ := i7 (l := l) h0 h1
  unfold q9
  simp only [hx, ob, h x (i8 hx)]
  by_cases e : p x
  ·rw [ifP e, ifP ⟨x, rfl, e⟩]
  ·rw [ifN e, ifN (by rintro ⟨z, hz, hp⟩; cases hz; exact e hp)]) with ⟨h1, h2⟩ | ⟨j, o, h0, h1, h2, h3, h4⟩
 ·rw [h1]
  simp only [ob]
  rw [o6]
  ·rfl
  ·rintro ⟨x, hx, hp⟩
   obtain ⟨i, i0, i1, hi⟩ := k9 hx
   have := h2 i i0 i1
   rw [ifP ⟨x, hi, hp⟩] at this
   cases this
 ·rw [h4]
  split at h2
  ·rename_i e
   cases h2
   simp only [ob]
   obtain ⟨x, hx, hp⟩ := l4.1 e
   rw [k7 ⟨x, i8 hx, hp⟩, decide_eq_true h0]
  ·cases h2
theorem containsFL_eq {l : LL} {f : List Int → Option Bool} {p : List Int → Prop} (h : ∀ x ∈ l, f x = some (dec (p x))) : n5 l f = some (dec (∃ x ∈ l, p x)) := by
 unfold n5 B6
 rcases u4 (body := s9 l f) (n := (l.length : Int)) (fun j => if dec (∃ x, ix l j = some x ∧ p x) = true then some j else none) (by omega) (fun j h0 h1 _ => by
  obtain ⟨x, hx, _⟩ := i7 (l := l) h0 h1
  unfold s9
  simp only [hx, ob, h x (i8 hx)]
  by_cases e : p x
  ·rw [ifP e, ifP ⟨x, rfl, e⟩]
  ·rw [ifN e, ifN (by rintro ⟨z, hz, hp⟩; cases hz; exact e hp)]) with ⟨h1, h2⟩ | ⟨j, o, h0, h1, h2, h3, h4⟩
 ·rw [h1]
  simp only [ob]
  rw [o6]
  ·rfl
  ·rintro ⟨x, hx, hp⟩
   obtain ⟨i, i0, i1, hi⟩ := k9 hx
   have := h2 i i0 i1
   rw [ifP ⟨x, hi, hp⟩] at this
   cases this
 ·rw [h4]
  split at h2
  ·rename_i e
   cases h2
   simp only [ob]
   obtain ⟨x, hx, hp⟩ := l4.1 e
   rw [k7 ⟨x, i8 hx, hp⟩, decide_eq_true h0]
  ·cases h2
/-! ### The numbers of the states after an operator -/
def ArcL (t : b9) (all : LL) (s : List Int) (op : Int) (l : List Int) : Prop := (oCan t s op ∧ ∀ k, k ∈ l ↔ ∃ y ∈ sc t s op, ix all k = some y) ∨ (¬ oCan t s op ∧ l = [])
structure ArcsOk (t : b9) (all : LL) (nx : List LL) : Prop where
 len : nx.length = all.length
 row : ∀ i s, ix all i = some s → ∃ r, ix nx i = some r ∧ r.length = t.operators.length ∧ ∀ op l, ix r op = some l → ArcL t all s op l
theorem ix_set_same {A : Type} {l : List A} {i : Int} {x y : A} (h : ix l i = some y) : ix (l.set i.toNat x) i = some x := by
 obtain ⟨i0, i1, _⟩ := j7 h
 rw [ix_put i0 i1 i0, if_pos rfl]
theorem arcs_eq (ht : k6 t) {all : LL} (hc : ClO t all) : ∃ nx, V8 t all = some nx ∧ ArcsOk t all nx := by
 have hlen := hc.len
 have hops := ht.ops
 unfold V8
 rw [show mkL 24 (all.length : Int) ([] : LL) = some (List.replicate all.length []) by rw [mkL, if_pos (by omega)]; simp]
 simp only [ob]
 obtain ⟨nx, h1, h2, h3⟩ := p8 (body := U4 t all) (n := (all.length : Int)) (s := List.replicate all.length ([] : LL)) (fun j nx => nx.length = all.length ∧ ∀ i s, i < j → ix all i = some s → ∃ r, ix nx i = some r ∧ r.length = t.operators.length ∧ ∀ op l, ix r op = some l → ArcL t all s op l) (by omega) ⟨by simp, fun i s hi hs => by have := (j7 hs).1; omega⟩ (fun j nx j0 j1 ⟨a1, a2⟩ => by
  obtain ⟨s, hs, _⟩ := i7 (l := all) j0 j1
  have hsm := i8 hs
  have hset := hc.set hsm
  obtain ⟨r0, hr0, _⟩ := i7 (l := nx) j0 (by omega)
  unfold U4
  rw [hs]
  simp only [ob]
  rw [show mkL 24 (t.operators.length : Int) ([] : List Int) = some (List.replicate t.operators.length []) by rw [mkL, if_pos (by omega)]; simp]
  simp only [ob, hr0]
  obtain ⟨r, r1, r2, r3⟩ := p8 (body := U5 t all s) (n := (t.operators.length : Int)) (s := List.replicate t.operators.length ([] : List Int)) (fun k r => r.length = t.operators.length ∧ (∀ op l, op < k → ix r op = some l → ArcL t all s op l) ∧ ∀ op l, k ≤ op → ix r op = some l → l = []) (by omega) ⟨by simp, fun op l h0 h => by have := (j7 h).1; omega, fun op l _ h => List.eq_of_mem_replicate (i8 h)⟩ (fun k r k0 k1 ⟨b1, b2, b3⟩ => by
   unfold U5
   rw [oCan_eq ht k0 k1 hset]
   simp only [ob, q7]
   by_cases cc : oCan t s k
   ·rw [ifNN cc]
    obtain ⟨st, ws, q1, _, q3, q4, _⟩ := A9 ht k0 k1 hset
    have hst : ∀ y, y ∈ st ↔ y ∈ sc t s k := fun y => by rw [q3, sc, List.mem_map]
    rw [q1]
    simp only [ob]
    obtain ⟨l0, hl0, _⟩ := i7 (l := r) k0 (by omega)
    have e0 : l0 = [] := b3 k l0 (Int.le_refl _) hl0
    subst e0
    obtain ⟨r', d1, d2, l', d3, d4, d5⟩ := p8 (body := V0 all k (st, ws)) (n := (st.length : Int)) (s := r) (fun m r' => r'.length = r.length ∧ ∃ l, r' = r.set k.toNat l ∧ (l.length : Int) ≤ m ∧ ∀ z, z ∈ l ↔ ∃ q y, 0 ≤ q ∧ q < m ∧ ix st q = some y ∧ ix all z = some y) (by omega) ⟨rfl, [], (by
     have := (j7 hl0).2.2
     refine (List.ext_getElem? fun i => ?_)
     rw [List.getElem?_set]
     split
     ·rename_i e; subst e; rw [if_pos (List.getElem?_eq_some_iff.1 this).1, this]
     ·rfl), by simp, fun z => ⟨fun h => by (cases h), fun ⟨q, y, q0, q1, _⟩ => by omega⟩⟩ (fun m r' m0 m1 ⟨e1, l, e2, e3, e4⟩ => by
     obtain ⟨y, hy, _⟩ := i7 (l := st) m0 m1
     have hya := hc.sc hsm ⟨k0, k1⟩ cc ((hst y).1 (i8 hy))
     obtain ⟨z, z0, z1, hz⟩ := k9 hya
     have hg : ix r' k = some l := by rw [e2]; exact ix_set_same hl0
     unfold V0
     dsimp only
     rw [hy]
     simp only [ob, hg, find_eq hc.ord (show all.length ≤ 500000 by omega) hz]
     rw [app, if_pos (by simp; omega)]
     simp only [ob]
     refine ⟨_, rfl, by rw [List.length_set]; exact e1, l ++ [z], by rw [e2, List.set_set], by simp; omega, fun z' => ?_⟩
     rw [List.mem_append, List.mem_singleton, e4]
     constructor
     ·rintro (⟨q, y', q0, q1, q2, q3⟩ | rfl)
      ·exact ⟨q, y', q0, by omega, q2, q3⟩
      ·exact ⟨m, y, m0, by omega, hy, hz⟩
     ·rintro ⟨q, y', q0, q1, q2, q3⟩
      by_cases e : q = m
      ·subst e; rw [hy] at q2; cases q2
       exact .inr (hc.ord.inj q3 hz)
      ·exact .inl ⟨q, y', q0, by omega, q2, q3⟩)
    rw [d1]
    simp only [ob]
    refine ⟨_, rfl, by omega, fun op l ho hl => ?_, fun op l ho hl => ?_⟩
    ·rw [d3] at hl
     rcases (by
      have := (j7 hl).1
      rw [ix_put k0 (by omega) this] at hl
      by_cases e : op = k
      ·rw [if_pos e] at hl; exact .inl ⟨e, Option.some.inj hl⟩
      ·rw [if_neg e] at hl; exact .inr ⟨e, hl⟩ : (op = k ∧ l' = l) ∨ (op ≠ k ∧ ix r op = some l)) with ⟨rfl, rfl⟩ | ⟨e, hl⟩
     ·refine .inl ⟨cc, fun z => ?_⟩
      rw [d5]
      constructor
      ·rintro ⟨q, y, _, _, q2, q3⟩; exact ⟨y, (hst y).1 (i8 q2), q3⟩
      ·rintro ⟨y, hy, hz⟩
       obtain ⟨q, q0, q1, hq⟩ := k9 ((hst y).2 hy)
       exact ⟨q, y, q0, q1, hq, hz⟩
     ·exact b2 op l (by omega) hl
    ·rw [d3, ix_put k0 (by omega) (by omega), if_neg (by omega)] at hl
     exact b3 op l (by omega) hl
   ·rw [ifP cc]
    refine ⟨_, rfl, b1, fun op l ho hl => ?_, fun op l ho hl => b3 op l (by omega) hl⟩
    by_cases e : op = k
    ·subst e; exact .inr ⟨cc, b3 op l (Int.le_refl _) hl⟩
    ·exact b2 op l (by omega) hl)
  rw [r1]
  simp only [ob]
  refine ⟨_, rfl, by rw [List.length_set]; exact a1, fun i z hi hz => ?_⟩
  by_cases e : i = j
  ·subst e
   rw [hs] at hz; cases hz
   exact ⟨r, ix_set_same hr0, r2, fun op l hl => r3.1 op l (by have := (j7 hl).2.1; omega) hl⟩
  ·obtain ⟨r', g1, g2⟩ := a2 i z (by omega) hz
   exact ⟨r', by rw [ix_put j0 (by omega) (j7 hz).1, if_neg e]; exact g1, g2⟩)
 rw [h1]
 exact ⟨nx, rfl, h2, fun i s hs => h3 i s (j7 hs).2.1 hs⟩
end
end Ab
end
section
namespace Ab
open Go
theorem sumN_le {l : List Int} {i : Nat} {x y : Int} (h : l[i]? = some y) (h0 : 0 ≤ x) (h1 : x ≤ y) : sumN (l.set i x) ≤ sumN l := by
 by_cases e : x = y
 ·subst e
  have : l.set i x = l := by
   refine List.ext_getElem? fun k => ?_
   rw [List.getElem?_set]
   split
   ·rename_i e; subst e; rw [if_pos (List.getElem?_eq_some_iff.1 h).1, h]
   ·rfl
  rw [this]; exact Nat.le_refl _
 ·exact Nat.le_of_lt (aj6 h h0 (by omega))
section
variable {t : b9} {S : List Int → Prop} {all : LL}
noncomputable def sfl (S : List Int → Prop) (s : List Int) : Int := if dec (S s) = true then 1 else 0
theorem P9 {s : List Int} (h : S s) : sfl S s = 1 := ifP h
theorem Y9 {s : List Int} (h : ¬ S s) : sfl S s = 0 := ifN h
theorem measure1 {sv d : List Int} {f : List Int → Int} (hs : Rep all sv (sfl S)) (hd : Rep all d f) {layer : Int} (hl : 0 ≤ layer ∧ layer ≤ 1000000) {l : List Int} (hk : ∀ k ∈ l, ∃ s, ix all k = some s) :
  F1 l sv d layer = some (dec (l ≠ [] ∧ (∀ k ∈ l, ∀ s, ix all k = some s → S s) ∧ ∃ k ∈ l, ∃ s, ix all k = some s ∧ f s = layer - 1)) := by
 have e1 : P6 l sv = some (dec (l ≠ [] ∧ ∀ k ∈ l, ∀ s, ix all k = some s → S s)) := by
  unfold P6
  by_cases c : 0 < (l.length : Int)
  ·rw [if_pos c, an3 (p := fun k => ∃ s, ix all k = some s ∧ ¬ S s) (fun k hk2 => by
    obtain ⟨s, hsk⟩ := hk k hk2
    unfold S0
    rw [hs.get hsk]
    simp only [ob]
    by_cases e : S s
    ·rw [P9 e, o6 (by rintro ⟨z, hz, hn⟩; rw [hsk] at hz; cases hz; exact hn e)]
     rfl
    ·rw [Y9 e, k7 ⟨s, hsk, e⟩]
     rfl)]
   simp only [ob, q7]
   congr 1
   refine m7 ⟨fun h => ⟨fun e => by rw [e] at c; simp at c, fun k hk2 s hsk => Classical.byContradiction fun hn => h ⟨k, hk2, s, hsk, hn⟩⟩, fun h => ?_⟩
   rintro ⟨k, hk2, s, hsk, hn⟩
   exact hn (h.2 k hk2 s hsk)
  ·rw [if_neg c, o6]
   ·rfl
   ·exact fun h => h.1 (List.eq_nil_of_length_eq_zero (by omega))
 unfold F1
 rw [e1]
 simp only [ob]
 by_cases c : l ≠ [] ∧ ∀ k ∈ l, ∀ s, ix all k = some s → S s
 ·rw [ifP c, an3 (p := fun k => ∃ s, ix all k = some s ∧ f s = layer - 1) (fun k hk2 => by
   obtain ⟨s, hsk⟩ := hk k hk2
   unfold K5
   rw [hd.get hsk, s5 (by omega) (by omega)]
   simp only [ob, z7]
   congr 1
   refine m7 ⟨fun e => ⟨s, hsk, e⟩, ?_⟩
   rintro ⟨z, hz, e⟩
   rw [hsk] at hz; cases hz; exact e)]
  simp only [ob]
  congr 1
  exact m7 ⟨fun h => ⟨c.1, c.2, h⟩, fun h => h.2.2⟩
 ·rw [ifN c]
  simp only [ob]
  rw [o6]
  exact fun h => c ⟨h.1, h.2.1⟩
def StepC (t : b9) (S : List Int → Prop) (f : List Int → Int) (s : List Int) (v : Int) : Prop := ∃ op : Int, (0 ≤ op ∧ op < t.operators.length) ∧ oCan t s op ∧ (∀ y ∈ sc t s op, S y) ∧ ∃ y ∈ sc t s op, f y = v
theorem measureR (ht : k6 t) (hc : ClO t all) {nx : List LL} (hn : ArcsOk t all nx) {sv d : List Int} {f : List Int → Int} (hs : Rep all sv (sfl S)) (hd : Rep all d f) {layer : Int} (hl : 0 ≤ layer ∧ layer ≤ 1000000) {i : Int} {s : List Int} (hi : ix all i = some s) :
  ∃ r, ix nx i = some r ∧ n5 r (fun y1 => F1 y1 sv d layer) = some (dec (StepC t S f s (layer - 1))) := by
 obtain ⟨r, r1, r2, r3⟩ := hn.row i s hi
 have hsm := i8 hi
 refine ⟨r, r1, ?_⟩
 have inr : ∀ x ∈ r, ∃ op, ix r op = some x ∧ (0 ≤ op ∧ op < t.operators.length) ∧ ArcL t all s op x := fun x hx => by
  obtain ⟨op, o0, o1, ho⟩ := k9 hx
  exact ⟨op, ho, ⟨o0, by omega⟩, r3 op x ho⟩
 rw [containsFL_eq (p := fun l => l ≠ [] ∧ (∀ k ∈ l, ∀ s, ix all k = some s → S s) ∧ ∃ k ∈ l, ∃ s, ix all k = some s ∧ f s = layer - 1) (fun x hx => by
  obtain ⟨op, _, ho, ha⟩ := inr x hx
  refine measure1 hs hd hl fun k hk => ?_
  rcases ha with ⟨_, ha⟩ | ⟨_, rfl⟩
  ·obtain ⟨y, _, hy⟩ := (ha k).1 hk
   exact ⟨y, hy⟩
  ·cases hk)]
 congr 1
 refine m7 ⟨?_, ?_⟩
 ·rintro ⟨x, hx, h1, h2, k, hk, z, hz, hf⟩
  obtain ⟨op, _, ho, ha⟩ := inr x hx
  rcases ha with ⟨hcan, ha⟩ | ⟨_, rfl⟩
  ·refine ⟨op, ho, hcan, fun y hy => ?_, z, ?_, hf⟩
   ·obtain ⟨q, _, _, hq⟩ := k9 (hc.sc hsm ho hcan hy)
    exact h2 q ((ha q).2 ⟨y, hy, hq⟩) y hq
   ·obtain ⟨y, hy, hyk⟩ := (ha k).1 hk
    rw [hz] at hyk; cases hyk; exact hy
  ·exact absurd rfl h1
 ·rintro ⟨op, ho, hcan, h1, y, hy, hf⟩
  obtain ⟨x, hx, _⟩ := i7 (l := r) ho.1 (by omega)
  rcases r3 op x hx with ⟨_, ha⟩ | ⟨hn2, _⟩
  ·obtain ⟨q, _, _, hq⟩ := k9 (hc.sc hsm ho hcan hy)
   have hqx := (ha q).2 ⟨y, hy, hq⟩
   refine ⟨x, i8 hx, ⟨fun e => (by rw [e] at hqx; cases hqx), fun k hk z hz => ?_, q, hqx, y, hq, hf⟩⟩
   obtain ⟨z', hz', hzk⟩ := (ha k).1 hk
   rw [hz] at hzk; cases hzk
   exact h1 z hz'
  ·exact absurd hcan hn2
def RankD (t : b9) (S : List Int → Prop) (all : LL) (f : List Int → Int) (L : Nat) : Prop := ∀ s ∈ all, (f s = -1 ∧ ¬ DsC t S L s) ∨ ∃ k : Nat, k ≤ L ∧ f s = k ∧ HtD t S k s
theorem RankD.fresh (hc : ClO t all) {f : List Int → Int} {L : Nat} (h : RankD t S all f L) {s : List Int} (hs : s ∈ all) : HtD t S (L + 1) s ↔ f s < 0 ∧ S s ∧ StepC t S f s L := by
 constructor
 ·intro hh
  have hn : ¬ DsC t S L s := hh.2 L (by omega)
  have hf : f s = -1 := by
   rcases h s hs with ⟨e, _⟩ | ⟨k, k1, _, k2⟩
   ·exact e
   ·exact absurd (k2.1.mono k1) hn
  obtain ⟨_, h0, op, h1, h2, h3, y, hy, h4⟩ := hh.step
  refine ⟨by omega, h0, op, h1, h2, h3, y, hy, ?_⟩
  rcases h y (hc.sc hs h1 h2 hy) with ⟨_, e⟩ | ⟨k, _, e, hk⟩
  ·exact absurd h4.1 e
  ·rw [e, hk.unique h4]
 ·rintro ⟨hf, h0, op, h1, h2, h3, y, hy, h4⟩
  have hn : ¬ DsC t S L s := by
   rcases h s hs with ⟨_, e⟩ | ⟨k, _, e, _⟩
   ·exact e
   ·omega
  refine HtD.of_not (.inr ⟨h0, op, h1, h2, h3, y, hy, ?_⟩) hn
  rcases h y (hc.sc hs h1 h2 hy) with ⟨e, _⟩ | ⟨k, _, e, hk⟩
  ·omega
  ·have : k = L := by omega
   subst this; exact hk.1
theorem measure_eq (ht : k6 t) (hc : ClO t all) {nx : List LL} (hn : ArcsOk t all nx) {sv : List Int} (hs : Rep all sv (sfl S)) :
  ∃ v f, N5 t all nx sv = some v ∧ Rep all v f ∧ ∀ s ∈ all, (f s = -1 ∧ ∀ k, ¬ DsC t S k s) ∨ ∃ k : Nat, f s = k ∧ HtD t S k s := by
 have hlen := hc.len
 have hn1 := ht.n1
 unfold N5
 rw [repeat_eq (-1) (List.length_pos_of_mem hc.cl.init) (by omega)]
 simp only [ob]
 obtain ⟨v0, a1, f0, a2, a3⟩ := p8 (body := M9 t all) (n := (all.length : Int)) (s := List.replicate all.length (-1)) (fun j v => ∃ f, Rep all v f ∧ ∀ i s, ix all i = some s → (i < j → (j3 t s → f s = 0) ∧ (¬ j3 t s → f s = -1)) ∧ (j ≤ i → f s = -1)) (by omega) ⟨_, Rep.repl (-1), fun i s hi => ⟨fun h => by have := (j7 hi).1; omega, fun _ => rfl⟩⟩ (fun j v j0 j1 ⟨f, h1, h2⟩ => by
  obtain ⟨s, hs, _⟩ := i7 (l := all) j0 j1
  have hset := hc.set (i8 hs)
  have hsl := hset.len
  unfold M9
  rw [hs]
  simp only [ob, W1 hset.1 ht.goal.1 (show s.length ≤ 1000000 by omega), h1.get hs]
  by_cases hg : j3 t s
  ·rw [ifP (p := ∀ x ∈ t.goal, x ∈ s) hg]
   refine ⟨_, rfl, _, h1.set hc.ord hs 0, fun i z hz => ?_⟩
   by_cases e : i = j
   ·subst e
    rw [hs] at hz; cases hz
    rw [A5]
    exact ⟨fun _ => ⟨fun _ => rfl, fun h => absurd hg h⟩, fun h => by omega⟩
   ·rw [E7 (fun hz' => e (hc.ord.inj hz (by rw [hz']; exact hs)))]
    exact ⟨fun h => (h2 i z hz).1 (by omega), fun h => (h2 i z hz).2 (by omega)⟩
  ·rw [ifN (p := ∀ x ∈ t.goal, x ∈ s) hg]
   refine ⟨_, rfl, _, h1, fun i z hz => ?_⟩
   by_cases e : i = j
   ·subst e
    rw [hs] at hz; cases hz
    exact ⟨fun _ => ⟨fun h => absurd h hg, fun _ => (h2 i s hs).2 (Int.le_refl _)⟩, fun h => by omega⟩
   ·exact ⟨fun h => (h2 i z hz).1 (by omega), fun h => (h2 i z hz).2 (by omega)⟩)
 rw [a1]
 simp only [ob]
 have r0 : RankD t S all f0 0 := fun s hs => by
  obtain ⟨i, _, i1, hi⟩ := k9 hs
  have := (a3 i s hi).1 i1
  by_cases hg : j3 t s
  ·exact .inr ⟨0, Nat.le_refl _, this.1 hg, hg, fun j hj => by omega⟩
  ·exact .inl ⟨this.2 hg, hg⟩
 obtain ⟨v, e1, f, L, e2, e3, e4⟩ := A6 (body := N0 all nx sv) (fun x => ∃ f L, Rep all x.1 f ∧ x.2 = ((L : Nat) : Int) + 1 ∧ RankD t S all f L ∧ L ≤ all.length) (fun v => ∃ f L, Rep all v f ∧ RankD t S all f L ∧ all.length ≤ L) (fun x => (all.length + 2 - x.2).toNat) (s := (v0, 1)) ⟨f0, 0, a2, by simp, r0, by omega⟩ (fun ⟨v, layer⟩ ⟨f, L, h1, h2, h3, h4⟩ => by
  dsimp only at h1 h2 ⊢
  subst h2
  unfold N0
  dsimp only
  by_cases c : ((L : Nat) : Int) + 1 ≤ all.length
  ·rw [if_pos c]
   obtain ⟨v', g1, f', g2, g3⟩ := p8 (body := M7 nx sv (((L : Nat) : Int) + 1)) (n := (all.length : Int)) (s := v) (fun j v' => ∃ f', Rep all v' f' ∧ ∀ i s, ix all i = some s → (i < j → (HtD t S (L + 1) s → f' s = ((L : Nat) : Int) + 1) ∧ (¬ HtD t S (L + 1) s → f' s = f s)) ∧ (j ≤ i → f' s = f s)) (by omega) ⟨f, h1, fun i s hi => ⟨fun h => by have := (j7 hi).1; omega, fun _ => rfl⟩⟩ (fun j v' j0 j1 ⟨f', q1, q2⟩ => by
    obtain ⟨s, hsj, _⟩ := i7 (l := all) j0 j1
    have hsm := i8 hsj
    have same : ∀ y ∈ all, f' y = (L : Int) ↔ f y = L := fun y hy => by
     obtain ⟨i, _, _, hi⟩ := k9 hy
     have b := q2 i y hi
     by_cases ci : i < j
     ·by_cases hh : HtD t S (L + 1) y
      ·have := (h3.fresh hc hy).1 hh
       rw [(b.1 ci).1 hh]; omega
      ·rw [(b.1 ci).2 hh]
     ·rw [b.2 (by omega)]
    have hfs : f' s = f s := (q2 j s hsj).2 (Int.le_refl _)
    obtain ⟨r, r1, r2⟩ := measureR ht hc hn hs q1 (layer := ((L : Nat) : Int) + 1) (by omega) hsj
    have hst : StepC t S f' s (((L : Nat) : Int) + 1 - 1) ↔ StepC t S f s L := by
     rw [show ((L : Nat) : Int) + 1 - 1 = L by omega]
     constructor
     ·rintro ⟨op, o1, o2, o3, y, hy, e⟩; exact ⟨op, o1, o2, o3, y, hy, (same y (hc.sc hsm o1 o2 hy)).1 e⟩
     ·rintro ⟨op, o1, o2, o3, y, hy, e⟩; exact ⟨op, o1, o2, o3, y, hy, (same y (hc.sc hsm o1 o2 hy)).2 e⟩
    unfold M7
    rw [q1.get hsj, hs.get hsj]
    simp only [ob]
    have key : (if 0 ≤ f' s then some true else some (decide (sfl S s = 0))) = some (dec (¬ (f s < 0 ∧ S s))) := by
     rw [hfs]
     by_cases c1 : 0 ≤ f s
     ·rw [if_pos c1, k7 (fun h => by omega)]
     ·rw [if_neg c1]
      by_cases c2 : S s
      ·rw [P9 c2, o6 (fun h => h ⟨by omega, c2⟩)]; rfl
      ·rw [Y9 c2, k7 (fun h => c2 h.2)]; rfl
    rw [key]
    simp only [ob]
    have keep : ∀ f'' : List Int → Int, (∀ z ∈ all, z ≠ s → f'' z = f' z) → ((HtD t S (L + 1) s → f'' s = ((L : Nat) : Int) + 1) ∧ (¬ HtD t S (L + 1) s → f'' s = f s)) → ∀ i z, ix all i = some z → (i < j + 1 → (HtD t S (L + 1) z → f'' z = ((L : Nat) : Int) + 1) ∧ (¬ HtD t S (L + 1) z → f'' z = f z)) ∧ (j + 1 ≤ i → f'' z = f z) := fun f'' k1 k2 i z hz => by
     by_cases e : i = j
     ·subst e
      rw [hsj] at hz; cases hz
      exact ⟨fun _ => k2, fun h => by omega⟩
     ·have hne : z ≠ s := fun hz' => e (hc.ord.inj hz (by rw [hz']; exact hsj))
      rw [k1 z (i8 hz) hne]
      exact ⟨fun h => (q2 i z hz).1 (by omega), fun h => (q2 i z hz).2 (by omega)⟩
    by_cases cs : f s < 0 ∧ S s
    ·rw [ifNN cs, r1]
     simp only [ob, r2]
     rw [m7 hst]
     by_cases ch : StepC t S f s L
     ·rw [ifP ch]
      have hh := (h3.fresh hc hsm).2 ⟨cs.1, cs.2, ch⟩
      exact ⟨_, rfl, _, q1.set hc.ord hsj _, keep _ (fun z _ hne => E7 hne) ⟨fun _ => A5, fun h => absurd hh h⟩⟩
     ·rw [ifN ch]
      have hh : ¬ HtD t S (L + 1) s := fun h => ch ((h3.fresh hc hsm).1 h).2.2
      exact ⟨_, rfl, _, q1, keep _ (fun z _ _ => rfl) ⟨fun h => absurd h hh, fun _ => hfs⟩⟩
    ·rw [ifP cs]
     have hh : ¬ HtD t S (L + 1) s := fun h => cs ⟨((h3.fresh hc hsm).1 h).1, ((h3.fresh hc hsm).1 h).2.1⟩
     exact ⟨_, rfl, _, q1, keep _ (fun z _ _ => rfl) ⟨fun h => absurd h hh, fun _ => hfs⟩⟩)
   rw [g1]
   simp only [ob]
   rw [s5 (by omega) (by omega)]
   refine .inl ⟨_, rfl, ⟨f', L + 1, g2, by dsimp only; omega, fun s hsm => ?_, by omega⟩, by dsimp only; omega⟩
   obtain ⟨i, _, i1, hi⟩ := k9 hsm
   have b := (g3 i s hi).1 i1
   by_cases hh : HtD t S (L + 1) s
   ·exact .inr ⟨L + 1, Nat.le_refl _, by rw [b.1 hh]; omega, hh⟩
   ·rcases h3 s hsm with ⟨q1, q2⟩ | ⟨k, q0, q1, q2⟩
    ·exact .inl ⟨by rw [b.2 hh]; exact q1, fun hd => hh (.of_not hd q2)⟩
    ·exact .inr ⟨k, by omega, by rw [b.2 hh]; exact q1, q2⟩
  ·rw [if_neg c]
   exact .inr ⟨_, rfl, f, L, h1, h3, by omega⟩)
 rw [e1]
 refine ⟨v, f, rfl, e2, fun s hsm => ?_⟩
 rcases e3 s hsm with ⟨q1, q2⟩ | ⟨k, _, q1, q2⟩
 ·refine .inl ⟨q1, fun k hk => q2 ?_⟩
  obtain ⟨m, _, hm⟩ := HtD.of_dn hk
  have := hm.lt hc hsm
  exact hm.1.mono (by omega)
 ·exact .inr ⟨k, q1, q2⟩
def PostF (t : b9) (all : LL) (T : List Int → Prop) : Prop := ∀ s, T s → s ∈ all ∧ ∃ k, DsC t T k s
def Sd (all : LL) (f : List Int → Int) (s : List Int) : Prop := s ∈ all ∧ 0 ≤ f s
structure K7 (t : b9) (all : LL) (f : List Int → Int) : Prop where
 val : ∀ s ∈ all, (f s = -1 ∧ ∀ k, ¬ DsC t (Sd all f) k s) ∨ ∃ k : Nat, f s = k ∧ HtD t (Sd all f) k s
 gr : ∀ T, PostF t all T → ∀ s, T s → 0 ≤ f s
theorem K7.post {f : List Int → Int} (h : K7 t all f) : PostF t all (Sd all f) := fun s hs => by
 refine ⟨hs.1, ?_⟩
 rcases h.val s hs.1 with ⟨e, _⟩ | ⟨k, _, hk⟩
 ·have := hs.2; omega
 ·exact ⟨k, hk.1⟩
theorem K7.unique {f g : List Int → Int} (h : K7 t all f) (h' : K7 t all g) : ∀ s ∈ all, f s = g s := by
 have e : Sd all f = Sd all g := funext fun s => propext ⟨fun q => ⟨q.1, h'.gr _ h.post s q⟩, fun q => ⟨q.1, h.gr _ h'.post s q⟩⟩
 intro s hs
 have a := h.val s hs; have b := h'.val s hs
 rw [← e] at b
 rcases a with ⟨a1, a2⟩ | ⟨k, a1, a2⟩ <;> rcases b with ⟨b1, b2⟩ | ⟨m, b1, b2⟩
 ·omega
 ·exact absurd b2.1 (a2 m)
 ·exact absurd a2.1 (b2 k)
 ·rw [a1, b1, a2.unique b2]
theorem K7.lt (hc : ClO t all) {f : List Int → Int} (h : K7 t all f) {s : List Int} (hs : s ∈ all) : f s < all.length := by
 rcases h.val s hs with ⟨e, _⟩ | ⟨k, e, hk⟩
 ·omega
 ·have := hk.lt hc hs; omega
theorem distances_eq (ht : k6 t) (hc : ClO t all) : ∃ v f, J1 t all = some v ∧ Rep all v f ∧ K7 t all f := by
 have hlen := hc.len
 unfold J1
 obtain ⟨nx, n1, n2⟩ := arcs_eq ht hc
 rw [n1]
 simp only [ob]
 rw [repeat_eq 1 (List.length_pos_of_mem hc.cl.init) (by omega)]
 simp only [ob]
 obtain ⟨v, e1, f, e2, e3⟩ := A6 (body := J6 t all nx) (fun x => ∃ S : List Int → Prop, (∀ s, S s → s ∈ all) ∧ Rep all x (sfl S) ∧ (∀ s ∈ all, j3 t s → S s) ∧ ∀ T, PostF t all T → ∀ s, T s → S s) (fun v => ∃ f, Rep all v f ∧ K7 t all f) sumN (s := List.replicate all.length 1) ⟨fun s => s ∈ all, fun s h => h, (Rep.repl 1).congr fun s hs => (P9 hs).symm, fun s hs _ => hs, fun T hT s hs => (hT s hs).1⟩ (fun sv ⟨S, s1, s2, s3, s4⟩ => by
  obtain ⟨d, f, d1, d2, d3⟩ := measure_eq ht hc n2 s2
  have sub : ∀ s ∈ all, 0 ≤ f s → S s := fun s hs hf => by
   rcases d3 s hs with ⟨e, _⟩ | ⟨k, _, hk⟩
   ·omega
   ·cases k with
    | zero => exact s3 s hs hk.1
    | succ k => exact hk.step.2.1
  unfold J6
  rw [d1]
  simp only [ob]
  rw [d2.len]
  obtain ⟨⟨sv', b⟩, g1, g2, g3, g4, g5⟩ := p8 (body := J5 d) (n := (all.length : Int)) (s := (sv, true)) (fun j x => x.1.length = all.length ∧ (∀ i s, ix all i = some s → ix x.1 i = some (if i < j then sfl (Sd all f) s else sfl S s)) ∧ (x.2 = dec (∀ i s, i < j → ix all i = some s → (0 ≤ f s ↔ S s))) ∧ sumN x.1 + (if x.2 = true then 0 else 1) ≤ sumN sv) (by omega) ⟨s2.len, fun i s hi => by rw [if_neg (by have := (j7 hi).1; omega)]; exact s2.get hi, (k7 fun i s hi h => by have := (j7 h).1; omega).symm, by simp⟩ (fun j ⟨x, bx⟩ j0 j1 ⟨q1, q2, q3, q4⟩ => by
   dsimp only at q1 q2 q3 q4 ⊢
   obtain ⟨s, hs, _⟩ := i7 (l := all) j0 j1
   have hsm := i8 hs
   have hfl : f s ≤ all.length ∧ -1 ≤ f s := by
    rcases d3 s hsm with ⟨e, _⟩ | ⟨k, e, hk⟩
    ·omega
    ·have := hk.lt hc hsm; omega
   have hx := q2 j s hs
   rw [if_neg (by omega)] at hx
   unfold J5
   dsimp only
   rw [d2.get hs, hx]
   simp only [ob]
   rw [s5 (by omega) (by omega)]
   have hmin : min 1 (f s + 1) = sfl (Sd all f) s := by
    by_cases c : 0 ≤ f s
    ·rw [P9 ⟨hsm, c⟩]; omega
    ·rw [Y9 (fun h => c h.2)]; omega
   have key : (if bx = true then some (decide ((decide (0 ≤ f s)) = (decide (0 < sfl S s)))) else some false) = some (dec (∀ i s, i < j + 1 → ix all i = some s → (0 ≤ f s ↔ S s))) := by
    have h2 : (decide ((decide (0 ≤ f s)) = (decide (0 < sfl S s)))) = dec (0 ≤ f s ↔ S s) := by
     have : decide (0 < sfl S s) = dec (S s) := by
      by_cases c : S s
      ·rw [P9 c, k7 c]; rfl
      ·rw [Y9 c, o6 c]; rfl
     rw [this, z7 (p := 0 ≤ f s), z7]
     exact m7 dec_inj
    by_cases cb : bx = true
    ·rw [if_pos cb, h2]
     congr 1
     rw [cb] at q3
     have h3 := l4.1 q3.symm
     refine m7 ⟨fun h i z hi hz => ?_, fun h => h j s (by omega) hs⟩
     by_cases e : i = j
     ·subst e; rw [hs] at hz; cases hz; exact h
     ·exact h3 i z (by omega) hz
    ·rw [if_neg cb, o6]
     intro h
     exact cb (by rw [q3]; exact k7 fun i z hi hz => h i z (by omega) hz)
   rw [key]
   simp only [ob]
   rw [hmin]
   refine ⟨_, rfl, by rw [List.length_set]; exact q1, fun i z hz => ?_, rfl, ?_⟩
   ·rw [ix_put j0 (by omega) (j7 hz).1]
    by_cases e : i = j
    ·subst e
     rw [hs] at hz; cases hz
     rw [if_pos rfl, if_pos (by omega)]
    ·rw [if_neg e, q2 i z hz]
     congr 1
     by_cases c : i < j
     ·rw [if_pos c, if_pos (by omega)]
     ·rw [if_neg c, if_neg (by omega)]
   ·dsimp only
    have hxg := (j7 hx).2.2
    by_cases ca : (∀ i s, i < j + 1 → ix all i = some s → (0 ≤ f s ↔ S s))
    ·rw [if_pos (k7 ca)]
     have hbx : bx = true := by rw [q3]; exact k7 fun i z hi hz => ca i z (by omega) hz
     rw [if_pos hbx] at q4
     have e : sfl (Sd all f) s = sfl S s := by
      have := ca j s (by omega) hs
      by_cases c : S s
      ·rw [P9 c, P9 ⟨hsm, this.2 c⟩]
      ·rw [Y9 c, Y9 (fun h => c (this.1 h.2))]
     rw [e]
     have := sumN_le (x := sfl S s) hxg (by unfold sfl; split <;> omega) (Int.le_refl _)
     omega
    ·rw [if_neg (by rw [o6 ca]; simp)]
     by_cases hbx : bx = true
     ·rw [if_pos hbx] at q4
      -- it is here that they differ
      have hd : ¬ (0 ≤ f s ↔ S s) := fun h => ca fun i z hi hz => by
       by_cases e : i = j
       ·subst e; rw [hs] at hz; cases hz; exact h
       ·exact l4.1 (q3.symm.trans hbx) i z (by omega) hz
      have h1 : ¬ 0 ≤ f s := fun h => hd ⟨fun _ => sub s hsm h, fun _ => h⟩
      have h2 : S s := Classical.byContradiction fun h => hd ⟨fun h' => absurd h' h1, fun h' => absurd h' h⟩
      have := aj6 (x := sfl (Sd all f) s) hxg (by unfold sfl; split <;> omega) (by rw [P9 h2, Y9 (fun h => h1 h.2)]; omega)
      omega
     ·rw [if_neg hbx] at q4
      have := sumN_le (x := sfl (Sd all f) s) hxg (by unfold sfl; split <;> omega) (by
       by_cases c : 0 ≤ f s
       ·rw [P9 ⟨hsm, c⟩, P9 (sub s hsm c)]; exact Int.le_refl _
       ·rw [Y9 (fun h => c h.2)]; unfold sfl; split <;> omega)
      omega)
  rw [g1]
  simp only [ob]
  dsimp only at g2 g3 g4 g5
  by_cases cb : b = true
  ·rw [if_pos cb]
   rw [cb] at g4
   have h4 := l4.1 g4.symm
   have e : S = Sd all f := funext fun s => propext ⟨fun h => by
    have hm := s1 s h
    obtain ⟨i, _, i1, hi⟩ := k9 hm
    exact ⟨hm, (h4 i s i1 hi).2 h⟩, fun h => by
    obtain ⟨i, _, i1, hi⟩ := k9 h.1
    exact (h4 i s i1 hi).1 h.2⟩
   refine .inr ⟨d, rfl, f, d2, ⟨by rw [e] at d3; exact d3, fun T hT s hs => ?_⟩⟩
   have := s4 T hT s hs
   rw [e] at this
   exact this.2
  ·rw [if_neg cb]
   rw [if_neg cb] at g5
   refine .inl ⟨sv', rfl, ⟨Sd all f, fun s h => h.1, ⟨g2, fun {i s} hi => by rw [g3 i s hi, if_pos (j7 hi).2.1]⟩, fun s hs hg => ⟨hs, ?_⟩, fun T hT s hs => ⟨(hT s hs).1, ?_⟩⟩, by omega⟩
   ·rcases d3 s hs with ⟨_, e⟩ | ⟨k, e, _⟩
    ·exact absurd (DsC.goal hg) (e 0)
    ·omega
   ·obtain ⟨hm, k, hk⟩ := hT s hs
    rcases d3 s hm with ⟨_, e⟩ | ⟨k, e, _⟩
    ·exact absurd (hk.sub (s4 T hT)) (e k)
    ·omega)
 rw [e1]
 exact ⟨v, f, rfl, e2, e3⟩
end
end Ab
end
section
namespace Ab
open Go
section
variable {t : b9} {all : LL}
def CycP (t : b9) (f : List Int → Int) (s : List Int) (op : Int) : Prop := ((0 ≤ op ∧ op < t.operators.length) ∧ oCan t s op) ∧ (∀ y ∈ sc t s op, 0 ≤ f y) ∧ ∃ y ∈ sc t s op, f y = f s - 1
def FirstC (t : b9) (f : List Int → Int) (s : List Int) (b : Int) : Prop := CycP t f s b ∧ ∀ op, 0 ≤ op → op < b → ¬ CycP t f s op
theorem cycChoice (ht : k6 t) (hc : ClO t all) {v : List Int} {f : List Int → Int} (hv : Rep all v f) (hb : ∀ s ∈ all, -1 ≤ f s ∧ f s ≤ 100000) {s : List Int} (hs : s ∈ all) :
  ∃ b, o7 s v all t = some b ∧ ((b = -1 ∧ ∀ op, ¬ CycP t f s op) ∨ FirstC t f s b) := by
 have hlen := hc.len
 have hset := hc.set hs
 obtain ⟨i, hi, hvi⟩ := hv.of hs
 have hbs := hb s hs
 unfold o7
 rw [find_eq hc.ord (by omega) hi]
 simp only [ob, hvi]
 have one : ∀ op : Int, 0 ≤ op → op < t.operators.length → G0 s v all t (f s) op () = some (match (if dec (CycP t f s op) = true then some op else none) with | none => .inl () | some o => .inr o) := fun op o0 o1 => by
  unfold G0
  rw [oCan_eq ht o0 o1 hset]
  simp only [ob, q7]
  unfold G1
  by_cases cc : oCan t s op
  ·rw [ifNN cc]
   obtain ⟨st, ws, q1, _, q3, _⟩ := A9 ht o0 o1 hset
   have hst : ∀ y, y ∈ st ↔ y ∈ sc t s op := fun y => by rw [q3, sc, List.mem_map]
   rw [q1]
   simp only [ob]
   obtain ⟨⟨sure, near⟩, g1, g2, g3⟩ := p8 (body := L4 v all (f s) (st, ws)) (n := (st.length : Int)) (s := (true, false)) (fun j x => x.1 = dec (∀ k y, k < j → ix st k = some y → 0 ≤ f y) ∧ x.2 = dec (∃ k y, k < j ∧ ix st k = some y ∧ f y = f s - 1)) (by omega) ⟨(k7 fun k y hk h => by have := (j7 h).1; omega).symm, (o6 (by rintro ⟨k, y, hk, h, _⟩; have := (j7 h).1; omega)).symm⟩ (fun j ⟨sure, near⟩ j0 j1 ⟨a1, a2⟩ => by
    dsimp only at a1 a2
    obtain ⟨y, hy, _⟩ := i7 (l := st) j0 j1
    obtain ⟨z, hz, hvz⟩ := hv.of (hc.sc hs ⟨o0, o1⟩ cc ((hst y).1 (i8 hy)))
    unfold L4
    dsimp only
    rw [hy]
    simp only [ob, find_eq hc.ord (show all.length ≤ 500000 by omega) hz, hvz]
    rw [s5 (by omega) (by omega)]
    have e1 : dec (∀ k y, k < j + 1 → ix st k = some y → 0 ≤ f y) = (sure && decide (0 ≤ f y)) := by
     rw [a1, z7, dec_and]
     refine m7 ⟨fun h => ⟨fun k z hk hz => h k z (by omega) hz, h j y (by omega) hy⟩, fun ⟨h1, h2⟩ k z hk hz => ?_⟩
     by_cases e : k = j
     ·subst e; rw [hy] at hz; cases hz; exact h2
     ·exact h1 k z (by omega) hz
    have e2 : dec (∃ k y, k < j + 1 ∧ ix st k = some y ∧ f y = f s - 1) = (near || decide (f y = f s - 1)) := by
     rw [a2, z7, dec_or]
     refine m7 ⟨fun ⟨k, z, hk, hz, e⟩ => ?_, ?_⟩
     ·by_cases ek : k = j
      ·subst ek; rw [hy] at hz; cases hz; exact .inr e
      ·exact .inl ⟨k, z, by omega, hz, e⟩
     ·rintro (⟨k, z, hk, hz, e⟩ | e)
      ·exact ⟨k, z, by omega, hz, e⟩
      ·exact ⟨j, y, by omega, hy, e⟩
    rw [e1, e2]
    cases sure <;> cases near <;> simp)
   rw [g1]
   simp only [ob]
   dsimp only at g2 g3
   have e : (sure && near) = dec (CycP t f s op) := by
    rw [g2, g3, dec_and]
    refine m7 ⟨fun ⟨h1, k, y, _, hy, e⟩ => ⟨⟨⟨o0, o1⟩, cc⟩, fun z hz => ?_, y, (hst y).1 (i8 hy), e⟩, fun ⟨_, h1, y, hy, e⟩ => ⟨fun k z _ hz => h1 z ((hst z).1 (i8 hz)), ?_⟩⟩
    ·obtain ⟨q, _, q1, hq⟩ := k9 ((hst z).2 hz)
     exact h1 q z q1 hq
    ·obtain ⟨q, _, q1, hq⟩ := k9 ((hst y).2 hy)
     exact ⟨q, y, q1, hq, e⟩
   rw [e]
   by_cases h : CycP t f s op
   ·rw [ifP h, ifP h]
   ·rw [ifN h, ifN h]
  ·rw [ifP cc, ifN (fun h => cc h.1.2)]
 rcases u4 (body := G0 s v all t (f s)) (n := (t.operators.length : Int)) (fun op => if dec (CycP t f s op) = true then some op else none) (by omega) (fun op o0 o1 _ => by
  rw [one op o0 o1]
  by_cases h : CycP t f s op
  ·rw [ifP h]
  ·rw [ifN h]) with ⟨h1, h2⟩ | ⟨op, o, o0, o1, h2, h3, h4⟩
 ·rw [h1]
  refine ⟨-1, rfl, .inl ⟨rfl, fun op h => ?_⟩⟩
  have := h2 op h.1.1.1 h.1.1.2
  rw [ifP h] at this; cases this
 ·rw [h4]
  split at h2
  ·rename_i e
   cases h2
   refine ⟨op, rfl, .inr ⟨l4.1 e, fun q q0 q1 h => ?_⟩⟩
   have := h3 q q0 q1
   rw [ifP h] at this; cases this
  ·cases h2
theorem K7.bnd (hc : ClO t all) {f : List Int → Int} (h : K7 t all f) : ∀ s ∈ all, -1 ≤ f s ∧ f s ≤ 100000 := fun s hs => by
 have := h.lt hc hs
 have := hc.len
 rcases h.val s hs with ⟨e, _⟩ | ⟨k, e, _⟩ <;> omega
theorem K7.has (hc : ClO t all) {f : List Int → Int} (h : K7 t all f) {s : List Int} (hs : s ∈ all) (hf : 0 ≤ f s) (hg : ¬ j3 t s) : ∃ op, CycP t f s op := by
 rcases h.val s hs with ⟨e, _⟩ | ⟨k, e, hk⟩
 ·omega
 ·cases k with
  | zero => exact absurd hk.1 hg
  | succ k =>
   obtain ⟨_, _, op, h1, h2, h3, y, hy, h4⟩ := hk.step
   refine ⟨op, ⟨h1, h2⟩, fun z hz => (h3 z hz).2, y, hy, ?_⟩
   rcases h.val y (h3 y hy).1 with ⟨_, q⟩ | ⟨m, q, hm⟩
   ·exact absurd h4.1 (q k)
   ·rw [q, hm.unique h4]; omega
theorem am0 (ht : k6 t) : (C0 t = some ([], false) ∧ u9 t 2000 = some ([], false) ∧ r8 t = some ([], false, ⟨10, -7⟩)) ∨ ∃ all v f, C0 t = some (all, true) ∧ u9 t 2000 = some (all, true) ∧ ClO t all ∧ Rep all v f ∧ K7 t all f ∧
  ((f t.init = -1 ∧ r8 t = some ([], false, ⟨0, 0⟩)) ∨ ∃ ch, ChOk t ch ∧ (∀ s, RchC t ch s → s ∈ all ∧ 0 ≤ f s) ∧ (∀ s, RchC t ch s → ¬ j3 t s → FirstC t f s (ch s)) ∧
   ((r8 t = some ([], false, ⟨10, -8⟩) ∧ ∃ l : LL, l.Nodup ∧ (∀ s ∈ l, RchC t ch s ∧ ¬ j3 t s) ∧ l.length = 201) ∨ ∃ p, r8 t = some (p, true, ⟨0, 0⟩) ∧ PolB t ch p ∧ p.length ≤ 200)) := by
 unfold r8
 rw [explore_ok ht]
 rcases reach_full ht with ⟨all, q1, q2, q3, q4, _⟩ | ⟨q1, q2⟩
 ·right
  have hc : ClO t all := ⟨q3, q4⟩
  have hlen := hc.len
  obtain ⟨v, f, r1, r2, r3⟩ := distances_eq ht hc
  obtain ⟨i, hi, hvi⟩ := r2.of q3.init
  refine ⟨all, v, f, q1, q2, hc, r2, r3, ?_⟩
  rw [q1]
  simp only [ob, if_true]
  rw [if_neg (by simp), r1]
  simp only [ob, find_eq q4 (show all.length ≤ 500000 by omega) hi, hvi]
  by_cases cf : f t.init < 0
  ·rw [if_pos cf]
   refine .inl ⟨?_, rfl⟩
   have := (r3.bnd hc _ q3.init).1; omega
  ·rw [if_neg cf]
   right
   have step : ∀ s, s ∈ all → 0 ≤ f s → ¬ j3 t s → ∃ b, o7 s v all t = some b ∧ FirstC t f s b := fun s hs hf hg => by
    obtain ⟨b, b1, b2⟩ := cycChoice ht hc r2 (r3.bnd hc) hs
    refine ⟨b, b1, ?_⟩
    rcases b2 with ⟨_, b2⟩ | b2
    ·obtain ⟨op, ho⟩ := r3.has hc hs hf hg
     exact absurd ho (b2 op)
    ·exact b2
   have inv : ∀ s, RchC t (fun s => (o7 s v all t).getD (-1)) s → s ∈ all ∧ 0 ≤ f s := fun s hs => by
    induction hs with
    | init => exact ⟨q3.init, by omega⟩
    | @step s y _ hg hy ih =>
     obtain ⟨b, b1, b2⟩ := step s ih.1 ih.2 hg
     have e : (o7 s v all t).getD (-1) = b := by rw [b1]; rfl
     unfold nxC at hy
     dsimp only at hy
     rw [e] at hy
     exact ⟨hc.sc ih.1 b2.1.1.1 b2.1.1.2 hy, b2.1.2.1 y hy⟩
   have hk : ChOk t (fun s => (o7 s v all t).getD (-1)) := fun s hs hg => by
    obtain ⟨b, b1, b2⟩ := step s (inv s hs).1 (inv s hs).2 hg
    dsimp only
    rw [b1]; exact b2.1.1
   refine ⟨_, hk, inv, fun s hs hg => ?_, ?_⟩
   ·obtain ⟨b, b1, b2⟩ := step s (inv s hs).1 (inv s hs).2 hg
    have e : (o7 s v all t).getD (-1) = b := by rw [b1]; rfl
    exact (show FirstC t f s ((o7 s v all t).getD (-1)) by rw [e]; exact b2)
   ·obtain ⟨r, p1, p2⟩ := build_prog ht hk (choose := fun y1 => o7 y1 v all t) (fun s hs hg => by
     obtain ⟨b, b1, _⟩ := step s (inv s hs).1 (inv s hs).2 hg
     show o7 s v all t = some ((o7 s v all t).getD (-1))
     rw [b1]; rfl)
    rw [p1]
    rcases p2 with ⟨rfl, p2⟩ | ⟨p, rfl, p2⟩
    ·exact .inl ⟨rfl, p2⟩
    ·exact .inr ⟨p, rfl, p2⟩
 ·left
  rw [q1]
  exact ⟨rfl, q2, rfl⟩
theorem cpolicy_bad {f : l6} (hv : E0 t = some f) (hc : f.code ≠ 0) : r8 t = some ([], false, f) := by
 unfold r8
 rw [explore_bad hv hc]
 simp only [ob]
 rw [if_pos (fault_no hc)]
end
section
variable {t : b9} {p : List d9}
def RkP (t : b9) (p : List d9) : Nat → List Int → Prop
 | 0, s => j3 t s
 | k + 1, s => j3 t s ∨ (B4 p s ∧ ∃ y ∈ nxS t p s, RkP t p k y)
theorem RkP.goal {k : Nat} {s : List Int} (h : j3 t s) : RkP t p k s := by
 cases k with
 | zero => exact h
 | succ k => exact .inl h
theorem RkP.succ : ∀ {k : Nat} {s : List Int}, RkP t p k s → RkP t p (k + 1) s
 | 0, s, h => .inl h
 | k + 1, s, h => by
  rcases h with h | ⟨h1, y, hy, h2⟩
  ·exact .inl h
  ·exact .inr ⟨h1, y, hy, h2.succ⟩
theorem RkP.mono {k m : Nat} {s : List Int} (h : RkP t p k s) (hm : k ≤ m) : RkP t p m s := by
 induction hm with
 | refl => exact h
 | step _ ih => exact ih.succ
def HtR (t : b9) (p : List d9) (k : Nat) (s : List Int) : Prop := RkP t p k s ∧ ∀ j, j < k → ¬ RkP t p j s
theorem HtR.unique {k m : Nat} {s : List Int} (h : HtR t p k s) (h' : HtR t p m s) : k = m := by
 rcases Nat.lt_trichotomy k m with c | c | c
 ·exact absurd h.1 (h'.2 k c)
 ·exact c
 ·exact absurd h'.1 (h.2 m c)
theorem HtR.of_dn : ∀ {k : Nat} {s : List Int}, RkP t p k s → ∃ m, m ≤ k ∧ HtR t p m s
 | 0, s, h => ⟨0, Nat.le_refl _, h, fun j hj => by omega⟩
 | k + 1, s, h => by
  by_cases c : RkP t p k s
  ·obtain ⟨m, h1, h2⟩ := HtR.of_dn c
   exact ⟨m, by omega, h2⟩
  ·exact ⟨k + 1, Nat.le_refl _, h, fun j hj hd => c (hd.mono (by omega))⟩
theorem HtR.chain {l : LL} (hv : Vis t p l) : ∀ {k : Nat} {s : List Int}, s ∈ l → HtR t p k s → ∃ c : LL, c.length = k + 1 ∧ c.Nodup ∧ ∀ x ∈ c, x ∈ l ∧ ∃ j, j ≤ k ∧ HtR t p j x
 | 0, s, hs, h => ⟨[s], rfl, by simp, fun x hx => by rw [List.mem_singleton.1 hx]; exact ⟨hs, 0, Nat.le_refl _, h⟩⟩
 | k + 1, s, hs, h => by
  have hg : ¬ j3 t s := fun g => h.2 0 (by omega) g
  rcases h.1 with g | ⟨hl, y, hy, h4⟩
  ·exact absurd g hg
  have h5 : HtR t p k y := ⟨h4, fun j hj hd => h.2 (j + 1) (by omega) (.inr ⟨hl, y, hy, hd⟩)⟩
  obtain ⟨c, c1, c2, c3⟩ := HtR.chain hv (hv.closed s hs hg hl y hy) h5
  refine ⟨s :: c, by simp [c1], List.nodup_cons.2 ⟨fun hm => ?_, c2⟩, fun x hx => ?_⟩
  ·obtain ⟨_, j, j1, j2⟩ := c3 s hm
   have := j2.unique h; omega
  ·rcases List.mem_cons.1 hx with rfl | hx
   ·exact ⟨hs, k + 1, Nat.le_refl _, h⟩
   ·obtain ⟨q0, j, q1, q2⟩ := c3 x hx
    exact ⟨q0, j, by omega, q2⟩
theorem HtR.lt {l : LL} (hv : Vis t p l) {k : Nat} {s : List Int} (hs : s ∈ l) (h : HtR t p k s) : k < l.length := by
 obtain ⟨c, c1, c2, c3⟩ := h.chain hv hs
 have := O4 c2 fun x hx => (c3 x hx).1
 omega
structure CanOk (t : b9) (p : List d9) (l : LL) (f : List Int → Int) : Prop where
 b : ∀ s ∈ l, f s = 0 ∨ f s = 1
 ok : ∀ s ∈ l, f s = 1 → ∃ k, RkP t p k s
theorem holds2 (ht : k6 t) (hp : H8 t p) {l : LL} (hv : Vis t p l) {i : Int} {s : List Int} (hs : ix l i = some s) {c : List Int} {f : List Int → Int} (hr : Rep l c f) (hk : CanOk t p l f) :
  (G4 t p l i c = some (.inr false) ∧ ¬ j3 t s ∧ ¬ B4 p s) ∨ ∃ c' f', G4 t p l i c = some (.inl c') ∧ Rep l c' f' ∧ CanOk t p l f' ∧ (∀ z ∈ l, f z ≤ f' z) ∧ (j3 t s → f' s = 1) ∧ (B4 p s → ∀ y ∈ nxS t p s, f y = 1 → f' s = 1) := by
 have hsm := i8 hs
 have hset := ((hv.mem s).1 hsm).set ht
 have hsl := hset.len
 have hn := ht.n1
 have hlen := hv.len ht hp
 unfold G4
 rw [hs]
 simp only [ob, W1 hset.1 ht.goal.1 (show s.length ≤ 1000000 by omega)]
 unfold M3
 by_cases hg : j3 t s
 ·rw [ifP (p := ∀ x ∈ t.goal, x ∈ s) hg, hr.get hs]
  simp only [ob]
  refine .inr ⟨_, _, rfl, hr.set hv.ord hs 1, ⟨fun z hz => ?_, fun z hz hf => ?_⟩, fun z hz => ?_, fun _ => A5, fun _ _ _ _ => A5⟩
  ·by_cases e : z = s
   ·subst e; exact .inr A5
   ·rw [E7 e]; exact hk.b z hz
  ·by_cases e : z = s
   ·subst e; exact ⟨0, hg⟩
   ·rw [E7 e] at hf; exact hk.ok z hz hf
  ·by_cases e : z = s
   ·subst e; rw [A5]; rcases hk.b z hz with h | h <;> omega
   ·rw [E7 e]; exact Int.le_refl _
 ·rw [ifN (p := ∀ x ∈ t.goal, x ∈ s) hg, (af4 hp s).1]
  simp only [ob]
  by_cases hl : chO p s < 0
  ·rw [if_pos hl]
   exact .inl ⟨rfl, hg, fun h => by unfold B4 at h; omega⟩
  ·rw [if_neg hl]
   have hlive : B4 p s := by unfold B4; omega
   have ho := live_op hp hlive
   obtain ⟨st, w, r1, _, r3, _⟩ := A9 ht ho.1.1 ho.1.2 hset
   have hst : ∀ y, y ∈ st ↔ y ∈ nxS t p s := fun y => by rw [r3, nxS, List.mem_map]
   rw [r1]
   simp only [ob]
   obtain ⟨c', g1, f', g2, g3, g4, g5, g6⟩ := p8 (body := Q9 l i (st, w)) (n := (st.length : Int)) (s := c) (fun j x => ∃ f', Rep l x f' ∧ CanOk t p l f' ∧ (∀ z ∈ l, f z ≤ f' z) ∧ (∀ z ∈ l, z ≠ s → f' z = f z) ∧ ∀ k y, k < j → ix st k = some y → f y = 1 → f' s = 1) (by omega) ⟨f, hr, hk, fun z _ => Int.le_refl _, fun z _ _ => rfl, fun k y hk2 h => by have := (j7 h).1; omega⟩ (fun j x j0 j1 ⟨f', q1, q2, q3, q4, q5⟩ => by
    obtain ⟨y, hy, _⟩ := i7 (l := st) j0 j1
    have hyn := (hst y).1 (i8 hy)
    have hyl := hv.closed s hsm hg hlive y hyn
    obtain ⟨z, hz, hzv⟩ := q1.of hyl
    unfold Q9
    dsimp only
    rw [hy]
    simp only [ob, q1.get hs, find_eq hv.ord (show l.length ≤ 500000 by omega) hz, hzv]
    have bs := q2.b s hsm
    have by' := q2.b y hyl
    refine ⟨_, rfl, _, q1.set hv.ord hs _, ⟨fun z' hz' => ?_, fun z' hz' hf => ?_⟩, fun z' hz' => ?_, fun z' hz' hne => ?_, fun k y' hk2 hy' hf => ?_⟩
    ·by_cases e : z' = s
     ·subst e; rw [A5]; omega
     ·rw [E7 e]; exact q2.b z' hz'
    ·by_cases e : z' = s
     ·subst e
      rw [A5] at hf
      by_cases c1 : f' z' = 1
      ·exact q2.ok z' hz' c1
      ·obtain ⟨k, hk3⟩ := q2.ok y hyl (by omega)
       exact ⟨k + 1, .inr ⟨hlive, y, hyn, hk3⟩⟩
     ·rw [E7 e] at hf; exact q2.ok z' hz' hf
    ·by_cases e : z' = s
     ·subst e; rw [A5]; have := q3 z' hz'; omega
     ·rw [E7 e]; exact q3 z' hz'
    ·rw [E7 hne]; exact q4 z' hz' hne
    ·rw [A5]
     by_cases e : k = j
     ·subst e
      rw [hy] at hy'; cases hy'
      have := q3 y hyl
      omega
     ·have := q5 k y' (by omega) hy' hf
      omega)
   rw [g1]
   simp only [ob]
   refine .inr ⟨c', f', rfl, g2, g3, g4, fun h => absurd h hg, fun _ y hy hf => ?_⟩
   obtain ⟨q, _, q1, hq⟩ := k9 ((hst y).2 hy)
   exact g6 q y q1 hq hf
def KnR (t : b9) (p : List d9) (l : LL) (r : Nat) (f : List Int → Int) : Prop := ∀ s ∈ l, ∀ k, k < r → RkP t p k s → f s = 1
theorem holds1 (ht : k6 t) (hp : H8 t p) {l : LL} (hv : Vis t p l) {c : List Int} {f : List Int → Int} (hr : Rep l c f) (hk : CanOk t p l f) {r : Nat} (hn : KnR t p l r f) (j : Int) :
  (G8 t p l j c = some (.inr false) ∧ ∃ s ∈ l, ¬ j3 t s ∧ ¬ B4 p s) ∨ ∃ c' f', G8 t p l j c = some (.inl c') ∧ Rep l c' f' ∧ CanOk t p l f' ∧ KnR t p l (r + 1) f' := by
 unfold G8
 rcases Y0 (body := G4 t p l) (n := (l.length : Int)) (s := c) (fun j x => ∃ f', Rep l x f' ∧ CanOk t p l f' ∧ (∀ z ∈ l, f z ≤ f' z) ∧ ∀ i s k, i < j → ix l i = some s → k < r + 1 → RkP t p k s → f' s = 1) (fun o => o = false ∧ ∃ s ∈ l, ¬ j3 t s ∧ ¬ B4 p s) (by omega) ⟨f, hr, hk, fun z _ => Int.le_refl _, fun i s k hi h => by have := (j7 h).1; omega⟩ (fun j x j0 j1 ⟨f', q1, q2, q3, q4⟩ => by
  obtain ⟨s, hs, _⟩ := i7 (l := l) j0 j1
  have hsm := i8 hs
  rcases holds2 ht hp hv hs q1 q2 with ⟨h1, h2, h3⟩ | ⟨c', f'', h1, h2, h3, h4, h5, h6⟩
  ·exact .inr ⟨_, h1, rfl, s, hsm, h2, h3⟩
  ·refine .inl ⟨_, h1, f'', h2, h3, fun z hz => Int.le_trans (q3 z hz) (h4 z hz), fun i z k hi hz hkr hkk => ?_⟩
   by_cases e : i = j
   ·subst e
    rw [hs] at hz; cases hz
    by_cases hg : j3 t s
    ·exact h5 hg
    ·cases k with
     | zero => exact absurd hkk hg
     | succ k =>
      rcases hkk with g | ⟨hl, y, hy, hyk⟩
      ·exact absurd g hg
      ·have hyl := hv.closed s hsm hg hl y hy
       have e1 := hn y hyl k (by omega) hyk
       have e2 := q3 y hyl
       refine h6 hl y hy ?_
       rcases q2.b y hyl with h | h <;> omega
   ·have e1 := q4 i z k (by omega) hz hkr hkk
    have e2 := h4 z (i8 hz)
    rcases h3.b z (i8 hz) with h | h <;> omega) with ⟨c', e1, f', e2, e3, e4, e5⟩ | ⟨o, e1, rfl, e2⟩
 ·rw [e1]
  refine .inr ⟨c', f', rfl, e2, e3, fun s hs k hk2 hkk => ?_⟩
  obtain ⟨i, _, i1, hi⟩ := k9 hs
  exact e5 i s k i1 hi hk2 hkk
 ·rw [e1]
  exact .inl ⟨rfl, e2⟩
theorem holds_eq (ht : k6 t) (hp : H8 t p) : T7 t p = some (dec (∀ s, Rch t p s → ∃ k, RkP t p k s)) := by
 obtain ⟨l, g1, hv⟩ := oVisited_eq ht hp
 have hlen := hv.len ht hp
 unfold T7
 rw [g1]
 simp only [ob]
 rw [show mkL 8 (l.length : Int) (0 : Int) = some (List.replicate l.length 0) by rw [mkL, if_pos (by omega)]; simp]
 simp only [ob]
 rcases Y0 (body := G8 t p l) (n := (l.length : Int)) (s := List.replicate l.length 0) (fun j x => ∃ f, Rep l x f ∧ CanOk t p l f ∧ KnR t p l j.toNat f) (fun o => o = false ∧ ∃ s ∈ l, ¬ j3 t s ∧ ¬ B4 p s) (by omega) ⟨_, Rep.repl 0, ⟨fun s _ => .inl rfl, fun s _ h => by cases h⟩, fun s _ k hk => by simp at hk⟩ (fun j x j0 j1 ⟨f, q1, q2, q3⟩ => by
  rcases holds1 ht hp hv q1 q2 q3 j with ⟨h1, h2⟩ | ⟨c', f', h1, h2, h3, h4⟩
  ·exact .inr ⟨_, h1, rfl, h2⟩
  ·exact .inl ⟨_, h1, f', h2, h3, by rwa [show (j + 1).toNat = j.toNat + 1 by omega]⟩) with ⟨c, e1, f, e2, e3, e4⟩ | ⟨o, e1, rfl, s, hs, hg, hl⟩
 ·rw [e1]
  simp only [ob, contains1_eq, q7]
  congr 1
  refine m7 ⟨fun h s hs => ?_, fun h hm => ?_⟩
  ·have hsl := (hv.mem s).2 hs
   obtain ⟨i, hi, hci⟩ := e2.of hsl
   rcases e3.b s hsl with e | e
   ·exact absurd (by rw [e] at hci; exact i8 hci) h
   ·exact e3.ok s hsl e
  ·obtain ⟨i, i0, i1, hi⟩ := k9 hm
   obtain ⟨s, hs, _⟩ := i7 (l := l) i0 (by have := e2.len; omega)
   have hsl := i8 hs
   obtain ⟨k, hk⟩ := h s ((hv.mem s).1 hsl)
   obtain ⟨m, _, hm2⟩ := HtR.of_dn hk
   have := hm2.lt hv hsl
   have e5 := e4 s hsl m (by omega) hm2.1
   rw [e2.get hs, e5] at hi
   cases hi
 ·rw [e1, o6]
  ·rfl
  intro h
  obtain ⟨k, hk⟩ := h s ((hv.mem s).1 hs)
  cases k with
  | zero => exact hg hk
  | succ k =>
   rcases hk with h | ⟨h, _⟩
   ·exact hg h
   ·exact hl h
theorem ccheck_ok (ht : k6 t) (hp : H8 t p) : I9 t p = some (dec (∀ s, Rch t p s → ∃ k, RkP t p k s), ⟨0, 0⟩) := by
 obtain ⟨f, f1, _, f3⟩ := policy_eq t p
 have hf : f = ⟨0, 0⟩ := by
  rcases f3 with ⟨rfl, _⟩ | ⟨_, h⟩
  ·rfl
  ·exact absurd ⟨ht, hp⟩ h
 subst hf
 unfold I9
 rw [f1]
 simp only [ob]
 rw [if_neg (by simp), holds_eq ht hp]
 rfl
end
end Ab
end
section
namespace Ab
open Go
section
variable {t : b9} {p : List d9} {ch : List Int → Int}
theorem polB_rk {all : LL} (hk : ChOk t ch) {f : List Int → Int} (h1 : ∀ s, RchC t ch s → s ∈ all ∧ 0 ≤ f s) (h2 : ∀ s, RchC t ch s → ¬ j3 t s → FirstC t f s (ch s)) (hp : PolB t ch p) : ∀ (k : Nat) (s : List Int), RchC t ch s → f s ≤ k → ∃ m, RkP t p m s
 | 0, s, hr, h0 => by
  by_cases hg : j3 t s
  ·exact ⟨0, hg⟩
  ·obtain ⟨_, _, y, hy, e⟩ := (h2 s hr hg).1
   have := (h1 y (.step hr hg hy)).2
   omega
 | k + 1, s, hr, h0 => by
  by_cases hg : j3 t s
  ·exact ⟨0, hg⟩
  ·obtain ⟨_, _, y, hy, e⟩ := (h2 s hr hg).1
   obtain ⟨m, hm⟩ := polB_rk hk h1 h2 hp k y (.step hr hg hy) (by omega)
   have el := hp.live hr hg
   exact ⟨m + 1, .inr ⟨by unfold B4; rw [el]; exact (hk s hr hg).1.1, y, by unfold nxS; rw [el]; exact hy, hm⟩⟩
theorem cfound {all : LL} (ht : k6 t) (hk : ChOk t ch) {f : List Int → Int} (h1 : ∀ s, RchC t ch s → s ∈ all ∧ 0 ≤ f s) (h2 : ∀ s, RchC t ch s → ¬ j3 t s → FirstC t f s (ch s)) (hp : PolB t ch p) (hl : p.length ≤ 200) : I9 t p = some (true, ⟨0, 0⟩) := by
 rw [ccheck_ok ht (hp.pol ht hk hl), k7]
 intro s hs
 have hr := rch_of hp.op hs
 have := (h1 s hr).2
 exact polB_rk hk h1 h2 hp (f s).toNat s hr (by omega)
end
/-! ### The coin -/
theorem coin_X0 : efc 1 [0] coinX = [0] := by
 refine (set01.eq_of (p := fun p => p ∈ coinX.add ∨ p ∈ [0] ∧ p ∉ coinX.del) fun x h0 h1 => ?_).symm
 simp [coinX]
theorem coin_Y0 : efc 1 [0] coinY = [0] := by
 refine (set01.eq_of (p := fun p => p ∈ coinY.add ∨ p ∈ [0] ∧ p ∉ coinY.del) fun x h0 h1 => ?_).symm
 simp [coinY]
theorem coinOo : ooAt y6 0 = coinO := rfl
theorem coin_sc0 {y : List Int} : y ∈ sc y6 [] 0 ↔ y = [0] ∨ y = [] := by
 unfold sc
 rw [coinOo]
 simp only [coinO, show y6.facts = 1 from rfl, List.map_cons, List.map_nil, coin_X, coin_Y, List.mem_cons, List.not_mem_nil, or_false]
theorem coin_sc1 {y : List Int} : y ∈ sc y6 [0] 0 ↔ y = [0] := by
 unfold sc
 rw [coinOo]
 simp only [coinO, show y6.facts = 1 from rfl, List.map_cons, List.map_nil, coin_X0, coin_Y0, List.mem_cons, List.not_mem_nil, or_false, or_self]
theorem coin_res0 : ∃ w, u5 y6 [] 0 = some ([[], [0]], w) := by
 obtain ⟨st, w, r1, r2, r3, _⟩ := A9 coin_ok (op := 0) (by decide) (by decide) (s := []) (T6 _)
 refine ⟨w, ?_⟩
 rw [r1]
 have : st = [[], [0]] := Ord.ext r2 (by simp [llt]) fun y => by
  have h := coin_sc0 (y := y)
  rw [r3]
  rw [sc, List.mem_map] at h
  rw [h]
  simp only [List.mem_cons, List.not_mem_nil, or_false]
  exact Or.comm
 rw [this]
theorem coin_res1 : ∃ w, u5 y6 [0] 0 = some ([[0]], w) := by
 obtain ⟨st, w, r1, r2, r3, _⟩ := A9 coin_ok (op := 0) (by decide) (by decide) (s := [0]) set01
 refine ⟨w, ?_⟩
 rw [r1]
 have : st = [[0]] := Ord.ext r2 (by simp) fun y => by
  have h := coin_sc1 (y := y)
  rw [r3]
  rw [sc, List.mem_map] at h
  rw [h, List.mem_singleton]
 rw [this]
theorem coin_can {s : List Int} (hs : SetN s 1) : O9 y6 s 0 = some true := by
 rw [oCan_eq coin_ok (by decide) (by decide) hs, k7]
 intro x hx
 cases hx
theorem two_rng {S O : Type} {body : Int → S → Option (S ⊕ O)} {s s' : S} {x : S ⊕ O} (h : body 0 s = some (.inl s')) (h' : body 1 s' = some x) : rngX 0 2 body s = some x := by
 unfold rngX
 rw [show ((2 : Int) - 0).toNat = 2 from rfl]
 simp only [rngN, h, show (0 : Int) + 1 = 1 from rfl, h']
 cases x <;> rfl
abbrev coinM : List (ByteArray × Int) := mset (mset ([] : List (ByteArray × Int)) (keyK [[]]) 1) (keyK [[0]]) 1
theorem coin_reach : C0 y6 = some ([[], [0]], true) := by
 have h0 : SetN [] 1 := T6 _
 have k0 := key1_eq (s := []) (h0.small (by decide)) (by decide)
 have k1 := key1_eq (s := [0]) (set01.small (by decide)) (by decide)
 have hk : keyK [[0]] ≠ keyK [[]] := fun e => by have := SetN.key_inj (by decide) set01 h0 e; cases this
 obtain ⟨w0, r0⟩ := coin_res0
 obtain ⟨w1, r1⟩ := coin_res1
 have s1 : A8 y6 ([[]], mset ([] : List (ByteArray × Int)) (keyK [[]]) 1, 0) = some (.inl ([[], [0]], coinM, 1)) := by
  unfold A8
  dsimp only
  rw [if_pos (by decide)]
  rw [show (y6.operators.length : Int) = 1 from rfl, one_rng (x := .inl ([[], [0]], coinM))]
  ·rfl
  ·unfold D9
   dsimp only
   rw [show ix [([] : List Int)] 0 = some [] from rfl]
   simp only [ob, coin_can h0, r0, Bool.not_true, Bool.false_eq_true, if_false]
   rw [show ((([[], [0]] : LL).length : Nat) : Int) = 2 from rfl, two_rng (s' := ([[]], mset ([] : List (ByteArray × Int)) (keyK [[]]) 1)) (x := .inl ([[], [0]], coinM))]
   ·rfl
   ·unfold C1
    dsimp only
    rw [show ix [([] : List Int), [0]] 0 = some [] from rfl]
    simp only [ob, k0]
    rw [Y6, if_pos rfl]
    simp [H0]
   ·unfold C1
    dsimp only
    rw [show ix [([] : List Int), [0]] 1 = some [0] from rfl]
    simp only [ob, k1]
    rw [Y6, if_neg hk]
    simp [mget, app, H0]
 have s2 : A8 y6 ([[], [0]], coinM, 1) = some (.inl ([[], [0]], coinM, 2)) := by
  unfold A8
  dsimp only
  rw [if_pos (by decide)]
  rw [show (y6.operators.length : Int) = 1 from rfl, one_rng (x := .inl ([[], [0]], coinM))]
  ·rfl
  ·unfold D9
   dsimp only
   rw [show ix [([] : List Int), [0]] 1 = some [0] from rfl]
   simp only [ob, coin_can set01, r1, Bool.not_true, Bool.false_eq_true, if_false]
   rw [show ((([[0]] : LL).length : Nat) : Int) = 1 from rfl, one_rng (x := .inl ([[], [0]], coinM))]
   ·rfl
   ·unfold C1
    dsimp only
    rw [show ix [([0] : List Int)] 0 = some [0] from rfl]
    simp only [ob, k1]
    rw [Y6, if_pos rfl]
    simp [H0]
 have s3 : A8 y6 ([[], [0]], coinM, 2) = some (.inr (.inl [[], [0]])) := by
  unfold A8
  dsimp only
  rw [if_neg (by decide)]
 unfold C0
 rw [show y6.init = [] from rfl, aj8 (by decide)]
 simp only [ob, k0]
 rw [Y5, s1]
 dsimp only
 rw [Y5, s2]
 dsimp only
 rw [Y5, s3]
 simp only [ob]
 obtain ⟨r, n1, n2, n3, _⟩ := ai3 (l := [[], [0]]) (by decide)
 rw [n1, show r = [[], [0]] from Ord.ext n2 (by simp [llt]) n3]
 rfl
theorem coin_g1 : j3 y6 [0] := fun x hx => hx
theorem coin_g0 : ¬ j3 y6 [] := fun h => by have := h 0 (by simp [y6]); cases this
theorem coin_polB {ch : List Int → Int} (hk : ChOk y6 ch) (ha : ∀ s, RchC y6 ch s → s ∈ ([[], [0]] : LL)) {p : List d9} (hp : PolB y6 ch p) : p = [⟨[], 0⟩] := by
 have h0 := (hk [] .init coin_g0).1
 have e0 : ch [] = 0 := by
  have : (y6.operators.length : Int) = 1 := rfl
  omega
 refine hp.unique ⟨by simp, fun s => ⟨?_, fun ⟨hr, hg⟩ => ?_⟩, fun c hc => ?_⟩
 ·rintro ⟨c, hc, rfl⟩
  rw [List.mem_singleton.1 hc]
  exact ⟨.init, coin_g0⟩
 ·rcases List.mem_cons.1 (ha s hr) with rfl | h
  ·exact ⟨_, List.mem_singleton.2 rfl, rfl⟩
  ·rw [List.mem_singleton.1 h] at hg
   exact absurd coin_g1 hg
 ·rw [List.mem_singleton.1 hc]
  exact e0.symm
theorem coin_policy : r8 y6 = some ([⟨[], 0⟩], true, ⟨0, 0⟩) ∧ I9 y6 [⟨[], 0⟩] = some (true, ⟨0, 0⟩) := by
 rcases am0 coin_ok with ⟨h, _⟩ | ⟨all, v, f, h1, _, hc, hv, hr, hh⟩
 ·rw [coin_reach] at h; cases h
 ·rw [coin_reach] at h1; cases h1
  rcases hh with ⟨hn, _⟩ | ⟨ch, hk, i1, i2, hh⟩
  ·have post : PostF y6 [[], [0]] (fun s => s ∈ ([[], [0]] : LL)) := fun s hs => by
    refine ⟨hs, 1, ?_⟩
    rcases List.mem_cons.1 hs with rfl | h
    ·exact .inr ⟨hs, 0, ⟨by decide, by decide⟩, fun x hx => (by cases hx), fun y hy => by
      rcases coin_sc0.1 hy with rfl | rfl <;> simp, [0], coin_sc0.2 (.inl rfl), coin_g1⟩
    ·rw [List.mem_singleton.1 h]; exact .inl coin_g1
   have := hr.gr _ post [] (by simp)
   rw [show y6.init = [] from rfl] at hn
   omega
  ·rcases hh with ⟨_, l, l1, l2, l3⟩ | ⟨p, h, hp, hl⟩
   ·have := O4 l1 fun s hs => (i1 s (l2 s hs).1).1
    simp at this; omega
   ·have e := coin_polB hk (fun s hs => (i1 s hs).1) hp
    have hf := cfound coin_ok hk i1 i2 hp hl
    subst e
    exact ⟨h, hf⟩
theorem ad4 : E3 = some true := by
 unfold E3
 rw [show ad5 = some y6 from rfl]
 simp only [ob, coin_policy.1, coin_policy.2, if_true]
 rw [am1]
 rfl
end Ab
end
section
namespace Ab
open Go
theorem lower_loop {l : LL} {Low : (List Int → Int) → Prop} {Fix : (List Int → Int) → List Int → Prop} {b3 : Int → (List Int × Bool) → Option (List Int × Bool)} {body : (List Int × Bool) → Option ((List Int × Bool) ⊕ List Int)}
  (hbody : ∀ v b, body (v, b) = if b = true then (forR 0 (l.length : Int) b3 (v, false)).bind fun x => some (.inl (x.1, x.2)) else some (.inr v))
  (hcongr : ∀ g g' : List Int → Int, (∀ z ∈ l, g z = g' z) → ∀ s ∈ l, Fix g s → Fix g' s)
  (step : ∀ i s v g b, ix l i = some s → Rep l v g → Low g → ∃ v' g' b', b3 i (v, b) = some (v', b') ∧ Rep l v' g' ∧ Low g' ∧ ((b' = b ∧ v' = v ∧ Fix g s) ∨ (b' = true ∧ sumN v' < sumN v)))
  {v0 : List Int} {g0 : List Int → Int} (hr : Rep l v0 g0) (hl : Low g0) : ∃ v g, Loop body (v0, true) = some v ∧ Rep l v g ∧ Low g ∧ ∀ s ∈ l, Fix g s := by
 obtain ⟨v, e1, g, e2, e3, e4⟩ := A6 (body := body) (fun x => ∃ g, Rep l x.1 g ∧ Low g ∧ (x.2 = false → ∀ s ∈ l, Fix g s)) (fun v => ∃ g, Rep l v g ∧ Low g ∧ ∀ s ∈ l, Fix g s) (fun x => 2 * sumN x.1 + (if x.2 = true then 1 else 0)) (s := (v0, true)) ⟨g0, hr, hl, fun h => by cases h⟩ (fun ⟨v, b⟩ ⟨g, h1, h2, h3⟩ => by
  dsimp only at h1 h3 ⊢
  rw [hbody]
  cases b with
  | false =>
   rw [if_neg (by simp)]
   exact .inr ⟨v, rfl, g, h1, h2, h3 rfl⟩
  | true =>
   rw [if_pos rfl]
   obtain ⟨⟨v', b'⟩, k1, g', k2, k3, k4⟩ := p8 (body := b3) (n := (l.length : Int)) (s := (v, false)) (fun j x => ∃ g', Rep l x.1 g' ∧ Low g' ∧ ((x.2 = false ∧ x.1 = v ∧ ∀ i s, i < j → ix l i = some s → Fix g s) ∨ (x.2 = true ∧ sumN x.1 < sumN v))) (by omega) ⟨g, h1, h2, .inl ⟨rfl, rfl, fun i s hi hs => by have := (j7 hs).1; omega⟩⟩ (fun j ⟨x, bx⟩ j0 j1 ⟨g', q1, q2, q3⟩ => by
    dsimp only at q1 q3 ⊢
    obtain ⟨s, hs, _⟩ := i7 (l := l) j0 j1
    obtain ⟨x', g'', b'', w1, w2, w3, w4⟩ := step j s x g' bx hs q1 q2
    rw [w1]
    refine ⟨_, rfl, g'', w2, w3, ?_⟩
    dsimp only
    rcases w4 with ⟨rfl, rfl, w4⟩ | ⟨rfl, w4⟩
    ·rcases q3 with ⟨p1, rfl, p3⟩ | q3
     ·refine .inl ⟨p1, rfl, fun i z hi hz => ?_⟩
      by_cases e : i = j
      ·subst e
       rw [hs] at hz; cases hz
       refine hcongr g' g (fun z hz => ?_) s (i8 hs) w4
       obtain ⟨iz, hiz, hgz⟩ := h1.of hz
       rw [q1.get hiz] at hgz
       exact Option.some.inj hgz
      ·exact p3 i z (by omega) hz
     ·exact .inr q3
    ·right
     refine ⟨rfl, ?_⟩
     rcases q3 with ⟨_, rfl, _⟩ | ⟨_, q3⟩ <;> omega)
   rw [k1]
   simp only [ob]
   dsimp only at k2 k4
   refine .inl ⟨_, rfl, ?_, ?_⟩
   ·rcases k4 with ⟨rfl, rfl, k4⟩ | ⟨rfl, k4⟩
    ·exact ⟨g, h1, h2, fun _ s hs => by
      obtain ⟨i, _, i1, hi⟩ := k9 hs
      exact k4 i s i1 hi⟩
    ·exact ⟨g', k2, k3, fun h => by cases h⟩
   ·dsimp only
    rcases k4 with ⟨rfl, rfl, k4⟩ | ⟨rfl, k4⟩
    ·simp
    ·simp; omega)
 exact ⟨v, g, e1, e2, e3, e4⟩
def MN (g : List Int → Int) (l : LL) (m : Int) : Prop := m ≤ 1000000000 ∧ (∀ y ∈ l, m ≤ g y) ∧ (m = 1000000000 ∨ ∃ y ∈ l, g y = m)
theorem MN.congr {g g' : List Int → Int} {l : LL} {m : Int} (h : MN g l m) (e : ∀ y ∈ l, g y = g' y) : MN g' l m := by
 refine ⟨h.1, fun y hy => by rw [← e y hy]; exact h.2.1 y hy, ?_⟩
 rcases h.2.2 with h | ⟨y, hy, e1⟩
 ·exact .inl h
 ·exact .inr ⟨y, hy, by rw [← e y hy]; exact e1⟩
theorem MN.unique {g : List Int → Int} {l : LL} {m m' : Int} (h : MN g l m) (h' : MN g l m') : m = m' := by
 obtain ⟨a1, a2, a3⟩ := h
 obtain ⟨b1, b2, b3⟩ := h'
 rcases a3 with rfl | ⟨y, hy, rfl⟩ <;> rcases b3 with rfl | ⟨z, hz, rfl⟩
 ·rfl
 ·have := a2 z hz; omega
 ·have := b2 y hy; omega
 ·have := a2 z hz; have := b2 y hy; omega
theorem leastG {t : b9} (ht : k6 t) {all : LL} (ho : Ord all) {s : List Int} (hs : SetN s t.facts) {op : Int} (h0 : 0 ≤ op ∧ op < t.operators.length) (hcl : ∀ y ∈ sc t s op, y ∈ all) {v : List Int} {g : List Int → Int} (hv : Rep all v g) :
  ∃ m, V3 t all v s op = some m ∧ MN g (sc t s op) m := by
 obtain ⟨st, ws, r1, _, r3, _⟩ := A9 ht h0.1 h0.2 hs
 have hst : ∀ y, y ∈ st ↔ y ∈ sc t s op := fun y => by rw [r3, sc, List.mem_map]
 unfold V3
 rw [ai2 ht h0.1 h0.2 hs, r1]
 simp only [ob]
 obtain ⟨m, e1, e2, e3, e4⟩ := p8 (body := X0 all v (st, ws)) (n := (st.length : Int)) (s := 1000000000) (fun j n => n ≤ 1000000000 ∧ (∀ k y, k < j → ix st k = some y → n ≤ g y) ∧ (n = 1000000000 ∨ ∃ y ∈ sc t s op, g y = n)) (by omega) ⟨Int.le_refl _, fun k y hk h => by have := (j7 h).1; omega, .inl rfl⟩ (fun j n j0 j1 ⟨a1, a2, a3⟩ => by
  obtain ⟨y, hy, _⟩ := i7 (l := st) j0 j1
  have hyn := (hst y).1 (i8 hy)
  obtain ⟨i, hi, hvi⟩ := hv.of (hcl y hyn)
  unfold X0
  dsimp only
  rw [hy]
  simp only [ob, ad8 ho hi, hvi]
  by_cases c : g y < n
  ·rw [if_pos c]
   refine ⟨_, rfl, by omega, fun k z hk hz => ?_, .inr ⟨y, hyn, rfl⟩⟩
   by_cases ek : k = j
   ·subst ek; rw [hy] at hz; cases hz; exact Int.le_refl _
   ·have := a2 k z (by omega) hz; omega
  ·rw [if_neg c]
   refine ⟨_, rfl, a1, fun k z hk hz => ?_, a3⟩
   by_cases ek : k = j
   ·subst ek; rw [hy] at hz; cases hz; omega
   ·exact a2 k z (by omega) hz)
 rw [e1]
 refine ⟨m, rfl, e2, fun y hy => ?_, e4⟩
 obtain ⟨k, _, k1, hk⟩ := k9 ((hst y).2 hy)
 exact e3 k y k1 hk
section
variable {t : b9} {p : List d9}
structure LowR (t : b9) (p : List d9) (l : LL) (g : List Int → Int) : Prop where
 b : ∀ s ∈ l, 0 ≤ g s ∧ g s ≤ 1000000000
 dn : ∀ s ∈ l, g s < 1000000000 → RkP t p (g s).toNat s
 goal : ∀ s ∈ l, j3 t s → g s = 0
end
end Ab
end
section
namespace Ab
open Go
theorem filter_set : ∀ {l : List Bool} {i : Nat}, l[i]? = some true → ((l.set i false).filter id).length < (l.filter id).length
 | [], _, h => by simp at h
 | a :: l, 0, h => by
  simp only [List.getElem?_cons_zero, Option.some.injEq] at h
  subst h
  simp
 | a :: l, i + 1, h => by
  have := filter_set (l := l) (i := i) (by simpa using h)
  cases a <;> simp at this ⊢ <;> exact this
section
variable {t : b9} {all : LL} {S : List Int → Prop}
noncomputable def bfl (S : List Int → Prop) (s : List Int) : Bool := dec (S s)
theorem insideG (ht : k6 t) (ho : Ord all) {s : List Int} (hs : SetN s t.facts) {op : Int} (h0 : 0 ≤ op ∧ op < t.operators.length) (hcl : ∀ y ∈ sc t s op, y ∈ all) {v : List Bool} (hv : Rep all v (bfl S)) :
  M5 t all v s op = some (dec (∀ y ∈ sc t s op, S y)) := by
 obtain ⟨st, ws, r1, _, r3, _⟩ := A9 ht h0.1 h0.2 hs
 have hst : ∀ y, y ∈ st ↔ y ∈ sc t s op := fun y => by rw [r3, sc, List.mem_map]
 unfold M5
 rw [ai2 ht h0.1 h0.2 hs, r1]
 simp only [ob]
 rcases u4 (body := V1 all v (st, ws)) (n := (st.length : Int)) (fun j => if dec (∃ y, ix st j = some y ∧ ¬ S y) = true then some false else none) (by omega) (fun j h0 h1 _ => by
  obtain ⟨y, hy, _⟩ := i7 (l := st) h0 h1
  obtain ⟨i, hi, hvi⟩ := hv.of (hcl y ((hst y).1 (i8 hy)))
  unfold V1
  dsimp only
  rw [hy]
  simp only [ob, ad8 ho hi, hvi]
  unfold bfl
  rw [q7]
  by_cases c : S y
  ·rw [ifNN c, ifN (by rintro ⟨z, hz, h⟩; cases hz; exact h c)]
  ·rw [ifP c, ifP ⟨y, rfl, c⟩]) with ⟨h1, h2⟩ | ⟨j, o, _, _, h2, _, h4⟩
 ·rw [h1, k7]
  ·rfl
  intro y hy
  obtain ⟨i, i0, i1, hi⟩ := k9 ((hst y).2 hy)
  have := h2 i i0 i1
  refine Classical.byContradiction fun h => ?_
  rw [ifP ⟨y, hi, h⟩] at this
  cases this
 ·rw [h4]
  split at h2
  ·rename_i e
   cases h2
   obtain ⟨y, hy, h⟩ := l4.1 e
   rw [o6]
   ·rfl
   exact fun hall => h (hall y ((hst y).1 (i8 hy)))
  ·cases h2
structure LowD (t : b9) (S : List Int → Prop) (all : LL) (g : List Int → Int) : Prop where
 b : ∀ s ∈ all, 0 ≤ g s ∧ g s ≤ 1000000000
 dn : ∀ s ∈ all, g s < 1000000000 → DsC t S (g s).toNat s
 goal : ∀ s ∈ all, j3 t s → g s = 0
def FixD (t : b9) (S : List Int → Prop) (g : List Int → Int) (s : List Int) : Prop := S s → ∀ op : Int, (0 ≤ op ∧ op < t.operators.length) → oCan t s op → (∀ y ∈ sc t s op, S y) → ∀ m, MN g (sc t s op) m → g s ≤ m + 1
theorem cert5 (ht : k6 t) (hc : ClO t all) {inv : List Bool} (hi : Rep all inv (bfl S)) {i : Int} {s : List Int} (hs : ix all i = some s) {v : List Int} {g : List Int → Int} (hv : Rep all v g) (hl : LowD t S all g) (b : Bool) :
  ∃ v' g' b', M0 t all inv i (v, b) = some (v', b') ∧ Rep all v' g' ∧ LowD t S all g' ∧ ((b' = b ∧ v' = v ∧ FixD t S g s) ∨ (b' = true ∧ sumN v' < sumN v)) := by
 have hsm := i8 hs
 have hset := hc.set hsm
 have hops := ht.ops
 obtain ⟨⟨v', b'⟩, h1, g', h2, h3, h4⟩ := A6 (body := R5 t all inv i) (fun x => 0 ≤ x.2.2 ∧ x.2.2 ≤ t.operators.length ∧ ∃ g', Rep all x.1 g' ∧ LowD t S all g' ∧ ((x.2.1 = b ∧ x.1 = v ∧ (S s → ∀ op : Int, 0 ≤ op → op < x.2.2 → oCan t s op → (∀ y ∈ sc t s op, S y) → ∀ m, MN g (sc t s op) m → g s ≤ m + 1)) ∨ (x.2.1 = true ∧ sumN x.1 < sumN v))) (fun x => ∃ g', Rep all x.1 g' ∧ LowD t S all g' ∧ ((x.2 = b ∧ x.1 = v ∧ FixD t S g s) ∨ (x.2 = true ∧ sumN x.1 < sumN v))) (fun x => (t.operators.length - x.2.2).toNat) (s := (v, b, 0)) ⟨by dsimp only; omega, by dsimp only; omega, g, hv, hl, .inl ⟨rfl, rfl, fun _ op o0 o1 => by dsimp only at o1; omega⟩⟩ (fun ⟨x, bx, j⟩ ⟨j0, j1, g', q1, q2, q3⟩ => by
  dsimp only at j0 j1 q1 q3 ⊢
  unfold R5
  dsimp only
  have key : (if j < (t.operators.length : Int) then Option.bind (ix inv i) fun a64 => some a64 else some false) = some (dec (j < (t.operators.length : Int) ∧ S s)) := by
   by_cases c : j < (t.operators.length : Int)
   ·rw [if_pos c, hi.get hs]
    simp only [ob]
    unfold bfl
    exact congrArg some (m7 ⟨fun h => ⟨c, h⟩, fun h => h.2⟩)
   ·rw [if_neg c, o6 (fun h => c h.1)]
  rw [key]
  simp only [ob]
  by_cases c : j < (t.operators.length : Int) ∧ S s
  ·rw [ifP c, hs]
   have hw : w64 (j + 1) = j + 1 := s5 (by omega) (by omega)
   simp only [ob, ac9 j0 c.1]
   have key2 : (if (!dec (oCan t s j)) = true then some true else Option.bind (M5 t all inv s j) fun a86 => some (!a86)) = some (dec (¬ (oCan t s j ∧ ∀ y ∈ sc t s j, S y))) := by
    rw [q7]
    by_cases cc : oCan t s j
    ·rw [ifNN cc, insideG ht hc.ord hset ⟨j0, c.1⟩ (fun y hy => hc.sc hsm ⟨j0, c.1⟩ cc hy) hi]
     simp only [ob, q7]
     exact congrArg some (m7 ⟨fun h g => h g.2, fun h g => h ⟨cc, g⟩⟩)
    ·rw [ifP cc, k7 (fun h => cc h.1)]
   rw [key2]
   simp only [ob]
   have next : ∀ {P : Prop}, (S s → ∀ op : Int, 0 ≤ op → op < j → oCan t s op → (∀ y ∈ sc t s op, S y) → ∀ m, MN g (sc t s op) m → g s ≤ m + 1) → (oCan t s j → (∀ y ∈ sc t s j, S y) → ∀ m, MN g (sc t s j) m → g s ≤ m + 1) → (S s → ∀ op : Int, 0 ≤ op → op < j + 1 → oCan t s op → (∀ y ∈ sc t s op, S y) → ∀ m, MN g (sc t s op) m → g s ≤ m + 1) := fun h1 h2 hS op o0 o1 oc oi m hm => by
    by_cases e : op = j
    ·subst e; exact h2 oc oi m hm
    ·exact h1 hS op o0 (by omega) oc oi m hm
   by_cases cc : oCan t s j ∧ ∀ y ∈ sc t s j, S y
   ·rw [ifNN cc]
    have hcl : ∀ y ∈ sc t s j, y ∈ all := fun y hy => hc.sc hsm ⟨j0, c.1⟩ cc.1 hy
    obtain ⟨m, m1, m2⟩ := leastG ht hc.ord hset ⟨j0, c.1⟩ hcl q1
    rw [m1]
    simp only [ob, q1.get hs]
    have hgs := q2.b s hsm
    have hm0 : 0 ≤ m := by
     rcases m2.2.2 with h | ⟨y, hy, h⟩
     ·omega
     ·have := (q2.b y (hcl y hy)).1; omega
    have hm1 := m2.1
    have hw2 : w64 (m + 1) = m + 1 := s5 (by omega) (by omega)
    rw [hw2]
    by_cases cm : m + 1 < g' s
    ·rw [if_pos cm]
     simp only [ob]
     refine .inl ⟨(x.set i.toNat (m + 1), true, j + 1), by rw [hw], ⟨by dsimp only; omega, by dsimp only; omega, upd g' s (m + 1), q1.set hc.ord hs _, ⟨fun z hz => ?_, fun z hz => ?_, fun z hz hgz => ?_⟩, .inr ⟨rfl, ?_⟩⟩, by dsimp only; omega⟩
     ·by_cases e : z = s
      ·subst e; rw [A5]; omega
      ·rw [E7 e]; exact q2.b z hz
     ·by_cases e : z = s
      ·subst e; rw [A5]
       intro _
       rcases m2.2.2 with h | ⟨y, hy, h⟩
       ·omega
       ·rw [show (m + 1).toNat = m.toNat + 1 by omega]
        have := q2.dn y (hcl y hy) (by omega)
        rw [h] at this
        exact .inr ⟨c.2, j, ⟨j0, c.1⟩, cc.1, cc.2, y, hy, this⟩
      ·rw [E7 e]; exact q2.dn z hz
     ·by_cases e : z = s
      ·subst e; have := q2.goal z hz hgz; omega
      ·rw [E7 e]; exact q2.goal z hz hgz
     ·have := aj6 (l := x) (i := i.toNat) (x := m + 1) (y := g' s) (j7 (q1.get hs)).2.2 (by omega) cm
      rcases q3 with ⟨_, e, _⟩ | ⟨_, e⟩
      ·rw [← e]; exact this
      ·exact Nat.lt_trans this e
    ·rw [if_neg cm]
     simp only [ob]
     refine .inl ⟨(x, bx, j + 1), by rw [hw], ⟨by dsimp only; omega, by dsimp only; omega, g', q1, q2, ?_⟩, by dsimp only; omega⟩
     dsimp only
     rcases q3 with ⟨e1, e2, e3⟩ | q3
     ·refine .inl ⟨e1, e2, next (P := True) e3 fun oc oi w hw => ?_⟩
      subst e2
      have hgg : ∀ z ∈ all, g z = g' z := fun z hz => by
       obtain ⟨iz, hiz, hgz⟩ := hv.of hz
       rw [q1.get hiz] at hgz
       exact (Option.some.inj hgz).symm
      have := (hw.congr fun y hy => hgg y (hcl y hy)).unique m2
      rw [hgg s hsm, this]
      omega
     ·exact .inr q3
   ·rw [ifP cc]
    simp only [ob]
    refine .inl ⟨(x, bx, j + 1), by rw [hw], ⟨by dsimp only; omega, by dsimp only; omega, g', q1, q2, ?_⟩, by dsimp only; omega⟩
    dsimp only
    rcases q3 with ⟨e1, e2, e3⟩ | q3
    ·exact .inl ⟨e1, e2, next (P := True) e3 fun oc oi => absurd ⟨oc, oi⟩ cc⟩
    ·exact .inr q3
  ·rw [ifN c]
   refine .inr ⟨_, rfl, g', q1, q2, ?_⟩
   dsimp only
   rcases q3 with ⟨e1, e2, e3⟩ | q3
   ·refine .inl ⟨e1, e2, fun hS op ho oc oi m hm => e3 hS op ho.1 ?_ oc oi m hm⟩
    have : ¬ j < (t.operators.length : Int) := fun h => c ⟨h, hS⟩
    omega
   ·exact .inr q3)
 refine ⟨v', g', b', ?_, h2, h3, h4⟩
 unfold M0
 dsimp only
 rw [h1]; rfl
theorem rCertain_eq (ht : k6 t) (hc : ClO t all) {f : List Int → Int} (hf : K7 t all f) : ∃ v, S6 t all = some v ∧ Rep all v (gOf f) := by
 have hlen := hc.len
 unfold S6
 rw [show mkL 1 (all.length : Int) false = some (List.replicate all.length false) by rw [mkL, if_pos (by omega)]; simp]
 simp only [ob]
 obtain ⟨i0, a1, a2, a3⟩ := p8 (body := R6) (n := (all.length : Int)) (s := List.replicate all.length false) (fun j v => v.length = all.length ∧ ∀ i, 0 ≤ i → i < j → ix v i = some true) (by omega) ⟨by simp, fun i i0 i1 => by omega⟩ (fun j v j0 j1 ⟨h1, h2⟩ => by
  obtain ⟨b, hb, _⟩ := i7 (l := v) j0 (by omega)
  unfold R6
  rw [hb]
  refine ⟨_, rfl, by rw [List.length_set]; exact h1, fun i i0 i1 => ?_⟩
  rw [ix_put j0 (by omega) i0]
  by_cases e : i = j
  ·rw [if_pos e]
  ·rw [if_neg e]; exact h2 i i0 (by omega))
 rw [a1]
 simp only [ob]
 obtain ⟨v, e1, e2⟩ := A6 (body := S4 t all) (fun inv => ∃ S : List Int → Prop, (∀ s, S s → s ∈ all) ∧ Rep all inv (bfl S) ∧ (∀ s ∈ all, j3 t s → S s) ∧ ∀ T, PostF t all T → ∀ s, T s → S s) (fun v => Rep all v (gOf f)) (fun inv => (inv.filter id).length) (s := i0) ⟨fun s => s ∈ all, fun s h => h, ⟨a2, fun {i s} hi => by
   rw [a3 i (j7 hi).1 (j7 hi).2.1]
   unfold bfl
   rw [k7 (i8 hi)]⟩, fun s hs _ => hs, fun T hT s hs => (hT s hs).1⟩ (fun inv ⟨S, s1, s2, s3, s4⟩ => by
  unfold S4
  rw [show mkL 8 (all.length : Int) (0 : Int) = some (List.replicate all.length 0) by rw [mkL, if_pos (by omega)]; simp]
  simp only [ob]
  obtain ⟨v0, b1, g0, b2, b3⟩ := p8 (body := R9 t all) (n := (all.length : Int)) (s := List.replicate all.length 0) (fun j v => ∃ g, Rep all v g ∧ ∀ i s, ix all i = some s → i < j → (j3 t s → g s = 0) ∧ (¬ j3 t s → g s = 1000000000)) (by omega) ⟨_, Rep.repl 0, fun i s hi h => by have := (j7 hi).1; omega⟩ (fun j v j0 j1 ⟨g, h1, h2⟩ => by
   obtain ⟨s, hs, _⟩ := i7 (l := all) j0 j1
   unfold R9
   rw [h1.get hs]
   simp only [ob, hs, goal_dec]
   have hu := h1.set hc.ord hs 1000000000
   by_cases hg : j3 t s
   ·rw [ifP hg]
    simp only [hu.get hs, ob]
    refine ⟨_, rfl, _, hu.set hc.ord hs 0, fun i z hz hi => ?_⟩
    by_cases e : i = j
    ·subst e
     rw [hs] at hz; cases hz
     rw [A5]
     exact ⟨fun _ => rfl, fun h => absurd hg h⟩
    ·have hne : z ≠ s := fun hz' => e (hc.ord.inj hz (by rw [hz']; exact hs))
     rw [E7 hne, E7 hne]
     exact h2 i z hz (by omega)
   ·rw [ifN hg]
    refine ⟨_, rfl, _, hu, fun i z hz hi => ?_⟩
    by_cases e : i = j
    ·subst e
     rw [hs] at hz; cases hz
     rw [A5]
     exact ⟨fun h => absurd h hg, fun _ => rfl⟩
    ·rw [E7 (fun hz' => e (hc.ord.inj hz (by rw [hz']; exact hs)))]
     exact h2 i z hz (by omega))
  rw [b1]
  simp only [ob]
  have key : ∀ s ∈ all, (j3 t s → g0 s = 0) ∧ (¬ j3 t s → g0 s = 1000000000) := fun s hs => by
   obtain ⟨i, _, i1, hi⟩ := k9 hs
   exact b3 i s hi i1
  have low0 : LowD t S all g0 := by
   refine ⟨fun s hs => ?_, fun s hs h => ?_, fun s hs hg => (key s hs).1 hg⟩
   ·by_cases hg : j3 t s
    ·rw [(key s hs).1 hg]; omega
    ·rw [(key s hs).2 hg]; omega
   ·by_cases hg : j3 t s
    ·exact .goal hg
    ·rw [(key s hs).2 hg] at h; omega
  obtain ⟨w, g, c1, c2, c3, c4⟩ := lower_loop (l := all) (Low := LowD t S all) (Fix := FixD t S) (b3 := M0 t all inv) (body := R1 t all inv) (fun v b => by unfold R1; rfl) (fun g g' e s hs h hS op ho oc oi m hm => by
    rw [← e s hs]
    exact h hS op ho oc oi m (hm.congr fun y hy => (e y (hc.sc hs ho oc hy)).symm)) (fun i s v g b hs hr hl => cert5 ht hc s2 hs hr hl b) b2 low0
  rw [c1]
  simp only [ob]
  -- what the values are
  have le : ∀ k : Nat, ∀ s ∈ all, DsC t S k s → g s ≤ k := fun k => by
   induction k with
   | zero => exact fun s hs h => by rw [c3.goal s hs h]; omega
   | succ k ih =>
    intro s hs h
    by_cases hg : j3 t s
    ·rw [c3.goal s hs hg]; omega
    ·rcases h with h | ⟨hS, op, o1, o2, o3, y, hy, hk⟩
     ·exact absurd h hg
     ·obtain ⟨m, _, m2⟩ := leastG ht hc.ord (hc.set hs) o1 (fun y hy => hc.sc hs o1 o2 hy) c2
      have := c4 s hs hS op o1 o2 o3 m m2
      have := m2.2.1 y hy
      have := ih y (hc.sc hs o1 o2 hy) hk
      omega
  have val : ∀ s ∈ all, (g s = 1000000000 ∧ ∀ k, ¬ DsC t S k s) ∨ ∃ k : Nat, g s = k ∧ HtD t S k s := fun s hs => by
   have hb := c3.b s hs
   by_cases c : g s < 1000000000
   ·right
    obtain ⟨m, m1, m2⟩ := HtD.of_dn (c3.dn s hs c)
    have := le m s hs m2.1
    exact ⟨m, by omega, m2⟩
   ·left
    refine ⟨by omega, fun k hk => ?_⟩
    obtain ⟨m, _, hm⟩ := HtD.of_dn hk
    have := hm.lt hc hs
    have := le m s hs hm.1
    omega
  obtain ⟨gone, d1, d2⟩ := p8 (body := R0 inv w) (n := (all.length : Int)) (s := -1) (fun j x => (x = -1 ∧ ∀ i s, i < j → ix all i = some s → ¬ (S s ∧ 1000000000 ≤ g s)) ∨ (0 ≤ x ∧ ∃ s, ix all x = some s ∧ S s ∧ 1000000000 ≤ g s)) (by omega) (.inl ⟨rfl, fun i s hi hs => by have := (j7 hs).1; omega⟩) (fun j x j0 j1 hx => by
   obtain ⟨s, hs, _⟩ := i7 (l := all) j0 j1
   unfold R0
   rw [s2.get hs, c2.get hs]
   simp only [ob]
   have k2 : (if bfl S s = true then some (decide (1000000000 ≤ g s)) else some false) = some (dec (S s ∧ 1000000000 ≤ g s)) := by
    unfold bfl
    by_cases c : S s
    ·rw [ifP c, z7]; exact congrArg some (m7 ⟨fun h => ⟨c, h⟩, fun h => h.2⟩)
    ·rw [ifN c, o6 (fun h => c h.1)]
   rw [k2]
   simp only [ob]
   by_cases c : S s ∧ 1000000000 ≤ g s
   ·rw [ifP c]
    exact ⟨_, rfl, .inr ⟨j0, s, hs, c⟩⟩
   ·rw [ifN c]
    refine ⟨_, rfl, ?_⟩
    rcases hx with ⟨h1, h2⟩ | h1
    ·refine .inl ⟨h1, fun i z hi hz => ?_⟩
     by_cases e : i = j
     ·subst e; rw [hs] at hz; cases hz; exact c
     ·exact h2 i z (by omega) hz
    ·exact .inr h1)
  rw [d1]
  simp only [ob]
  rcases d2 with ⟨rfl, d2⟩ | ⟨d0, s, hs, hS, hbig⟩
  ·rw [if_pos (by decide)]
   -- the set is the greatest
   have stay : ∀ s, S s → g s < 1000000000 := fun s h => by
    obtain ⟨i, _, i1, hi⟩ := k9 (s1 s h)
    exact Int.not_le.1 fun hb => d2 i s i1 hi ⟨h, hb⟩
   have hdef : K7 t all (fun s => if g s < 1000000000 then g s else -1) := by
    have eS : Sd all (fun s => if g s < 1000000000 then g s else -1) = S := funext fun s => propext ⟨fun ⟨hm, h⟩ => by
     dsimp only at h
     by_cases c : g s < 1000000000
     ·rcases val s hm with ⟨q, _⟩ | ⟨k, _, hk⟩
      ·omega
      ·cases k with
       | zero => exact s3 s hm hk.1
       | succ k => exact hk.step.2.1
     ·rw [if_neg c] at h; omega, fun h => ⟨s1 s h, by
     show 0 ≤ if g s < 1000000000 then g s else -1
     rw [if_pos (stay s h)]
     exact (c3.b s (s1 s h)).1⟩⟩
    refine ⟨fun s hs => ?_, fun T hT s hs => ?_⟩
    ·rw [eS]
     rcases val s hs with ⟨q1, q2⟩ | ⟨k, q1, q2⟩
     ·exact .inl ⟨by rw [if_neg (by omega)], q2⟩
     ·have := q2.lt hc hs
      exact .inr ⟨k, by rw [if_pos (by omega)]; exact q1, q2⟩
    ·have h := s4 T hT s hs
     show 0 ≤ if g s < 1000000000 then g s else -1
     rw [if_pos (stay s h)]
     exact (c3.b s (s1 s h)).1
   have same := hf.unique hdef
   have eq : ∀ s ∈ all, g s = gOf f s := fun s hs => by
    have := same s hs
    have hb := c3.b s hs
    unfold gOf
    by_cases c : g s < 1000000000
    ·rw [if_pos c] at this
     rw [if_neg (by omega)]; omega
    ·rw [if_neg c] at this
     rw [if_pos (by omega)]; omega
   obtain ⟨w', k1, k2⟩ := p8 (body := R2 inv) (n := (all.length : Int)) (s := w) (fun j x => Rep all x (gOf f)) (by omega) (c2.congr eq) (fun j x j0 j1 hx => by
    obtain ⟨s, hs, _⟩ := i7 (l := all) j0 j1
    have hsm := i8 hs
    unfold R2
    rw [s2.get hs]
    simp only [ob]
    unfold bfl
    rw [q7]
    by_cases c : S s
    ·rw [ifNN c]; exact ⟨_, rfl, hx⟩
    ·rw [ifP c, hx.get hs]
     refine ⟨_, rfl, (hx.set hc.ord hs 1000000000).congr fun z hz => ?_⟩
     by_cases e : z = s
     ·subst e
      rw [A5, ← eq z hz]
      rcases val z hz with ⟨q, _⟩ | ⟨k, q, hk⟩
      ·exact q.symm
      ·cases k with
       | zero => exact absurd (s3 z hz hk.1) c
       | succ k => exact absurd hk.step.2.1 c
     ·rw [E7 e])
   rw [k1]
   exact .inr ⟨_, rfl, k2⟩
  ·rw [if_neg (by omega), s2.get hs]
   simp only [ob]
   have hsm := i8 hs
   have hnone : ∀ k, ¬ DsC t S k s := by
    rcases val s hsm with ⟨_, q⟩ | ⟨k, q, hk⟩
    ·exact q
    ·have := hk.lt hc hsm; omega
   refine .inl ⟨_, rfl, ⟨fun z => S z ∧ z ≠ s, fun z h => s1 z h.1, (s2.set hc.ord hs false).congr fun z hz => ?_, fun z hz hg => ⟨s3 z hz hg, fun e => ?_⟩, fun T hT z hz => ⟨s4 T hT z hz, fun e => ?_⟩⟩, ?_⟩
   ·unfold bfl
    by_cases e : z = s
    ·subst e; rw [A5, o6 (fun h => h.2 rfl)]
    ·rw [E7 e]; exact m7 ⟨fun h => ⟨h, e⟩, fun h => h.1⟩
   ·subst e; exact hnone 0 hg
   ·subst e
    obtain ⟨_, k, hk⟩ := hT z hz
    exact hnone k (hk.sub (s4 T hT))
   ·have hx := (j7 (s2.get hs)).2.2
    rw [show bfl S s = true by unfold bfl; exact k7 hS] at hx
    exact filter_set hx)
 rw [e1]
 exact ⟨v, rfl, e2⟩
theorem rChoice_eq (ht : k6 t) (hc : ClO t all) {f : List Int → Int} (hf : K7 t all f) {v : List Int} (hv : Rep all v (gOf f)) {s : List Int} (hs : s ∈ all) {b : Int} (hb : FirstC t f s b) (h0 : 0 ≤ f s) : D8 t all v s = some b := by
 have hlen := hc.len
 have hset := hc.set hs
 obtain ⟨i, hi, hvi⟩ := hv.of hs
 have hbd := hf.bnd hc
 have marks : ∃ m, aa4 v = some m ∧ Rep all m (bfl fun s => 0 ≤ f s) := by
  unfold aa4
  obtain ⟨m, m1, m2, m3⟩ := p8 (body := X2 v) (n := (v.length : Int)) (s := []) (fun j m => (m.length : Int) = j ∧ ∀ k s, k < j → ix all k = some s → ix m k = some (dec (0 ≤ f s))) (by omega) ⟨by simp, fun k s hk hs => by have := (j7 hs).1; omega⟩ (fun j m j0 j1 ⟨q1, q2⟩ => by
   obtain ⟨s, hs, _⟩ := i7 (l := all) j0 (by have := hv.len; omega)
   unfold X2
   rw [hv.get hs]
   simp only [ob]
   have hvl := hv.len
   rw [app, if_pos (by simp; omega)]
   refine ⟨_, rfl, by simp; omega, fun k z hk hz => ?_⟩
   have hk0 := (j7 hz).1
   by_cases e : k = j
   ·subst e
    rw [hs] at hz; cases hz
    rw [ix, if_pos hk0, List.getElem?_append_right (by omega), show k.toNat - m.length = 0 by omega]
    simp only [List.getElem?_cons_zero, z7]
    refine congrArg some (m7 ?_)
    have := hbd s (i8 hs)
    unfold gOf
    split <;> omega
   ·have := q2 k z (by omega) hz
    rw [ix, if_pos hk0] at this ⊢
    rw [List.getElem?_append_left (by omega)]
    exact this)
  rw [m1]
  exact ⟨m, rfl, by have := hv.len; omega, fun {k s} hk => m3 k s (by have := (j7 hk).2.1; have := hv.len; omega) hk⟩
 obtain ⟨mk, k1, k2⟩ := marks
 have one : ∀ op : Int, 0 ≤ op → op < t.operators.length → H4 t all v s op () = some (if dec (CycP t f s op) = true then .inr op else .inl ()) := fun op o0 o1 => by
  unfold H4
  rw [ac9 o0 o1]
  simp only [ob]
  by_cases cc : oCan t s op
  ·have hcl : ∀ y ∈ sc t s op, y ∈ all := fun y hy => hc.sc hs ⟨o0, o1⟩ cc hy
   rw [ifP cc, k1]
   simp only [ob, insideG ht hc.ord hset ⟨o0, o1⟩ hcl k2]
   by_cases ci : ∀ y ∈ sc t s op, 0 ≤ f y
   ·rw [ifP ci]
    obtain ⟨m, m1, m2⟩ := leastG ht hc.ord hset ⟨o0, o1⟩ hcl hv
    rw [m1]
    simp only [ob, ad8 hc.ord hi, hvi]
    have hg : ∀ y ∈ sc t s op, gOf f y = f y := fun y hy => by unfold gOf; rw [if_neg (by have := ci y hy; omega)]
    have hgs : gOf f s = f s := by unfold gOf; rw [if_neg (by omega)]
    have low : ∀ y ∈ sc t s op, f s ≤ f y + 1 := fun y hy => by
     rcases hf.val y (hcl y hy) with ⟨q, _⟩ | ⟨k, q, hk⟩
     ·have := ci y hy; omega
     ·have hd : DsC t (Sd all f) (k + 1) s := .inr ⟨⟨hs, h0⟩, op, ⟨o0, o1⟩, cc, fun z hz => ⟨hcl z hz, ci z hz⟩, y, hy, hk.1⟩
      obtain ⟨j, j1, j2⟩ := HtD.of_dn hd
      rcases hf.val s hs with ⟨_, w⟩ | ⟨k', w, hk'⟩
      ·exact absurd j2.1 (w j)
      ·rw [w, hk'.unique j2]; omega
    have : (decide (m < gOf f s)) = dec (CycP t f s op) := by
     rw [hgs, z7]
     refine m7 ⟨fun h => ⟨⟨⟨o0, o1⟩, cc⟩, ci, ?_⟩, fun ⟨_, _, y, hy, e⟩ => ?_⟩
     ·rcases m2.2.2 with e | ⟨y, hy, e⟩
      ·have := hbd s hs; omega
      ·rw [hg y hy] at e
       have := low y hy
       exact ⟨y, hy, by omega⟩
     ·have := m2.2.1 y hy
      rw [hg y hy] at this
      omega
    rw [this]
    by_cases c : CycP t f s op
    ·rw [ifP c, ifP c]
    ·rw [ifN c, ifN c]
   ·rw [ifN ci, ifN (fun h => ci h.2.1)]
    rfl
  ·rw [ifN cc, ifN (fun h => cc h.1.2)]
   rfl
 unfold D8
 rw [rngX_hit (w := b) (b := b) hb.1.1.1.1 hb.1.1.1.2 (fun op o0 o1 => by
  rw [one op o0 (by have := hb.1.1.1.2; omega), ifN (hb.2 op o0 o1)]) (by
  rw [one b hb.1.1.1.1 hb.1.1.1.2, ifP hb.1])]
 rfl
theorem ai4 (t : b9) : F9 t = some true := by
 unfold F9
 obtain ⟨e, e1, e2, e3⟩ := ag1 t
 rcases e3 with ⟨rfl, ht⟩ | ⟨hc, _⟩
 ·rw [e2]
  have hP := am0 ht
  obtain ⟨P, hPe⟩ : ∃ P, r8 t = some P := by
   rcases hP with ⟨_, _, h⟩ | ⟨all, v, f, _, _, _, _, _, ⟨_, h⟩ | ⟨ch, hk, h1, h2, ⟨h, _⟩ | ⟨q, h, hq, hl⟩⟩⟩
   ·exact ⟨_, h⟩
   ·exact ⟨_, h⟩
   ·exact ⟨_, h⟩
   ·exact ⟨_, h⟩
  rcases reached_low (m := 150) ht (by decide) (by decide) with h150 | ⟨out, o1, o2, oc, o3, o4⟩
  ·rw [hPe]
   simp only [ob]
   rw [if_pos trivial, h150]
   simp only [ob]
   rw [if_pos (by rfl), ad4]; rfl
  ·rcases hP with ⟨h0, _, _⟩ | ⟨all, v, f, q1, q2, hc, hv, hr, hh⟩
   ·rw [o1] at h0; cases h0
   ·rw [o1] at q1; cases q1
    obtain ⟨rv, r1, r2⟩ := rCertain_eq ht hc hr
    obtain ⟨i, hi, hvi⟩ := r2.of hc.cl.init
    have hlen := hc.len
    have hle := hr.bnd hc _ hc.cl.init
    rcases hh with ⟨hn, h⟩ | ⟨ch, hk, h1, h2, hh⟩
    ·rw [h]
     simp only [ob]
     rw [if_pos trivial, o3]
     simp only [ob]
     rw [if_neg (by simp), r1]
     simp only [ob, ad8 hc.ord hi, hvi]
     rw [if_pos (by unfold gOf; rw [if_pos (by omega)]; decide)]
     simp [ad4]
    ·have hf0 := (h1 _ .init).2
     rcases hh with ⟨_, l, l1, l2, l3⟩ | ⟨p, h, hp, hl⟩
     ·have := O4 l1 fun s hs => (h1 s (l2 s hs).1).1
      omega
     ·rw [h]
      simp only [ob]
      rw [if_pos trivial, o3]
      simp only [ob]
      rw [if_neg (by simp), r1]
      simp only [ob, ad8 hc.ord hi, hvi]
      rw [if_neg (by unfold gOf; rw [if_neg (by omega)]; omega)]
      obtain ⟨p', p1, p2⟩ := build_ref ht hk (all := out) (value := rv) (kind := 2) (fun s hs _ => (h1 s hs).1) (by omega) r2.len (fun s hs hg i v _ _ => by
       rw [if_neg (by decide)]
       simp only [ob]
       rw [if_pos trivial, rChoice_eq ht hc hr r2 (h1 s hs).1 (h2 s hs hg) (h1 s hs).2]
       rfl)
      have := p2.unique hp
      subst this
      simp only [if_true, p1, ob, am1, ad4]
 ·rw [cpolicy_bad e1 hc, e2]
  simp only [ob]
  rw [if_neg hc]
  simp [ad4]
end
end Ab
end
