/-
  Texts that the proof stands on.
-/
import Derived.Test.YthohgmigdbaedaaGreatDoorKRwRecBnd4
set_option linter.all false
section
namespace Ab
open Go
noncomputable def dec (p : Prop) : Bool := @decide p (Classical.propDecidable p)
@[simp] theorem i5 {p : Prop} : dec p = true ↔ p := by simp [dec]
@[simp] theorem dec_false {p : Prop} : dec p = false ↔ ¬ p := by simp [dec]
@[simp] theorem n5 {p : Prop} : (!dec p) = dec (¬ p) := by by_cases h : p <;> simp [dec, h]
theorem ac3 {p : Prop} [Decidable p] : decide p = dec p := by by_cases h : p <;> simp [dec, h]
theorem j9 {p : Prop} (h : p) : dec p = true := i5.2 h
theorem o7 {p : Prop} (h : ¬ p) : dec p = false := dec_false.2 h
theorem M5 {p q : Prop} (h : p ↔ q) : dec p = dec q := by rw [propext h]
theorem dec_and {p q : Prop} : (dec p && dec q) = dec (p ∧ q) := by by_cases h : p <;> by_cases g : q <;> simp [dec, h, g]
theorem dec_or {p q : Prop} : (dec p || dec q) = dec (p ∨ q) := by by_cases h : p <;> by_cases g : q <;> simp [dec, h, g]
theorem ifP {α : Type} {p : Prop} {a b : α} (h : p) : (if dec p = true then a else b) = a := if_pos (j9 h)
theorem ifN {α : Type} {p : Prop} {a b : α} (h : ¬ p) : (if dec p = true then a else b) = b := if_neg fun g => h (i5.1 g)
theorem ifNN {α : Type} {p : Prop} {a b : α} (h : p) : (if dec (¬ p) = true then a else b) = b := ifN (not_not_intro h)
theorem ix_ltN {α : Type} {l : List α} {k : Nat} (h : k < l.length) : ix l (k : Int) = some l[k] := by rw [F0]; simp [h]
theorem s5 {α : Type} {l : List α} {i : Int} {a : α} (h : ix l i = some a) : a ∈ l := List.mem_of_getElem? (o5 h).2.2
theorem G6 {α : Type} {l : List α} {a : α} (h : a ∈ l) : ∃ i : Int, 0 ≤ i ∧ i < l.length ∧ ix l i = some a := by
 obtain ⟨k, hk⟩ := List.getElem?_of_mem h
 exact ⟨k, by omega, by have := (List.getElem?_eq_some_iff.1 hk).1; omega, by rw [F0, hk]⟩
theorem ix_put {α : Type} {l : List α} {i j : Int} {x : α} (h0 : 0 ≤ i) (h1 : i < l.length) (hj : 0 ≤ j) : ix (l.set i.toNat x) j = if j = i then some x else ix l j := by
 simp only [ix, hj, if_true, List.getElem?_set]
 by_cases h : j = i
 ·subst h; rw [if_pos rfl, if_pos rfl, if_pos (by omega)]
 ·rw [if_neg h, if_neg (by omega)]
theorem D5 {O : Type} {body : Int → Unit → Option (Unit ⊕ O)} {n : Int} (g : Int → Option O) (hn : 0 ≤ n)
  (hb : ∀ j, 0 ≤ j → j < n → (∀ i, 0 ≤ i → i < j → g i = none) → body j () = some (match g j with | none => .inl () | some o => .inr o)) :
  (rngX 0 n body () = some (.inl ()) ∧ ∀ j, 0 ≤ j → j < n → g j = none) ∨ ∃ j o, 0 ≤ j ∧ j < n ∧ g j = some o ∧ (∀ i, 0 ≤ i → i < j → g i = none) ∧ rngX 0 n body () = some (.inr o) := by
 rcases ad1 (body := body) (n := n) (fun j _ => ∀ i, 0 ≤ i → i < j → g i = none) (fun o => ∃ j, 0 ≤ j ∧ j < n ∧ g j = some o ∧ ∀ i, 0 ≤ i → i < j → g i = none) (s := ()) hn (fun i h1 h2 => by omega) (fun j s h0 h1 hP => by
  have := hb j h0 h1 hP
  cases hg : g j with
  | none => rw [hg] at this; exact .inl ⟨(), this, fun i h2 h3 => by
    rcases Int.lt_or_eq_of_le (Int.le_of_lt_add_one h3) with h | h
    ·exact hP i h2 h
    ·rw [h, hg]⟩
  | some o => rw [hg] at this; exact .inr ⟨o, this, j, h0, h1, hg, hP⟩) with ⟨s', h1, h2⟩ | ⟨o, h1, j, h2, h3, h4, h5⟩
 ·exact .inl ⟨h1, h2⟩
 ·exact .inr ⟨j, o, h2, h3, h4, h5, h1⟩
theorem X9 {α O : Type} {l : List α} {body : Int → Unit → Option (Unit ⊕ O)} (q : α → Prop) (b : O)
  (hb : ∀ j a, ix l j = some a → (q a ∧ body j () = some (.inl ())) ∨ (¬ q a ∧ body j () = some (.inr b))) :
  rngX 0 (l.length : Int) body () = some (if dec (∀ a ∈ l, q a) = true then .inl () else .inr b) := by
 rcases D5 (body := body) (n := (l.length : Int)) (fun j => match ix l j with | some a => if dec (q a) = true then none else some b | none => none) (by omega) (fun j h0 h1 _ => by
  obtain ⟨a, h2, _⟩ := j6 h0 h1
  rw [h2]
  rcases hb j a h2 with ⟨h3, h4⟩ | ⟨h3, h4⟩
  ·rw [h4]; simp [h3]
  ·rw [h4]; simp [h3]) with ⟨h1, h2⟩ | ⟨j, o, h0, h1, h2, _, h4⟩
 ·rw [h1, if_pos]
  rw [i5]
  intro a ha
  obtain ⟨i, g1, g2, g3⟩ := G6 ha
  have := h2 i g1 g2
  rw [g3] at this
  simpa using this
 ·rw [h4]
  obtain ⟨a, g1, _⟩ := j6 h0 h1
  rw [g1] at h2
  simp only [i5] at h2
  split at h2
  ·cases h2
  ·rename_i hq
   cases h2
   rw [if_neg]
   rw [i5]
   exact fun h => hq (j9 (h a (s5 g1)))
abbrev Inc (l : List Int) : Prop := l.Pairwise (· < ·)
theorem inc_of_adj : ∀ {l : List Int}, (∀ (k : Nat) a b, l[k]? = some a → l[k + 1]? = some b → a < b) → Inc l
 | [], _ => .nil
 | [_], _ => by simp
 | a :: b :: l, h => by
  have ih : Inc (b :: l) := inc_of_adj fun k x y h1 h2 => h (k + 1) x y (by simpa using h1) (by simpa using h2)
  have hab : a < b := h 0 a b rfl rfl
  refine List.pairwise_cons.2 ⟨fun c hc => ?_, ih⟩
  rcases List.mem_cons.1 hc with rfl | hc
  ·exact hab
  ·exact Int.lt_trans hab ((List.pairwise_cons.1 ih).1 c hc)
theorem Inc.get {l : List Int} (h : Inc l) {i j : Nat} {a b : Int} (hi : l[i]? = some a) (hj : l[j]? = some b) (hij : i < j) : a < b := by
 obtain ⟨h1, rfl⟩ := List.getElem?_eq_some_iff.1 hi
 obtain ⟨h2, rfl⟩ := List.getElem?_eq_some_iff.1 hj
 exact List.pairwise_iff_getElem.1 h i j h1 h2 hij
theorem Inc.ext : ∀ {l m : List Int}, Inc l → Inc m → (∀ x, x ∈ l ↔ x ∈ m) → l = m
 | [], [], _, _, _ => rfl
 | [], b :: m, _, _, h => absurd ((h b).2 (by simp)) (by simp)
 | a :: l, [], _, _, h => absurd ((h a).1 (by simp)) (by simp)
 | a :: l, b :: m, hl, hm, h => by
  obtain ⟨l1, l2⟩ := List.pairwise_cons.1 hl
  obtain ⟨m1, m2⟩ := List.pairwise_cons.1 hm
  have hab : a = b := by
   rcases List.mem_cons.1 ((h a).1 (by simp)) with e | e
   ·exact e
   ·rcases List.mem_cons.1 ((h b).2 (by simp)) with e' | e'
    ·exact e'.symm
    ·have := l1 b e'; have := m1 a e; omega
  subst hab
  rw [Inc.ext l2 m2 fun x => ⟨fun hx => ?_, fun hx => ?_⟩]
  ·rcases List.mem_cons.1 ((h x).1 (by simp [hx])) with e | e
   ·have := l1 x hx; omega
   ·exact e
  ·rcases List.mem_cons.1 ((h x).2 (by simp [hx])) with e | e
   ·have := m1 x hx; omega
   ·exact e
theorem Inc.filter {l : List Int} (h : Inc l) (p : Int → Bool) : Inc (l.filter p) := List.Pairwise.filter p h
def nums (lo : Int) : Nat → List Int
 | 0 => []
 | k + 1 => lo :: nums (lo + 1) k
theorem ac0 {x : Int} : ∀ {k : Nat} {lo : Int}, x ∈ nums lo k ↔ lo ≤ x ∧ x < lo + k
 | 0, lo => by simp [nums]
 | k + 1, lo => by
  rw [nums, List.mem_cons, ac0 (k := k)]
  omega
theorem inc_nums : ∀ (k : Nat) (lo : Int), Inc (nums lo k)
 | 0, _ => .nil
 | k + 1, lo => List.pairwise_cons.2 ⟨fun x hx => by have := ac0.1 hx; omega, inc_nums k (lo + 1)⟩
theorem len_nums : ∀ (k : Nat) (lo : Int), (nums lo k).length = k
 | 0, _ => rfl
 | k + 1, lo => by simp [nums, len_nums k]
noncomputable def A9 (p : Int → Prop) (n : Int) : List Int := (nums 0 n.toNat).filter fun x => dec (p x)
theorem I3 {p : Int → Prop} {n x : Int} : x ∈ A9 p n ↔ 0 ≤ x ∧ x < n ∧ p x := by
 rw [A9, List.mem_filter, ac0, i5]
 constructor
 ·rintro ⟨⟨h1, h2⟩, h3⟩; exact ⟨h1, by omega, h3⟩
 ·rintro ⟨h1, h2, h3⟩; exact ⟨⟨h1, by omega⟩, h3⟩
theorem aa5 (p : Int → Prop) (n : Int) : Inc (A9 p n) := (inc_nums _ _).filter _
theorem setOf_congr {p q : Int → Prop} {n : Int} (h : ∀ x, 0 ≤ x → x < n → (p x ↔ q x)) : A9 p n = A9 q n := by
 refine List.filter_congr fun x hx => M5 ?_
 have := ac0.1 hx
 exact h x (by omega) (by omega)
def SetN (l : List Int) (n : Int) : Prop := Inc l ∧ ∀ x ∈ l, 0 ≤ x ∧ x < n
theorem ac4 (p : Int → Prop) (n : Int) : SetN (A9 p n) n := ⟨aa5 p n, fun x hx => by have := I3.1 hx; exact ⟨this.1, this.2.1⟩⟩
theorem SetN.eq {l : List Int} {n : Int} (h : SetN l n) : l = A9 (· ∈ l) n :=
 h.1.ext (aa5 _ _) fun x => ⟨fun hx => I3.2 ⟨(h.2 x hx).1, (h.2 x hx).2, hx⟩, fun hx => (I3.1 hx).2.2⟩
theorem SetN.eq_of {l : List Int} {n : Int} (h : SetN l n) {p : Int → Prop} (hp : ∀ x, 0 ≤ x → x < n → (x ∈ l ↔ p x)) : l = A9 p n :=
 h.eq.trans (setOf_congr hp)
theorem SetN.len {l : List Int} {n : Int} (h : SetN l n) : l.length ≤ n.toNat := by
 rw [h.eq, A9]
 exact Nat.le_trans (List.length_filter_le _ _) (Nat.le_of_eq (len_nums _ _))
theorem setN_nil (n : Int) : SetN [] n := ⟨.nil, by simp⟩
theorem forR_filter {α : Type} {l : List α} {b : Nat} {body : Int → List α → Option (List α)} (q : α → Prop)
  (hb : ∀ j a c, ix l j = some a → (q a → body j c = app b c [a]) ∧ (¬ q a → body j c = some c)) (c0 : List α) (hl : (c0.length + l.length) * b ≤ 140737488355328) :
  forR 0 (l.length : Int) body c0 = some (c0 ++ l.filter fun a => dec (q a)) := by
 obtain ⟨s', h1, h2⟩ := M6 (body := body) (n := (l.length : Int)) (s := c0) (fun j c => c = c0 ++ (l.take j.toNat).filter fun a => dec (q a)) (by omega) (by simp) (fun j c h0 h1 hP => by
  obtain ⟨a, g1, g2⟩ := j6 h0 h1
  have e : (j + 1).toNat = j.toNat + 1 := by omega
  have ht : l.take (j + 1).toNat = l.take j.toNat ++ [a] := by rw [e, List.take_add_one, g2]; rfl
  by_cases hq : q a
  ·have happ : app b c [a] = some (c ++ [a]) := by
    rw [app, if_pos]
    have h3 : ((l.take j.toNat).filter fun a => dec (q a)).length ≤ (l.take j.toNat).length := List.length_filter_le _ _
    rw [List.length_take] at h3
    have h5 : c.length + 1 ≤ c0.length + l.length := by rw [hP, List.length_append]; omega
    refine Nat.le_trans (Nat.mul_le_mul_right b ?_) hl
    simpa using h5
   refine ⟨c ++ [a], by rw [(hb j a c g1).1 hq, happ], ?_⟩
   rw [ht, List.filter_append, hP]
   simp [hq]
  ·refine ⟨c, (hb j a c g1).2 hq, ?_⟩
   rw [ht, List.filter_append, hP]
   simp [hq])
 rw [h1, h2]
 simp
theorem forR_setOf {b : Nat} {n : Int} {body : Int → List Int → Option (List Int)} (q : Int → Prop) (hn : 0 ≤ n) (hl : n.toNat * b ≤ 140737488355328)
  (hb : ∀ j c, 0 ≤ j → j < n → (q j → body j c = app b c [j]) ∧ (¬ q j → body j c = some c)) : forR 0 n body [] = some (A9 q n) := by
 obtain ⟨s', h1, h2⟩ := M6 (body := body) (n := n) (s := []) (fun j c => c = A9 q j) hn (by simp [A9, nums]) (fun j c h0 h1 hP => by
  have hs : A9 q (j + 1) = A9 q j ++ if dec (q j) = true then [j] else [] := by
   refine (aa5 q (j + 1)).ext ?_ fun x => ?_
   ·refine List.pairwise_append.2 ⟨aa5 _ _, by split <;> simp, fun a ha b hb => ?_⟩
    have := I3.1 ha
    split at hb
    ·simp at hb; omega
    ·cases hb
   ·rw [List.mem_append, I3, I3]
    by_cases hq : q j
    ·rw [if_pos (j9 hq)]
     simp only [List.mem_singleton]
     refine ⟨fun h => ?_, fun h => ?_⟩
     ·by_cases e : x = j
      ·exact .inr e
      ·exact .inl ⟨h.1, by omega, h.2.2⟩
     ·rcases h with h | rfl
      ·exact ⟨h.1, by omega, h.2.2⟩
      ·exact ⟨h0, by omega, hq⟩
    ·rw [if_neg (by simpa using hq)]
     simp only [List.not_mem_nil, or_false]
     refine ⟨fun h => ⟨h.1, ?_, h.2.2⟩, fun h => ⟨h.1, by omega, h.2.2⟩⟩
     rcases Int.lt_or_eq_of_le (Int.le_of_lt_add_one h.2.1) with e | e
     ·exact e
     ·rw [e] at h; exact absurd h.2.2 hq
  by_cases hq : q j
  ·refine ⟨c ++ [j], ?_, by rw [hs, hP, if_pos (j9 hq)]⟩
   rw [(hb j c h0 h1).1 hq, app, if_pos]
   have h3 : c.length ≤ j.toNat := by rw [hP]; exact (ac4 q j).len
   refine Nat.le_trans (Nat.mul_le_mul_right b ?_) hl
   simp; omega
  ·refine ⟨c, (hb j c h0 h1).2 hq, ?_⟩
   rw [hs, hP, if_neg (by simpa using hq), List.append_nil])
 rw [h1, h2]
end Ab
end
section
namespace Ab
open Go
theorem has_eq (l : List Int) (n : Int) : ref1_Has l n = some (dec (n ∈ l)) := by
 unfold ref1_Has
 rw [X9 (l := l) (fun a => a ≠ n) true (fun j a h => by
  unfold ref1_Has_l1
  rw [h]
  by_cases e : a = n <;> simp [e])]
 by_cases h : n ∈ l
 ·rw [if_neg (by simp only [i5]; exact fun g => g n h rfl)]
  simp [h]
 ·rw [if_pos (by simp only [i5]; exact fun a ha e => h (e ▸ ha))]
  simp [h]
theorem disjoint_eq (a b : List Int) : V6 a b = some (dec (∀ x ∈ a, x ∉ b)) := by
 unfold V6
 rw [X9 (l := a) (fun x => x ∉ b) false (fun j x h => by
  unfold Y1
  rw [h]
  by_cases e : x ∈ b <;> simp [e, has_eq])]
 by_cases h : ∀ x ∈ a, x ∉ b
 ·rw [if_pos (j9 h), j9 h]; rfl
 ·rw [if_neg (by rw [o7 h]; simp), o7 h]; rfl
theorem in_eq (n lo hi : Int) : H6 n lo hi = some (dec (lo ≤ n ∧ n ≤ hi)) := by
 unfold H6; rw [ac3, ac3, dec_and]
theorem at_eq (c i : Int) : D8 c i = some ⟨c, i⟩ := rfl
def stepOk (l : List Int) (n j : Int) : Prop := ∀ a, ix l j = some a → (0 ≤ a ∧ a < n) ∧ ∀ b, 0 < j → ix l (j - 1) = some b → b < a
theorem X5 {l : List Int} {n : Int} : (∀ j : Int, 0 ≤ j → j < l.length → stepOk l n j) ↔ SetN l n := by
 constructor
 ·intro h
  refine ⟨inc_of_adj fun k a b h1 h2 => ?_, fun x hx => ?_⟩
  ·have hk := (List.getElem?_eq_some_iff.1 h2).1
   have := (h ((k + 1 : Nat) : Int) (by omega) (by omega) b (by rw [F0]; exact h2)).2 a (by omega)
   rw [show ((k + 1 : Nat) : Int) - 1 = (k : Nat) by omega] at this
   exact this (by rw [F0]; exact h1)
  ·obtain ⟨i, h1, h2, h3⟩ := G6 hx
   exact (h i h1 h2 x h3).1
 ·intro h j h0 h1 a ha
  refine ⟨h.2 a (s5 ha), fun b hj hb => ?_⟩
  obtain ⟨_, _, ga⟩ := o5 ha
  obtain ⟨_, _, gb⟩ := o5 hb
  exact h.1.get gb ga (by omega)
theorem ac9 (l : List Int) (n : Int) : w6 l n = some (dec (SetN l n)) := by
 unfold w6
 rcases D5 (body := L5 l n) (n := (l.length : Int)) (fun j => if dec (stepOk l n j) = true then none else some false) (by omega) (fun j h0 h1 _ => by
  obtain ⟨a, ha, _⟩ := j6 (l := l) h0 h1
  unfold L5
  rw [ha]
  simp only [oB]
  by_cases c1 : a < 0
  ·rw [if_pos c1, if_neg]
   ·rfl
   ·rw [i5]; intro h; have := (h a ha).1; omega
  ·rw [if_neg c1]
   by_cases c2 : n ≤ a
   ·rw [if_pos c2, if_neg]
    ·rfl
    ·rw [i5]; intro h; have := (h a ha).1; omega
   ·rw [if_neg c2]
    by_cases c3 : 0 < j
    ·obtain ⟨b, hb, _⟩ := j6 (l := l) (i := j - 1) (by omega) (by omega)
     rw [if_pos c3, hb]
     simp only [oB]
     by_cases c4 : a ≤ b
     ·rw [if_pos (by simpa using c4), if_neg]
      rw [i5]; intro h; have := (h a ha).2 b c3 hb; omega
     ·rw [if_neg (by simpa using c4), if_pos]
      rw [i5]; intro x hx
      rw [ha] at hx; cases hx
      exact ⟨by omega, fun y _ hy => by rw [hb] at hy; cases hy; omega⟩
    ·rw [if_neg c3]
     simp only [oB]
     rw [if_neg (by simp), if_pos]
     rw [i5]; intro x hx
     rw [ha] at hx; cases hx
     exact ⟨by omega, fun y hy => absurd hy c3⟩) with ⟨h1, h2⟩ | ⟨j, o, h0, h1, h2, _, h4⟩
 ·rw [h1, j9]
  ·rfl
  ·exact X5.1 fun j g1 g2 => by have := h2 j g1 g2; simpa using this
 ·rw [h4]
  split at h2
  ·cases h2
  ·rename_i hs
   cases h2
   rw [o7]
   ·rfl
   ·exact fun h => hs (j9 (X5.2 h j h0 h1))
theorem rIsSet_eq (l : List Int) {n : Int} (hn : -9223372036854775808 < n) (hn' : n ≤ 9223372036854775807) : F9 l n = some (dec (SetN l n)) := by
 unfold F9
 rcases D5 (body := V7 l n) (n := (l.length : Int)) (fun j => if dec (stepOk l n j) = true then none else some false) (by omega) (fun j h0 h1 _ => by
  obtain ⟨a, ha, _⟩ := j6 (l := l) h0 h1
  unfold V7
  rw [ha]
  simp only [oB, in_eq, m9 (n := n - 1) (by omega) (by omega), n5]
  by_cases c1 : 0 ≤ a ∧ a ≤ n - 1
  ·rw [if_neg (by simpa using c1)]
   by_cases c3 : 0 < j
   ·obtain ⟨b, hb, _⟩ := j6 (l := l) (i := j - 1) (by omega) (by omega)
    rw [if_pos c3, hb]
    simp only [oB]
    by_cases c4 : a ≤ b
    ·rw [if_pos (by simpa using c4), if_neg]
     rw [i5]; intro h; have := (h a ha).2 b c3 hb; omega
    ·rw [if_neg (by simpa using c4), if_pos]
     rw [i5]; intro x hx
     rw [ha] at hx; cases hx
     exact ⟨by omega, fun y _ hy => by rw [hb] at hy; cases hy; omega⟩
   ·rw [if_neg c3]
    simp only [oB]
    rw [if_neg (by simp), if_pos]
    rw [i5]; intro x hx
    rw [ha] at hx; cases hx
    exact ⟨by omega, fun y hy => absurd hy c3⟩
  ·rw [if_pos (by simpa using c1), if_neg]
   ·rfl
   ·rw [i5]; intro h; have := (h a ha).1; omega) with ⟨h1, h2⟩ | ⟨j, o, h0, h1, h2, _, h4⟩
 ·rw [h1, j9]
  ·rfl
  ·exact X5.1 fun j g1 g2 => by have := h2 j g1 g2; simpa using this
 ·rw [h4]
  split at h2
  ·cases h2
  ·rename_i hs
   cases h2
   rw [o7]
   ·rfl
   ·exact fun h => hs (j9 (X5.2 h j h0 h1))
theorem containsLoop {s : List Int} (hs : Inc s) (hl : s.length ≤ 1000000) (x : Int) {i : Int} (h0 : 0 ≤ i) (h1 : i ≤ s.length) (hlt : ∀ k a, 0 ≤ k → k < i → ix s k = some a → a < x) :
  ∃ i', Loop (C1 s x) i = some i' ∧ i ≤ i' ∧ i' ≤ s.length ∧ (∀ k a, 0 ≤ k → k < i' → ix s k = some a → a < x) ∧ (∀ a, ix s i' = some a → x ≤ a) := by
 obtain ⟨o, h2, h3⟩ := P3 (body := C1 s x) (fun j => i ≤ j ∧ j ≤ s.length ∧ ∀ k a, 0 ≤ k → k < j → ix s k = some a → a < x) (fun i' => i ≤ i' ∧ i' ≤ s.length ∧ (∀ k a, 0 ≤ k → k < i' → ix s k = some a → a < x) ∧ (∀ a, ix s i' = some a → x ≤ a)) (fun j => (s.length - j).toNat) (s := i) ⟨Int.le_refl _, h1, hlt⟩ (fun j ⟨g1, g2, g3⟩ => by
  unfold C1
  by_cases c : j < s.length
  ·obtain ⟨a, ha, _⟩ := j6 (l := s) (i := j) (by omega) c
   rw [if_pos c, ha]
   simp only [oB, decide_eq_true_eq]
   by_cases c2 : a < x
   ·rw [if_pos c2]
    rw [m9 (by omega) (by omega)]
    refine .inl ⟨j + 1, rfl, ⟨by omega, by omega, fun k b k0 k1 hb => ?_⟩, by omega⟩
    by_cases e : k = j
    ·subst e; rw [ha] at hb; cases hb; exact c2
    ·exact g3 k b k0 (by omega) hb
   ·rw [if_neg c2]
    exact .inr ⟨j, rfl, g1, g2, g3, fun b hb => by rw [ha] at hb; cases hb; omega⟩
  ·rw [if_neg c]
   exact .inr ⟨j, rfl, g1, g2, g3, fun b hb => by have := (o5 hb).2.1; omega⟩)
 exact ⟨o, h2, h3⟩
theorem U3 {s part : List Int} (hs : Inc s) (hp : Inc part) (hl : s.length ≤ 1000000) : v6 s part = some (dec (∀ x ∈ part, x ∈ s)) := by
 unfold v6
 rcases ad1 (body := G9 s part) (n := (part.length : Int)) (fun j i => (0 ≤ i ∧ i ≤ s.length ∧ ∀ k a, 0 ≤ k → k < i → ix s k = some a → ∀ m x, j ≤ m → ix part m = some x → a < x) ∧ ∀ m x, 0 ≤ m → m < j → ix part m = some x → x ∈ s) (fun o => o = false ∧ ¬ ∀ x ∈ part, x ∈ s) (s := 0) (by omega) ⟨⟨by omega, by omega, fun k a h1 h2 => by omega⟩, fun m x h1 h2 => by omega⟩ (fun j i h0 h1 ⟨⟨g1, g2, g3⟩, g4⟩ => by
  obtain ⟨x, hx, gx⟩ := j6 (l := part) h0 h1
  unfold G9
  obtain ⟨i', e1, e2, e3, e4, e5⟩ := containsLoop hs hl x g1 g2 (fun k a k0 k1 ha => g3 k a k0 k1 ha j x (Int.le_refl _) hx)
  rw [hx]
  simp only [oB, e1]
  have nin : (∀ a, ix s i' = some a → x < a) → x ∉ s := fun hgt hin => by
   obtain ⟨k, k0, k1, hk⟩ := G6 hin
   rcases Int.lt_trichotomy k i' with c | c | c
   ·have := e4 k x k0 c hk; omega
   ·subst c; have := hgt x hk; omega
   ·obtain ⟨b, hb, gb⟩ := j6 (l := s) (i := i') (by omega) (by omega)
    obtain ⟨_, _, gk⟩ := o5 hk
    have := hs.get gb gk (by omega)
    have := e5 b hb
    omega
  by_cases c : i' = s.length
  ·rw [if_pos c]
   refine .inr ⟨false, rfl, rfl, fun h => ?_⟩
   exact nin (fun a ha => by have := (o5 ha).2.1; omega) (h x (s5 hx))
  ·rw [if_neg c]
   obtain ⟨b, hb, gb⟩ := j6 (l := s) (i := i') (by omega) (by omega)
   rw [hb]
   simp only [oB]
   have hxb := e5 b hb
   by_cases c2 : b = x
   ·subst c2
    rw [if_neg (by simp)]
    refine .inl ⟨i', rfl, ⟨by omega, e3, fun k a k0 k1 ha m y hm hy => ?_⟩, fun m y m0 m1 hy => ?_⟩
    ·obtain ⟨_, _, gy⟩ := o5 hy
     have := hp.get gx gy (by omega)
     have := e4 k a k0 k1 ha
     omega
    ·by_cases e : m = j
     ·subst e; rw [hx] at hy; cases hy; exact s5 hb
     ·exact g4 m y m0 (by omega) hy
   ·rw [if_pos (by simpa using c2)]
    refine .inr ⟨false, rfl, rfl, fun h => ?_⟩
    exact nin (fun a ha => by rw [hb] at ha; cases ha; omega) (h x (s5 hx))) with ⟨s', h1, _, h2⟩ | ⟨o, h1, rfl, h2⟩
 ·rw [h1, j9]
  ·rfl
  ·intro x hx
   obtain ⟨m, m0, m1, hm⟩ := G6 hx
   exact h2 m x m0 m1 hm
 ·rw [h1, o7 h2]; rfl
end Ab
end
section
namespace Ab
open Go
theorem half_eq {i j : Int} (h0 : 0 ≤ i) (h1 : i ≤ j) (h2 : j ≤ 1000000) : w64 (shrW .u64 ((IntKind.u64).wrap (w64 (i + j))) 1) = (i + j) / 2 := by
 rw [m9 (n := i + j) (by omega) (by omega), IntKind.wrap_u64, Int.emod_eq_of_lt (by omega) (by omega)]
 have : shrW .u64 (i + j) 1 = (i + j) / 2 := by
  simp only [shrW, IntKind.bits]
  rw [show min (1 : Int).toNat 64 = 1 by rfl, Int.fdiv_eq_ediv_of_nonneg _ (by decide)]
  rfl
 rw [this]
 exact m9 (by omega) (by omega)
theorem less_eq (a b : Int) : M7 a b = some (decide (a < b)) := by simp [M7, A6]
theorem bsearch_eq {xs : List Int} (hs : Inc xs) (hl : xs.length ≤ 500000) (t : Int) : ∃ i, l8 xs t = some (i, dec (t ∈ xs)) ∧ 0 ≤ i ∧ i ≤ xs.length ∧ (∀ k a, 0 ≤ k → k < i → ix xs k = some a → a < t) ∧ (∀ k a, i ≤ k → ix xs k = some a → t ≤ a) := by
 unfold l8
 obtain ⟨i, h1, h2, h3, h4, h5⟩ := P3 (body := q6 xs t) (fun p => (0 ≤ p.1 ∧ p.1 ≤ p.2 ∧ p.2 ≤ xs.length) ∧ (∀ k a, 0 ≤ k → k < p.1 → ix xs k = some a → a < t) ∧ (∀ k a, p.2 ≤ k → ix xs k = some a → t ≤ a))
  (fun i => 0 ≤ i ∧ i ≤ xs.length ∧ (∀ k a, 0 ≤ k → k < i → ix xs k = some a → a < t) ∧ (∀ k a, i ≤ k → ix xs k = some a → t ≤ a)) (fun p => (p.2 - p.1).toNat) (s := (0, (xs.length : Int)))
  ⟨⟨by simp, by simp, by simp⟩, fun k a h1 h2 => by simp at h2; omega, fun k a h1 h2 => by have := (o5 h2).2.1; simp at h1; omega⟩ (fun ⟨i, j⟩ ⟨⟨g1, g2, g3⟩, g4, g5⟩ => by
  dsimp only at g1 g2 g3 g4 g5 ⊢
  unfold q6
  dsimp only
  by_cases c : i < j
  ·rw [if_pos c, half_eq g1 g2 (by omega)]
   obtain ⟨a, ha, ga⟩ := j6 (l := xs) (i := (i + j) / 2) (by omega) (by omega)
   rw [ha]
   simp only [oB, less_eq, decide_eq_true_eq]
   by_cases c2 : a < t
   ·rw [if_pos c2, m9 (by omega) (by omega)]
    refine .inl ⟨_, rfl, ⟨⟨by dsimp only; omega, by dsimp only; omega, g3⟩, fun k b k0 k1 hb => ?_, g5⟩, by dsimp only; omega⟩
    dsimp only at k1
    obtain ⟨_, _, gb⟩ := o5 hb
    by_cases e : k = (i + j) / 2
    ·subst e; rw [ha] at hb; cases hb; exact c2
    ·have := hs.get gb ga (by omega); omega
   ·rw [if_neg c2]
    refine .inl ⟨_, rfl, ⟨⟨g1, by dsimp only; omega, by dsimp only; omega⟩, g4, fun k b k0 hb => ?_⟩, by dsimp only; omega⟩
    dsimp only at k0
    obtain ⟨_, _, gb⟩ := o5 hb
    by_cases e : k = (i + j) / 2
    ·subst e; rw [ha] at hb; cases hb; omega
    ·have := hs.get ga gb (by omega); omega
  ·rw [if_neg c]
   have : i = j := by omega
   subst this
   exact .inr ⟨i, rfl, g1, g3, g4, g5⟩)
 rw [h1]
 simp only [oB]
 refine ⟨i, ?_, h2, h3, h4, h5⟩
 have nin : (∀ a, ix xs i = some a → a ≠ t) → t ∉ xs := fun hne hin => by
  obtain ⟨k, k0, k1, hk⟩ := G6 hin
  rcases Int.lt_trichotomy k i with c | c | c
  ·have := h4 k t k0 c hk; omega
  ·subst c; exact hne t hk rfl
  ·obtain ⟨b, hb, gb⟩ := j6 (l := xs) (i := i) (by omega) (by omega)
   obtain ⟨_, _, gk⟩ := o5 hk
   have := hs.get gb gk (by omega)
   have := h5 i b (Int.le_refl _) hb
   omega
 by_cases c : i < xs.length
 ·obtain ⟨a, ha, ga⟩ := j6 (l := xs) (i := i) (by omega) c
  rw [if_pos c, ha]
  simp only [oB]
  by_cases c2 : a = t
  ·subst c2
   rw [if_pos rfl, j9 (s5 ha)]
   rfl
  ·rw [if_neg c2]
   simp only [E3, decide_true, Bool.not_true, Bool.false_eq_true, if_false, oB]
   rw [o7 (nin fun b hb => by rw [ha] at hb; cases hb; exact c2)]
 ·rw [if_neg c]
  simp only [oB]
  rw [o7 (nin fun b hb => by have := (o5 hb).2.1; omega)]
theorem bsearch2 {xs : List Int} (hs : Inc xs) (hl : xs.length ≤ 500000) (t : Int) : ∃ i, l8 xs t = some (i, dec (t ∈ xs)) :=
 let ⟨i, h, _⟩ := bsearch_eq hs hl t
 ⟨i, h⟩
theorem containsFunc_eq {l : List Int} {f : Int → Option Bool} (p : Int → Prop) (hf : ∀ x ∈ l, f x = some (dec (p x))) : o6 l f = some (dec (∃ x ∈ l, p x)) := by
 unfold o6 A4
 rcases D5 (body := u9 l f) (n := (l.length : Int)) (fun j => if dec (∀ a, ix l j = some a → ¬ p a) = true then none else some j) (by omega) (fun j h0 h1 _ => by
  obtain ⟨a, ha, _⟩ := j6 (l := l) h0 h1
  unfold u9
  rw [ha]
  simp only [oB, hf a (s5 ha)]
  by_cases c : p a
  ·rw [if_pos (j9 c), if_neg (by rw [i5]; exact fun h => h a rfl c)]
  ·rw [if_neg (by rw [o7 c]; simp), if_pos (j9 fun b hb => by cases hb; exact c)]) with ⟨h1, h2⟩ | ⟨j, o, h0, h1, h2, _, h4⟩
 ·rw [h1]
  simp only [oB]
  rw [o7]
  ·rfl
  ·rintro ⟨x, hx, hp⟩
   obtain ⟨i, g1, g2, g3⟩ := G6 hx
   have := h2 i g1 g2
   split at this
   ·rename_i h; exact i5.1 h x g3 hp
   ·cases this
 ·rw [h4]
  split at h2
  ·cases h2
  ·rename_i h
   cases h2
   simp only [oB]
   rw [j9]
   ·simp [h0]
   ·simp only [i5] at h
    obtain ⟨a, g1, _⟩ := j6 (l := l) h0 h1
    refine ⟨a, s5 g1, ?_⟩
    rcases Classical.em (p a) with c | c
    ·exact c
    ·exact absurd (fun b hb => by rw [g1] at hb; cases hb; exact c) h
theorem meets_eq {a b : List Int} (hb : Inc b) (hl : b.length ≤ 500000) : M4 a b = some (dec (∃ x ∈ a, x ∈ b)) := by
 unfold M4
 rw [containsFunc_eq (fun x => x ∈ b) (fun x _ => by
  unfold N4
  obtain ⟨i, h⟩ := bsearch2 hb hl x
  rw [h]; rfl)]
 rfl
/-! ### Sorted, and equal neighbours made one -/
theorem compact_spec {l : List Int} (hs : l.Pairwise (· ≤ ·)) : Inc (P1 l) ∧ ∀ x, x ∈ P1 l ↔ x ∈ l := by
 have key : ∀ m, m ≤ l.length → Inc (Go.Lib.compactUpTo l.toArray m) ∧ (∀ x, x ∈ Go.Lib.compactUpTo l.toArray m ↔ x ∈ l.take m) := by
  intro m
  induction m with
  | zero => intro _; simp [Go.Lib.compactUpTo]
  | succ m ih =>
   intro hm
   obtain ⟨h1, h2⟩ := ih (by omega)
   have hlt : m < l.length := by omega
   have hd : l.toArray[m]! = l[m] := by simp [hlt]
   have ht : l.take (m + 1) = l.take m ++ [l[m]] := by rw [List.take_add_one]; simp [hlt]
   rw [Go.Lib.compactUpTo_succ, ht]
   by_cases hk : Go.Lib.keeps l.toArray m = true
   ·rw [if_pos hk, hd]
    refine ⟨List.pairwise_append.2 ⟨h1, by simp, fun a ha b hb => ?_⟩, fun x => by rw [List.mem_append, List.mem_append, h2]⟩
    simp only [List.mem_singleton] at hb
    subst hb
    have ha' := (h2 a).1 ha
    obtain ⟨i, hi, rfl⟩ := List.mem_iff_getElem.1 ha'
    rw [List.length_take] at hi
    rw [List.getElem_take]
    simp only [Go.Lib.keeps, decide_eq_true_eq] at hk
    rcases hk with hk | hk
    ·omega
    ·have hm1 : l.toArray[m - 1]! = l[m - 1] := by simp [show m - 1 < l.length by omega]
     rw [hd, hm1] at hk
     have e1 : l[m - 1] ≤ l[m] := List.pairwise_iff_getElem.1 hs (m - 1) m (by omega) hlt (by omega)
     have e2 : l[i] ≤ l[m - 1] := by
      rcases Nat.lt_or_ge i (m - 1) with c | c
      ·exact List.pairwise_iff_getElem.1 hs i (m - 1) (by omega) (by omega) c
      ·have : i = m - 1 := by omega
       subst this; exact Int.le_refl _
     omega
   ·rw [if_neg hk, List.append_nil]
    refine ⟨h1, fun x => ?_⟩
    rw [h2, List.mem_append]
    refine ⟨.inl, fun h => ?_⟩
    rcases h with h | h
    ·exact h
    ·simp only [List.mem_singleton] at h
     subst h
     have hm0 : m ≠ 0 := fun e => hk (by simp [Go.Lib.keeps, e])
     have hm1 : l.toArray[m - 1]! = l[m - 1] := by simp [show m - 1 < l.length by omega]
     have he : l[m] = l[m - 1] := by
      simp only [Go.Lib.keeps, decide_eq_true_eq, not_or] at hk
      have h3 : l.toArray[m]! = l.toArray[m - 1]! := Classical.not_not.1 (fun h => hk.2 h)
      rw [hd, hm1] at h3; exact h3
     rw [he, List.mem_take_iff_getElem]
     exact ⟨m - 1, by omega, rfl⟩
 obtain ⟨h1, h2⟩ := key l.length (Nat.le_refl _)
 refine ⟨?_, fun x => ?_⟩
 ·simpa [P1, Go.Lib.compact] using h1
 ·have := h2 x
  rw [List.take_length] at this
  simpa [P1, Go.Lib.compact] using this
theorem srt_spec (l : List Int) : (srt l).Pairwise (· ≤ ·) ∧ ∀ x, x ∈ srt l ↔ x ∈ l := by
 refine ⟨?_, fun x => by simp [srt]⟩
 have := List.pairwise_mergeSort (le := fun x y : Int => decide (x ≤ y)) (fun a b c h1 h2 => by simp at h1 h2 ⊢; omega) (fun a b => by simp; omega) l
 refine this.imp fun h => by simpa using h
theorem sortL_eq {l : List Int} (h : l.length < 4611686018427387904) : sortL l = some (srt l) := by rw [sortL, if_pos h]
theorem update_inc {s add del : List Int} (hd : Inc del) (hl : del.length ≤ 500000) (h1 : s.length ≤ 500000) (h2 : add.length ≤ 500000) :
  ∃ r, E9 s add del = some r ∧ Inc r ∧ ∀ x, x ∈ r ↔ (x ∈ s ∧ x ∉ del) ∨ x ∈ add := by
 unfold E9
 rw [forR_filter (l := s) (b := 8) (fun a => a ∉ del) (fun j a c h => by
  obtain ⟨i, hi⟩ := bsearch2 hd hl a
  unfold P0
  rw [h]
  simp only [oB, hi, n5]
  refine ⟨fun hq => ?_, fun hq => ?_⟩
  ·rw [if_pos (j9 hq)]
   cases app 8 c [a] <;> rfl
  ·rw [if_neg (by simpa using hq)]; rfl) [] (by simp; omega)]
 simp only [oB, List.nil_append]
 have hle : (s.filter fun a => dec (a ∉ del)).length ≤ s.length := List.length_filter_le _ _
 rw [show app 8 (s.filter fun a => dec (a ∉ del)) add = some ((s.filter fun a => dec (a ∉ del)) ++ add) by rw [app, if_pos]; omega]
 simp only [oB]
 rw [sortL_eq (by rw [List.length_append]; omega)]
 simp only [oB]
 obtain ⟨e1, e2⟩ := srt_spec ((s.filter fun a => dec (a ∉ del)) ++ add)
 obtain ⟨e3, e4⟩ := compact_spec e1
 refine ⟨_, rfl, e3, fun x => ?_⟩
 rw [e4, e2, List.mem_append, List.mem_filter, i5]
theorem update_eq {s add del : List Int} {n : Int} (hn : n ≤ 1000) (hd : Inc del) (hl : del.length ≤ 500000) (hs : SetN s n) (ha : SetN add n) :
  E9 s add del = some (A9 (fun x => (x ∈ s ∧ x ∉ del) ∨ x ∈ add) n) := by
 have h1 := hs.len; have h2 := ha.len
 obtain ⟨r, e1, e2, e3⟩ := update_inc (s := s) (add := add) hd hl (by omega) (by omega)
 rw [e1, SetN.eq_of (n := n) ⟨e2, fun x hx => ?_⟩ (fun x _ _ => e3 x)]
 rcases (e3 x).1 hx with h | h
 ·exact hs.2 x h.1
 ·exact ha.2 x h
end Ab
end
section
namespace Ab
open Go
def J1 (o : g9) (n : Int) : Prop := SetN o.pre n ∧ SetN o.add n ∧ SetN o.del n ∧ ∀ x ∈ o.add, x ∉ o.del
def Q7 (o : g9) : Prop := 0 ≤ o.cost ∧ o.cost ≤ 100
noncomputable def J0 (o : g9) (n : Int) : Int := if dec (J1 o n) = true then if dec (Q7 o) = true then 0 else 3 else 5
structure j8 (t : e8) : Prop where
 n0 : 0 ≤ t.facts
 n1 : t.facts ≤ 24
 init : SetN t.init t.facts
 goal : SetN t.goal t.facts
 ops : t.operators.length ≤ 40
 op : ∀ o ∈ t.operators, J1 o t.facts ∧ Q7 o
def V2 (t : e8) (plan : List Int) : Prop := plan.length ≤ 60 ∧ ∀ x ∈ plan, 0 ≤ x ∧ x < t.operators.length
theorem opCode_zero {o : g9} {n : Int} : J0 o n = 0 ↔ J1 o n ∧ Q7 o := by
 unfold J0
 by_cases h : J1 o n
 ·rw [if_pos (j9 h)]
  by_cases g : Q7 o
  ·rw [if_pos (j9 g)]; simp [h, g]
  ·rw [if_neg (by rw [o7 g]; simp)]; simp [g]
 ·rw [if_neg (by rw [o7 h]; simp)]; simp [h]
theorem operator_eq {o : g9} {n : Int} (h0 : 0 ≤ n) (h1 : n ≤ 24) : G8 o n = some (J0 o n) := by
 unfold G8 J0
 simp only [ac9, oB, n5]
 have bad : ¬ J1 o n → dec (J1 o n) = true → False := fun h g => h (i5.1 g)
 by_cases c1 : SetN o.pre n
 ·rw [if_neg (by simpa using c1)]
  by_cases c2 : SetN o.add n
  ·rw [if_neg (by simpa using c2)]
   by_cases c3 : SetN o.del n
   ·rw [if_neg (by simpa using c3)]
    have hl := c3.len
    rw [meets_eq c3.1 (by omega)]
    simp only [oB]
    by_cases c4 : ∃ x ∈ o.add, x ∈ o.del
    ·rw [if_pos (j9 c4), if_neg]
     rw [i5]
     obtain ⟨x, g1, g2⟩ := c4
     exact fun h => h.2.2.2 x g1 g2
    ·have hs : J1 o n := ⟨c1, c2, c3, fun x g1 g2 => c4 ⟨x, g1, g2⟩⟩
     rw [if_neg (by rw [o7 c4]; simp), if_pos (j9 hs)]
     by_cases c5 : Q7 o
     ·rw [if_pos (j9 c5), if_neg]
      have := c5.1; have := c5.2
      simp; omega
     ·rw [if_neg (fun h => c5 (i5.1 h)), if_pos]
      unfold Q7 at c5
      simp; omega
   ·rw [if_pos (by simpa using c3)]
    simp only [oB, if_true]
    rw [if_neg fun h => c3 (i5.1 h).2.2.1]
  ·rw [if_pos (by simpa using c2)]
   simp only [oB, if_true]
   rw [if_neg fun h => c2 (i5.1 h).2.1]
 ·rw [if_pos (by simpa using c1)]
  simp only [oB, if_true]
  rw [if_neg fun h => c1 (i5.1 h).1]
theorem validate_eq (t : e8) : ∃ f, s4 t = some f ∧ M9 t = some f ∧ ((f = ⟨0, 0⟩ ∧ j8 t) ∨ (f.code ≠ 0 ∧ ¬ j8 t)) := by
 unfold s4 M9
 simp only [in_eq, at_eq, oB, n5]
 by_cases c1 : 0 ≤ t.facts ∧ t.facts ≤ 24
 ·rw [if_neg (by simp; omega), ifNN c1]
  simp only [ac9, rIsSet_eq (n := t.facts) _ (by omega) (by omega), oB, n5]
  by_cases c2 : SetN t.init t.facts
  ·rw [ifNN c2, ifNN c2]
   by_cases c3 : SetN t.goal t.facts
   ·rw [ifNN c3, ifNN c3]
    by_cases c4 : 40 < (t.operators.length : Int)
    ·rw [if_pos c4, if_pos c4]
     exact ⟨_, rfl, rfl, .inr ⟨by simp, fun h => by have := h.ops; omega⟩⟩
    ·rw [if_neg c4, if_neg c4]
     have hb : ∀ j : Int, 0 ≤ j → j < t.operators.length → ∃ o, ix t.operators j = some o ∧ C3 t j () = some (if J0 o t.facts = 0 then .inl () else .inr ⟨J0 o t.facts, j⟩) ∧ D0 t j () = some (if J0 o t.facts = 0 then .inl () else .inr ⟨J0 o t.facts, j⟩) := fun j h0 h1 => by
      obtain ⟨o, ho, _⟩ := j6 (l := t.operators) h0 h1
      refine ⟨o, ho, ?_, ?_⟩
      ·unfold C3
       rw [ho]
       simp only [oB, operator_eq c1.1 c1.2]
       by_cases e : J0 o t.facts = 0
       ·rw [if_pos e, if_pos e]
       ·rw [if_neg e, if_neg e]
      ·unfold D0
       rw [ho]
       simp only [oB, rIsSet_eq (n := t.facts) _ (show -9223372036854775808 < t.facts by omega) (show t.facts ≤ 9223372036854775807 by omega), disjoint_eq, in_eq, at_eq, n5]
       have hp : (if dec (¬ SetN o.pre t.facts) = true then some true else if dec (¬ SetN o.add t.facts) = true then some true else if dec (¬ SetN o.del t.facts) = true then some true else some (dec (¬ ∀ x ∈ o.add, x ∉ o.del))) = some (dec (¬ J1 o t.facts)) := by
        unfold J1
        by_cases g1 : SetN o.pre t.facts
        ·rw [if_neg (by simpa using g1)]
         by_cases g2 : SetN o.add t.facts
         ·rw [if_neg (by simpa using g2)]
          by_cases g3 : SetN o.del t.facts
          ·rw [if_neg (by simpa using g3)]
           exact congrArg some (M5 ⟨fun h g => h g.2.2.2, fun h g => h ⟨g1, g2, g3, g⟩⟩)
          ·rw [if_pos (by simpa using g3), j9 (fun g => g3 g.2.2.1)]
         ·rw [if_pos (by simpa using g2), j9 (fun g => g2 g.2.1)]
        ·rw [if_pos (by simpa using g1), j9 (fun g => g1 g.1)]
       rw [hp]
       simp only [oB]
       unfold J0
       by_cases g1 : J1 o t.facts
       ·rw [if_neg (by simpa using g1), if_pos (j9 g1)]
        by_cases g2 : Q7 o
        ·rw [ifP g2, ifNN (p := 0 ≤ o.cost ∧ o.cost ≤ 100) g2]; rfl
        ·rw [ifN g2, ifP (p := ¬ (0 ≤ o.cost ∧ o.cost ≤ 100)) g2]; rfl
       ·rw [if_pos (j9 g1), if_neg (fun h => g1 (i5.1 h))]; rfl
     have heq : rngX 0 (t.operators.length : Int) (C3 t) () = rngX 0 (t.operators.length : Int) (D0 t) () :=
      (rngX_eq (fun _ _ => True) (by omega) trivial (fun j s h0 h1 _ => by
       obtain ⟨o, _, e1, e2⟩ := hb j h0 h1
       exact ⟨by rw [e1, e2], by rw [e1]; simp, fun _ _ => trivial⟩)).1
     rcases D5 (body := D0 t) (n := (t.operators.length : Int)) (fun j => match ix t.operators j with | some o => if J0 o t.facts = 0 then none else some (⟨J0 o t.facts, j⟩ : TFault) | none => none) (by omega) (fun j h0 h1 _ => by
      obtain ⟨o, e0, _, e2⟩ := hb j h0 h1
      rw [e2, e0]
      dsimp only
      split <;> rfl) with ⟨h1, h2⟩ | ⟨j, f, h0, h1, h2, _, h4⟩
     ·rw [heq, h1]
      refine ⟨⟨0, 0⟩, rfl, rfl, .inl ⟨rfl, c1.1, c1.2, c2, c3, by omega, fun o ho => ?_⟩⟩
      obtain ⟨j, g0, g1, g2⟩ := G6 ho
      have := h2 j g0 g1
      rw [g2] at this
      dsimp only at this
      split at this
      ·rename_i e; exact opCode_zero.1 e
      ·cases this
     ·rw [heq, h4]
      obtain ⟨o, e0, _, _⟩ := hb j h0 h1
      rw [e0] at h2
      dsimp only at h2
      split at h2
      ·cases h2
      ·rename_i e
       cases h2
       exact ⟨_, rfl, rfl, .inr ⟨e, fun h => e (opCode_zero.2 (h.op o (s5 e0)))⟩⟩
   ·rw [ifP c3, ifP c3]
    exact ⟨_, rfl, rfl, .inr ⟨by simp, fun h => c3 h.goal⟩⟩
  ·rw [ifP c2, ifP c2]
   exact ⟨_, rfl, rfl, .inr ⟨by simp, fun h => c2 h.init⟩⟩
 ·rw [if_pos (by simp; omega), if_pos (j9 c1)]
  exact ⟨_, rfl, rfl, .inr ⟨by simp, fun h => c1 ⟨h.n0, h.n1⟩⟩⟩
theorem fault_no {f : TFault} (h : f.code ≠ 0) : (!((decide (f.code = 0)) && (decide (f.index = 0)))) = true := by simp [h]
theorem rSteps_eq {n : Int} (h0 : 0 ≤ n) (h1 : n ≤ 9223372036854775807) (plan : List Int) : ∃ f, C8 n plan = some f ∧ ((f = ⟨0, 0⟩ ∧ plan.length ≤ 60 ∧ ∀ x ∈ plan, 0 ≤ x ∧ x < n) ∨ (f.code ≠ 0 ∧ ¬ (plan.length ≤ 60 ∧ ∀ x ∈ plan, 0 ≤ x ∧ x < n))) := by
 unfold C8
 by_cases c : 60 < (plan.length : Int)
 ·rw [if_pos c]
  exact ⟨⟨2, -5⟩, rfl, .inr ⟨by simp, fun h => by omega⟩⟩
 ·rw [if_neg c]
  rw [X9 (l := plan) (fun x => 0 ≤ x ∧ x < n) (⟨3, -6⟩ : TFault) (fun j a h => by
   unfold M8
   rw [h]
   simp only [oB, in_eq, at_eq, m9 (n := n - 1) (by omega) (by omega), n5]
   by_cases g : 0 ≤ a ∧ a < n
   ·rw [if_neg (by simp; omega)]; exact .inl ⟨g, rfl⟩
   ·rw [if_pos (by rw [i5]; omega)]; exact .inr ⟨g, rfl⟩)]
  by_cases g : ∀ x ∈ plan, 0 ≤ x ∧ x < n
  ·rw [if_pos (j9 g)]
   exact ⟨_, rfl, .inl ⟨rfl, by omega, g⟩⟩
  ·rw [if_neg (fun h => g (i5.1 h))]
   exact ⟨_, rfl, .inr ⟨by simp, fun h => g h.2⟩⟩
theorem steps_eq {n : Int} (h0 : 0 ≤ n) (h1 : n ≤ 9223372036854775807) (plan : List Int) : ∃ f, M3 n plan = some f ∧ C8 n plan = some f ∧ ((f = ⟨0, 0⟩ ∧ plan.length ≤ 60 ∧ ∀ x ∈ plan, 0 ≤ x ∧ x < n) ∨ (f.code ≠ 0 ∧ ¬ (plan.length ≤ 60 ∧ ∀ x ∈ plan, 0 ≤ x ∧ x < n))) := by
 unfold M3 C8
 by_cases c : 60 < (plan.length : Int)
 ·rw [if_pos c, if_pos c]
  exact ⟨⟨2, -5⟩, rfl, rfl, .inr ⟨by simp, fun h => by omega⟩⟩
 ·rw [if_neg c, if_neg c]
  rw [X9 (l := plan) (fun x => 0 ≤ x ∧ x < n) (⟨3, -6⟩ : TFault) (fun j a h => by
   unfold R1
   rw [h]
   simp only [oB]
   by_cases g : 0 ≤ a ∧ a < n
   ·rw [if_neg (by simp; omega)]; exact .inl ⟨g, rfl⟩
   ·rw [if_pos (by simp; omega)]; exact .inr ⟨g, rfl⟩)]
  rw [X9 (l := plan) (fun x => 0 ≤ x ∧ x < n) (⟨3, -6⟩ : TFault) (fun j a h => by
   unfold M8
   rw [h]
   simp only [oB, in_eq, at_eq, m9 (n := n - 1) (by omega) (by omega), n5]
   by_cases g : 0 ≤ a ∧ a < n
   ·rw [if_neg (by simp; omega)]; exact .inl ⟨g, rfl⟩
   ·rw [if_pos (by rw [i5]; omega)]; exact .inr ⟨g, rfl⟩)]
  by_cases g : ∀ x ∈ plan, 0 ≤ x ∧ x < n
  ·rw [if_pos (j9 g)]
   exact ⟨_, rfl, rfl, .inl ⟨rfl, by omega, g⟩⟩
  ·rw [if_neg (fun h => g (i5.1 h))]
   exact ⟨_, rfl, rfl, .inr ⟨by simp, fun h => g h.2⟩⟩
theorem ae3 (t : e8) (plan : List Int) : ∃ f, B4 t plan = some f ∧ S7 t plan = some f ∧ ((f = ⟨0, 0⟩ ∧ j8 t ∧ V2 t plan) ∨ (f.code ≠ 0 ∧ ¬ (j8 t ∧ V2 t plan))) := by
 obtain ⟨f, h1, h2, h3⟩ := validate_eq t
 unfold B4 S7
 rw [h1, h2]
 simp only [oB]
 rcases h3 with ⟨rfl, ht⟩ | ⟨hc, ht⟩
 ·obtain ⟨g, g1, g2, g3⟩ := steps_eq (n := (t.operators.length : Int)) (by omega) (by have := ht.ops; omega) plan
  rw [if_neg (by simp), if_pos rfl, g1, g2]
  refine ⟨g, rfl, rfl, ?_⟩
  rcases g3 with ⟨e, k⟩ | ⟨e, k⟩
  ·exact .inl ⟨e, ht, k⟩
  ·exact .inr ⟨e, fun h => k h.2⟩
 ·rw [if_pos (fault_no hc), if_neg hc]
  exact ⟨f, rfl, rfl, .inr ⟨hc, fun h => ht h.1⟩⟩
/-! ### What operators and plans do -/
def noOp : g9 := ⟨[], [], [], 0⟩
def opAt (t : e8) (op : Int) : g9 := (t.operators[op.toNat]?).getD noOp
theorem ix_op {t : e8} {op : Int} (h0 : 0 ≤ op) (h1 : op < t.operators.length) : ix t.operators op = some (opAt t op) := by
 obtain ⟨a, h2, h3⟩ := j6 h0 h1
 rw [h2, opAt, h3]; rfl
theorem j8.at {t : e8} (h : j8 t) {op : Int} (h0 : 0 ≤ op) (h1 : op < t.operators.length) : J1 (opAt t op) t.facts ∧ Q7 (opAt t op) := h.op _ (s5 (ix_op h0 h1))
def can (t : e8) (s : List Int) (op : Int) : Prop := ∀ x ∈ (opAt t op).pre, x ∈ s
noncomputable def aft (t : e8) (s : List Int) (op : Int) : List Int := A9 (fun x => x ∈ (opAt t op).add ∨ x ∈ s ∧ x ∉ (opAt t op).del) t.facts
theorem ac7 (t : e8) (s : List Int) (op : Int) : SetN (aft t s op) t.facts := ac4 _ _
theorem can_eq {t : e8} (ht : j8 t) {op : Int} (h0 : 0 ≤ op) (h1 : op < t.operators.length) {s : List Int} (hs : SetN s t.facts) : N3 t s op = some (dec (can t s op)) := by
 have := ht.n1; have := hs.len
 unfold N3
 rw [ix_op h0 h1]
 simp only [oB]
 rw [U3 hs.1 (ht.at h0 h1).1.1.1 (by omega)]
 rfl
theorem next_eq {t : e8} (ht : j8 t) {op : Int} (h0 : 0 ≤ op) (h1 : op < t.operators.length) {s : List Int} (hs : SetN s t.facts) : H0 t s op = some (aft t s op) := by
 have := ht.n1
 obtain ⟨⟨_, k2, k3, _⟩, _⟩ := ht.at h0 h1
 have hl := k3.len
 unfold H0
 rw [ix_op h0 h1]
 simp only [oB]
 rw [update_eq (n := t.facts) (by omega) k3.1 (by omega) hs k2]
 simp only [oB, aft]
 exact congrArg some (setOf_congr fun x _ _ => Or.comm)
noncomputable def ends (t : e8) : List Int → List Int → Option (List Int)
 | s, [] => some s
 | s, op :: r => if dec (can t s op) = true then ends t (aft t s op) r else none
theorem ends_setN {t : e8} : ∀ {plan s e : List Int}, SetN s t.facts → ends t s plan = some e → SetN e t.facts
 | [], s, e, hs, h => by cases h; exact hs
 | op :: r, s, e, hs, h => by
  simp only [ends] at h
  split at h
  ·exact ends_setN (ac7 t s op) h
  ·cases h
theorem ends_append {t : e8} : ∀ {p q s : List Int}, ends t s (p ++ q) = (ends t s p).bind fun e => ends t e q
 | [], q, s => rfl
 | op :: r, q, s => by
  simp only [List.cons_append, ends]
  split
  ·exact ends_append
  ·rfl
def works (t : e8) (s plan : List Int) : Prop := ∃ e, ends t s plan = some e ∧ ∀ x ∈ t.goal, x ∈ e
theorem clone_eq {s : List Int} (h : s.length ≤ 1000000) : z8 s = some s := by
 rw [z8, app, if_pos (by simp; omega)]; rfl
noncomputable def run (t : e8) : List Int → List Int → List (List Int)
 | s, [] => [s]
 | s, op :: r => s :: if dec (can t s op) = true then run t (aft t s op) r else []
theorem run_ends {t : e8} : ∀ {plan s : List Int}, (ends t s plan = none → (run t s plan).length ≠ plan.length + 1) ∧ ∀ e, ends t s plan = some e → (run t s plan).length = plan.length + 1 ∧ (run t s plan)[plan.length]? = some e
 | [], s => ⟨fun h => by simp [ends] at h, fun e h => by cases h; simp [run]⟩
 | op :: r, s => by
  obtain ⟨h1, h2⟩ := run_ends (t := t) (plan := r) (s := aft t s op)
  simp only [ends, run, List.length_cons]
  by_cases c : can t s op
  ·rw [ifP c, ifP c]
   exact ⟨fun h => by have := h1 h; omega, fun e h => by obtain ⟨g1, g2⟩ := h2 e h; exact ⟨by omega, by simpa using g2⟩⟩
  ·rw [ifN c, ifN c]
   exact ⟨fun _ => by simp, fun e h => by cases h⟩
theorem run_eq {t : e8} (ht : j8 t) {plan : List Int} (hp : V2 t plan) {s : List Int} (hs : SetN s t.facts) : R5 t s plan = some (run t s plan) := by
 have hl := hp.1
 have hsl := hs.len
 have hn := ht.n1
 unfold R5
 rw [clone_eq (by omega)]
 simp only [oB]
 obtain ⟨o, h1, h2⟩ := P3 (body := O8 t plan) (fun p => 0 ≤ p.2.2 ∧ p.2.2 ≤ plan.length ∧ SetN p.2.1 t.facts ∧ p.1.length = p.2.2.toNat + 1 ∧ ∃ pre, p.1 = pre ++ [p.2.1] ∧ run t s plan = pre ++ run t p.2.1 (plan.drop p.2.2.toNat))
  (fun o => o = run t s plan) (fun p => (plan.length - p.2.2).toNat) (s := ([s], s, 0)) ⟨by simp, by simp, hs, by simp, [], rfl, by simp⟩ (fun ⟨c, s', j⟩ ⟨g0, g1, g2, g3, pre, g4, g5⟩ => by
   dsimp only at g0 g1 g2 g3 g4 g5 ⊢
   unfold O8
   dsimp only
   by_cases cj : j < plan.length
   ·obtain ⟨op, hop, gop⟩ := j6 (l := plan) g0 cj
    have hm := hp.2 op (s5 hop)
    have hd : plan.drop j.toNat = op :: plan.drop (j.toNat + 1) := by
     obtain ⟨hlt, rfl⟩ := List.getElem?_eq_some_iff.1 gop
     exact List.drop_eq_getElem_cons hlt
    rw [hd] at g5
    rw [if_pos cj, hop]
    simp only [oB, can_eq ht hm.1 hm.2 g2, n5, next_eq ht hm.1 hm.2 g2]
    by_cases cc : can t s' op
    ·rw [ifNN cc, app, if_pos (by simp; omega)]
     simp only [oB]
     rw [m9 (by omega) (by omega)]
     refine .inl ⟨_, rfl, ⟨by dsimp only; omega, by dsimp only; omega, ac7 _ _ _, by simp; omega, c, rfl, ?_⟩, by dsimp only; omega⟩
     dsimp only
     rw [g5, run, ifP cc, g4, show (j + 1).toNat = j.toNat + 1 by omega]
     simp
    ·rw [ifP cc]
     refine .inr ⟨_, rfl, ?_⟩
     rw [g5, run, ifN cc, g4]
   ·rw [if_neg cj]
    refine .inr ⟨_, rfl, ?_⟩
    rw [g5, List.drop_of_length_le (by omega), run, g4])
 rw [h1, h2]; rfl
theorem sWorks_eq {t : e8} (ht : j8 t) {plan : List Int} (hp : V2 t plan) {s : List Int} (hs : SetN s t.facts) : M0 t s plan = some (dec (works t s plan)) := by
 have hl := hp.1
 have hn := ht.n1
 unfold M0
 rw [run_eq ht hp hs, m9 (by omega) (by omega)]
 simp only [oB]
 obtain ⟨h1, h2⟩ := run_ends (t := t) (plan := plan) (s := s)
 cases h : ends t s plan with
 | none =>
  rw [if_neg (by have := h1 h; omega)]
  simp only [oB]
  rw [o7]
  rintro ⟨e, g, _⟩
  rw [h] at g; cases g
 | some e =>
  obtain ⟨g1, g2⟩ := h2 e h
  have he := ends_setN hs h
  have hel := he.len
  rw [if_pos (by omega)]
  simp only [F0, g2, oB]
  rw [U3 he.1 ht.goal.1 (by omega)]
  simp only [oB]
  exact congrArg some (M5 ⟨fun g => ⟨e, h, g⟩, fun ⟨e', k1, k2⟩ => by rw [h] at k1; cases k1; exact k2⟩)
theorem solves_eq (t : e8) (plan : List Int) : ∃ b f, J7 t plan = some (b, f) ∧ S7 t plan = some f ∧ ((f = ⟨0, 0⟩ ∧ j8 t ∧ V2 t plan ∧ b = dec (works t t.init plan)) ∨ (f.code ≠ 0 ∧ ¬ (j8 t ∧ V2 t plan) ∧ b = false)) := by
 obtain ⟨f, h1, h2, h3⟩ := ae3 t plan
 unfold J7
 rw [h1, h2]
 simp only [oB]
 rcases h3 with ⟨rfl, ht, hp⟩ | ⟨hc, hn⟩
 ·rw [if_neg (by simp), sWorks_eq ht hp ht.init]
  exact ⟨_, _, rfl, rfl, .inl ⟨rfl, ht, hp, rfl⟩⟩
 ·rw [if_pos (fault_no hc)]
  exact ⟨_, _, rfl, rfl, .inr ⟨hc, hn, rfl⟩⟩
end Ab
end
section
namespace Ab
open Go
/-! ### States as' numbers -/
def wsN : List Int → Nat
 | [] => 0
 | a :: l => 2 ^ a.toNat + wsN l
theorem wsN_dvd {k : Nat} : ∀ {l : List Int}, (∀ x ∈ l, k ≤ x.toNat) → 2 ^ k ∣ wsN l
 | [], _ => ⟨0, rfl⟩
 | a :: l, h => Nat.dvd_add (Nat.pow_dvd_pow 2 (h a (by simp))) (wsN_dvd fun x hx => h x (List.mem_cons_of_mem _ hx))
end Ab
end
section
namespace Ab
open Go
def dg (x : Int) : List Int := if x < 10 then [48 + x] else [48 + x / 10, 48 + x % 10]
def encS (s : List Int) : List Int := s.flatMap (fun x => dg x ++ [44]) ++ [59]
def encK (l : List (List Int)) : List Int := l.flatMap encS
def K4 (s : List Int) : Prop := ∀ x ∈ s, 0 ≤ x ∧ x < 100
theorem dg_split {x y : Int} (hx : 0 ≤ x ∧ x < 100) (hy : 0 ≤ y ∧ y < 100) {r r' : List Int} (h : dg x ++ 44 :: r = dg y ++ 44 :: r') : x = y ∧ r = r' := by
 unfold dg at h
 split at h <;> split at h <;> simp only [List.cons_append, List.nil_append, List.cons.injEq] at h
 ·exact ⟨by omega, h.2.2⟩
 ·exfalso; omega
 ·exfalso; omega
 ·exact ⟨by omega, h.2.2.2⟩
theorem dg_head {x : Int} (hx : 0 ≤ x ∧ x < 100) : ∃ a l, dg x = a :: l ∧ 48 ≤ a ∧ a < 58 := by
 unfold dg
 split
 ·exact ⟨_, _, rfl, by omega, by omega⟩
 ·exact ⟨_, _, rfl, by omega, by omega⟩
theorem U9 (x : Int) (s : List Int) : encS (x :: s) = dg x ++ 44 :: encS s := by simp [encS]
theorem encS_inj : ∀ {s s' r r' : List Int}, K4 s → K4 s' → encS s ++ r = encS s' ++ r' → s = s' ∧ r = r'
 | [], [], r, r', _, _, h => by simp [encS] at h; exact ⟨rfl, h⟩
 | [], y :: s', r, r', _, h2, h => by
  obtain ⟨a, l, ha, h3, h4⟩ := dg_head (h2 y (by simp))
  rw [U9, ha] at h
  simp only [encS, List.flatMap_nil, List.nil_append, List.cons_append, List.cons.injEq] at h
  omega
 | x :: s, [], r, r', h1, _, h => by
  obtain ⟨a, l, ha, h3, h4⟩ := dg_head (h1 x (by simp))
  rw [U9, ha] at h
  simp only [encS, List.flatMap_nil, List.nil_append, List.cons_append, List.cons.injEq] at h
  omega
 | x :: s, y :: s', r, r', h1, h2, h => by
  rw [U9, U9, List.append_assoc, List.append_assoc, List.cons_append, List.cons_append] at h
  obtain ⟨rfl, g⟩ := dg_split (h1 x (by simp)) (h2 y (by simp)) h
  obtain ⟨e1, e2⟩ := encS_inj (s := s) (s' := s') (fun z hz => h1 z (List.mem_cons_of_mem _ hz)) (fun z hz => h2 z (List.mem_cons_of_mem _ hz)) g
  exact ⟨by rw [e1], e2⟩
theorem encK_inj : ∀ {l l' : List (List Int)}, (∀ s ∈ l, K4 s) → (∀ s ∈ l', K4 s) → encK l = encK l' → l = l'
 | [], [], _, _, _ => rfl
 | [], s :: l', _, _, h => by
  have h := congrArg List.length h
  simp only [encK, encS, List.flatMap_nil, List.flatMap_cons, List.length_append, List.length_nil, List.length_cons] at h
  omega
 | s :: l, [], _, _, h => by
  have h := congrArg List.length h
  simp only [encK, encS, List.flatMap_nil, List.flatMap_cons, List.length_append, List.length_nil, List.length_cons] at h
  omega
 | s :: l, s' :: l', h1, h2, h => by
  have h : encS s ++ encK l = encS s' ++ encK l' := h
  obtain ⟨e1, e2⟩ := encS_inj (h1 s (List.mem_cons_self ..)) (h2 s' (List.mem_cons_self ..)) h
  have e3 := encK_inj (l := l) (l' := l') (fun z hz => h1 z (List.mem_cons_of_mem _ hz)) (fun z hz => h2 z (List.mem_cons_of_mem _ hz)) e2
  rw [e1, e3]
theorem dg_byte {x : Int} (hx : 0 ≤ x ∧ x < 100) : ∀ a ∈ dg x, 0 ≤ a ∧ a < 256 := by
 intro a ha
 unfold dg at ha
 split at ha <;> simp at ha <;> omega
theorem encS_byte {s : List Int} (h : K4 s) : ∀ a ∈ encS s, 0 ≤ a ∧ a < 256 := by
 intro a ha
 simp only [encS, List.mem_append, List.mem_flatMap, List.mem_singleton] at ha
 rcases ha with ⟨x, hx, h1 | h1⟩ | h1
 ·exact dg_byte (h x hx) a h1
 ·omega
 ·omega
theorem encK_byte {l : List (List Int)} (h : ∀ s ∈ l, K4 s) : ∀ a ∈ encK l, 0 ≤ a ∧ a < 256 := by
 intro a ha
 simp only [encK, List.mem_flatMap] at ha
 obtain ⟨s, hs, h1⟩ := ha
 exact encS_byte (h s hs) a h1
theorem strB_inj {l l' : List Int} (h1 : ∀ a ∈ l, 0 ≤ a ∧ a < 256) (h2 : ∀ a ∈ l', 0 ≤ a ∧ a < 256) (h : strB l = strB l') : l = l' := by
 have h3 : l.map (fun n => UInt8.ofNat n.toNat) = l'.map (fun n => UInt8.ofNat n.toNat) := by
  have := congrArg ByteArray.data h
  simpa [strB] using this
 have back : ∀ {m : List Int}, (∀ a ∈ m, 0 ≤ a ∧ a < 256) → (m.map (fun n => UInt8.ofNat n.toNat)).map (fun b => (b.toNat : Int)) = m := by
  intro m hm
  rw [List.map_map]
  conv => rhs; rw [← List.map_id m]
  apply List.map_congr_left
  intro a ha
  have := hm a ha
  simp only [Function.comp_apply, id_eq, UInt8.toNat_ofNat']
  omega
 rw [← back h1, ← back h2, h3]
def keyK (l : List (List Int)) : ByteArray := strB (encK l)
theorem keyK_inj {l l' : List (List Int)} (h1 : ∀ s ∈ l, K4 s) (h2 : ∀ s ∈ l', K4 s) (h : keyK l = keyK l') : l = l' := encK_inj h1 h2 (strB_inj (encK_byte h1) (encK_byte h2) h)
/-! ### Maps -/
theorem V3 {K V : Type} [DecidableEq K] (k k' : K) (v : V) : ∀ m : List (K × V), mget (mset m k v) k' = if k' = k then some v else mget m k'
 | [] => by
  simp only [mset, mget]
 | p :: r => by
  simp only [mset]
  by_cases h : k = p.1
  ·rw [if_pos h]
   simp only [mget]
   by_cases h2 : k' = k
   ·rw [if_pos h2, if_pos h2]
   ·rw [if_neg h2, if_neg h2, if_neg (by rw [← h]; exact h2)]
  ·rw [if_neg h]
   simp only [mget]
   rw [V3 k k' v r]
   by_cases h2 : k' = p.1
   ·rw [if_pos h2, if_pos h2, if_neg (fun e => h (e.symm.trans h2))]
   ·rw [if_neg h2, if_neg h2]
end Ab
end
section
namespace Ab
open Go
theorem V1 {α : Type} [DecidableEq α] : ∀ {c S : List α}, c.Nodup → (∀ x ∈ c, x ∈ S) → c.length ≤ S.length
 | [], _, _, _ => Nat.zero_le _
 | a :: c, S, h, hs => by
  obtain ⟨h1, h2⟩ := List.nodup_cons.1 h
  have ha := hs a (by simp)
  have := V1 (c := c) (S := S.erase a) h2 fun x hx => by
   have hne : x ≠ a := fun e => h1 (e ▸ hx)
   exact (List.mem_erase_of_ne hne).2 (hs x (List.mem_cons_of_mem _ hx))
  rw [List.length_erase_of_mem ha] at this
  have : 0 < S.length := List.length_pos_of_mem ha
  simp only [List.length_cons]
  omega
section
variable {α : Type}
def Dn (G L : α → Prop) (nx : α → List α) : Nat → α → Prop
 | 0, s => G s
 | k + 1, s => G s ∨ (L s ∧ ∀ y ∈ nx s, Dn G L nx k y)
variable {G L : α → Prop} {nx : α → List α}
theorem Dn.goal {k : Nat} {s : α} (h : G s) : Dn G L nx k s := by
 cases k with
 | zero => exact h
 | succ k => exact .inl h
theorem Dn.succ : ∀ {k : Nat} {s : α}, Dn G L nx k s → Dn G L nx (k + 1) s
 | 0, s, h => .inl h
 | k + 1, s, h => by
  rcases h with h | ⟨h1, h2⟩
  ·exact .inl h
  ·exact .inr ⟨h1, fun y hy => (h2 y hy).succ⟩
theorem Dn.mono {k m : Nat} {s : α} (h : Dn G L nx k s) (hm : k ≤ m) : Dn G L nx m s := by
 induction hm with
 | refl => exact h
 | step _ ih => exact ih.succ
def Ht (G L : α → Prop) (nx : α → List α) (k : Nat) (s : α) : Prop := Dn G L nx k s ∧ ∀ j, j < k → ¬ Dn G L nx j s
theorem Ht.unique {k m : Nat} {s : α} (h : Ht G L nx k s) (h' : Ht G L nx m s) : k = m := by
 rcases Nat.lt_trichotomy k m with c | c | c
 ·exact absurd h.1 (h'.2 k c)
 ·exact c
 ·exact absurd h'.1 (h.2 m c)
theorem Ht.le {k m : Nat} {s : α} (h : Ht G L nx k s) (h' : Dn G L nx m s) : k ≤ m := by
 rcases Nat.lt_or_ge m k with c | c
 ·exact absurd h' (h.2 m c)
 ·exact c
theorem Ht.of_dn : ∀ {k : Nat} {s : α}, Dn G L nx k s → ∃ m, m ≤ k ∧ Ht G L nx m s
 | 0, s, h => ⟨0, Nat.le_refl _, h, fun j hj => by omega⟩
 | k + 1, s, h => by
  by_cases c : Dn G L nx k s
  ·obtain ⟨m, h1, h2⟩ := Ht.of_dn c
   exact ⟨m, by omega, h2⟩
  ·exact ⟨k + 1, Nat.le_refl _, h, fun j hj hd => c (hd.mono (by omega))⟩
theorem Ht.zero {s : α} (h : G s) : Ht G L nx 0 s := ⟨h, fun j hj => by omega⟩
theorem Ht.goal {k : Nat} {s : α} (h : Ht G L nx k s) (hg : G s) : k = 0 := h.unique (.zero hg)
theorem Ht.step {k : Nat} {s : α} (h : Ht G L nx k s) (hg : ¬ G s) (hne : ∀ s, L s → nx s ≠ []) : ∃ m, k = m + 1 ∧ L s ∧ (∀ y ∈ nx s, ∃ j, j ≤ m ∧ Ht G L nx j y) ∧ ∃ y ∈ nx s, Ht G L nx m y := by
 cases k with
 | zero => exact absurd h.1 hg
 | succ m =>
  rcases h.1 with g | ⟨h1, h2⟩
  ·exact absurd g hg
  ·refine ⟨m, rfl, h1, fun y hy => Ht.of_dn (h2 y hy), ?_⟩
   cases m with
   | zero =>
    obtain ⟨y, hy⟩ := List.exists_mem_of_ne_nil _ (hne s h1)
    exact ⟨y, hy, h2 y hy, fun j hj => by omega⟩
   | succ m =>
    have hn := h.2 (m + 1) (by omega)
    have : ∃ y ∈ nx s, ¬ Dn G L nx m y := Classical.byContradiction fun hc => hn (.inr ⟨h1, fun y hy => Classical.byContradiction fun hy2 => hc ⟨y, hy, hy2⟩⟩)
    obtain ⟨y, hy, hy2⟩ := this
    exact ⟨y, hy, h2 y hy, fun j hj hd => hy2 (hd.mono (by omega))⟩
end
end Ab
end
section
namespace Ab
open Go
/-! ### Maps -/
section
variable {K V : Type} [DecidableEq K]
theorem mset_new {k : K} {v : V} : ∀ {m : List (K × V)}, mget m k = none → mset m k v = m ++ [(k, v)]
 | [], _ => rfl
 | p :: r, h => by
  simp only [mget] at h
  split at h
  ·cases h
  ·rename_i hne
   simp only [mset, if_neg hne, mset_new h, List.cons_append]
theorem mget_none {k : K} : ∀ {m : List (K × V)}, mget m k = none → k ∉ m.map (·.1)
 | [], _ => by simp
 | p :: r, h => by
  simp only [mget] at h
  split at h
  ·cases h
  ·rename_i hne
   have := mget_none h
   simp only [List.map_cons, List.mem_cons, not_or]
   exact ⟨hne, this⟩
end
theorem ix_neg {α : Type} {l : List α} {i : Int} (h : i < 0) : ix l i = none := by
 unfold ix; rw [if_neg (by omega)]
theorem ix_snoc {α : Type} {l : List α} {x : α} {i : Int} : ix (l ++ [x]) i = if i = l.length then some x else ix l i := by
 by_cases h0 : 0 ≤ i
 ·obtain ⟨k, rfl⟩ := Int.eq_ofNat_of_zero_le h0
  rw [F0, F0]
  by_cases e : k = l.length
  ·subst e; simp
  ·rw [if_neg (by omega)]
   rcases Nat.lt_or_ge k l.length with h | h
   ·rw [List.getElem?_append_left h]
   ·rw [List.getElem?_eq_none (by simp; omega), List.getElem?_eq_none h]
 ·rw [ix_neg (by omega), ix_neg (by omega), if_neg (by omega)]
end Ab
end
section
namespace Ab
open Go
theorem numbers_eq (a b : List Int) : J6 a b = some (dec (a = b)) := by
 unfold J6
 by_cases hl : (a.length : Int) = b.length
 ·rw [if_pos hl]
  rcases D5 (body := I8 a b) (n := (a.length : Int)) (fun j => if dec (ix a j = ix b j) = true then none else some false) (by omega) (fun j h0 h1 _ => by
   obtain ⟨x, hx, _⟩ := j6 (l := a) h0 h1
   obtain ⟨y, hy, _⟩ := j6 (l := b) (i := j) h0 (by omega)
   unfold I8
   rw [hx, hy]
   simp only [oB]
   by_cases e : x = y
   ·rw [if_pos e, ifP (by rw [e])]
   ·rw [if_neg e, ifN (by simpa using e)]) with ⟨h1, h2⟩ | ⟨j, o, h0, h1, h2, _, h4⟩
  ·rw [h1, j9]
   ·rfl
   ·refine List.ext_getElem? fun k => ?_
    by_cases hk : k < a.length
    ·have := h2 k (by omega) (by omega)
     split at this
     ·rename_i e
      have := i5.1 e
      rwa [F0, F0] at this
     ·cases this
    ·rw [List.getElem?_eq_none (by omega), List.getElem?_eq_none (by omega)]
  ·rw [h4]
   split at h2
   ·cases h2
   ·rename_i e
    cases h2
    rw [o7 (fun h => e (j9 (by rw [h])))]; rfl
 ·rw [if_neg hl, o7 (fun h => hl (by rw [h]))]
theorem setN1 (a : Int) {n : Int} (h0 : 0 ≤ a) (h1 : a < n) : SetN [a] n := ⟨by simp, by simp [h0, h1]⟩
def l9 : e8 := ⟨2, [0], [1], [⟨[0], [1], [0], 1⟩, ⟨[], [1], [], 3⟩]⟩
theorem step_ok : j8 l9 where
 n0 := by decide
 n1 := by decide
 init := setN1 0 (by decide) (by decide)
 goal := setN1 1 (by decide) (by decide)
 ops := by decide
 op o ho := by
  simp only [l9, List.mem_cons, List.not_mem_nil, or_false] at ho
  rcases ho with rfl | rfl
  ·exact ⟨⟨setN1 0 (by decide) (by decide), setN1 1 (by decide) (by decide), setN1 0 (by decide) (by decide), by simp⟩, by decide, by decide⟩
  ·exact ⟨⟨setN_nil _, setN1 1 (by decide) (by decide), setN_nil _, by simp⟩, by decide, by decide⟩
end Ab
end
section
namespace Ab
open Go
def llt : List Int → List Int → Prop
 | [], [] => False
 | [], _ :: _ => True
 | _ :: _, [] => False
 | a :: l, b :: m => a < b ∨ a = b ∧ llt l m
theorem N1 : ∀ l : List Int, ¬ llt l l
 | [] => id
 | a :: l => fun h => by
  rcases h with h | ⟨_, h⟩
  ·omega
  ·exact N1 l h
theorem Q5 : ∀ {a b c : List Int}, llt a b → llt b c → llt a c
 | [], [], _, h, _ => h.elim
 | [], _ :: _, [], _, h => h.elim
 | [], _ :: _, _ :: _, _, _ => trivial
 | _ :: _, [], _, h, _ => h.elim
 | _ :: _, _ :: _, [], _, h => h.elim
 | x :: a, y :: b, z :: c, h, g => by
  rcases h with h | ⟨rfl, h⟩ <;> rcases g with g | ⟨rfl, g⟩
  ·exact .inl (by omega)
  ·exact .inl h
  ·exact .inl g
  ·exact .inr ⟨rfl, Q5 h g⟩
theorem Q3 : ∀ a b : List Int, llt a b ∨ a = b ∨ llt b a
 | [], [] => .inr (.inl rfl)
 | [], _ :: _ => .inl trivial
 | _ :: _, [] => .inr (.inr trivial)
 | x :: a, y :: b => by
  rcases Int.lt_trichotomy x y with h | rfl | h
  ·exact .inl (.inl h)
  ·rcases Q3 a b with h | rfl | h
   ·exact .inl (.inr ⟨rfl, h⟩)
   ·exact .inr (.inl rfl)
   ·exact .inr (.inr (.inr ⟨rfl, h⟩))
  ·exact .inr (.inr (.inl h))
theorem llt_asymm {a b : List Int} (h : llt a b) (g : llt b a) : False := N1 a (Q5 h g)
noncomputable def cmpL (a b : List Int) : Int := if dec (llt a b) = true then -1 else if dec (a = b) = true then 0 else 1
theorem T9 {a b : List Int} : cmpL a b < 0 ↔ llt a b := by
 unfold cmpL
 by_cases h : llt a b
 ·rw [ifP h]; simp [h]
 ·rw [ifN h]
  split <;> simp [h]
theorem cmpL_eq {a b : List Int} : cmpL a b = 0 ↔ a = b := by
 unfold cmpL
 by_cases h : llt a b
 ·rw [ifP h]
  constructor
  ·intro e; omega
  ·rintro rfl; exact absurd h (N1 _)
 ·rw [ifN h]
  by_cases g : a = b
  ·rw [ifP g]; simp [g]
  ·rw [ifN g]; simp [g]
theorem cmpInt_eq (x y : Int) : F6 x y = some (if x < y then -1 else if y < x then 1 else 0) := by
 unfold F6 A6
 simp only [decide_true, Bool.not_true, oB, Bool.false_eq_true, if_false]
 split
 ·rfl
 ·split <;> rfl
theorem llt_drop : ∀ {a b : List Int} (k : Nat), k ≤ a.length → k ≤ b.length → a.take k = b.take k → (llt a b ↔ llt (a.drop k) (b.drop k))
 | _, _, 0, _, _, _ => by simp
 | [], _, k + 1, h, _, _ => by simp at h
 | _ :: _, [], k + 1, _, h, _ => by simp at h
 | x :: a, y :: b, k + 1, h1, h2, h3 => by
  simp only [List.take_succ_cons, List.cons.injEq] at h3
  obtain ⟨rfl, h3⟩ := h3
  simp only [List.drop_succ_cons]
  rw [← llt_drop k (by simpa using h1) (by simpa using h2) h3]
  simp [llt]
theorem compare_eq (a b : List Int) : p8 a b = some (cmpL a b) := by
 unfold p8
 rcases ad1 (body := y9 a b) (n := (a.length : Int)) (s := ()) (fun j _ => j ≤ b.length ∧ a.take j.toNat = b.take j.toNat) (fun o => o = cmpL a b) (by omega) ⟨by omega, by simp⟩ (fun j _ j0 j1 ⟨k1, k2⟩ => by
  obtain ⟨x, hx, gx⟩ := j6 (l := a) j0 j1
  have hxl := (List.getElem?_eq_some_iff.1 gx).2
  unfold y9
  rw [hx]
  simp only [oB]
  have hd := llt_drop (a := a) (b := b) j.toNat (by omega) (by omega) k2
  have da : a.drop j.toNat = x :: a.drop (j.toNat + 1) := by rw [← hxl]; exact List.drop_eq_getElem_cons (by omega)
  by_cases c : (b.length : Int) ≤ j
  ·rw [if_pos c]
   refine .inr ⟨_, rfl, ?_⟩
   have db : b.drop j.toNat = [] := List.drop_of_length_le (by omega)
   rw [da, db] at hd
   unfold cmpL
   rw [ifN (fun h => (hd.1 h).elim), ifN]
   rintro rfl; omega
  ·rw [if_neg c]
   obtain ⟨y, hy, gy⟩ := j6 (l := b) (i := j) j0 (by omega)
   have hyl := (List.getElem?_eq_some_iff.1 gy).2
   have db : b.drop j.toNat = y :: b.drop (j.toNat + 1) := by rw [← hyl]; exact List.drop_eq_getElem_cons (by omega)
   rw [hy]
   simp only [oB, cmpInt_eq]
   rw [da, db] at hd
   have hne : x ≠ y → a ≠ b := fun h e => by subst e; rw [hx] at hy; cases hy; exact h rfl
   rcases Int.lt_trichotomy x y with h | rfl | h
   ·rw [if_pos h, if_neg (by decide)]
    refine .inr ⟨_, rfl, ?_⟩
    unfold cmpL
    rw [ifP (hd.2 (.inl h))]
   ·simp only [Int.lt_irrefl, if_false, if_true]
    refine .inl ⟨(), trivial, by omega, ?_⟩
    rw [show (j + 1).toNat = j.toNat + 1 by omega, List.take_add_one, List.take_add_one, gx, gy, k2]
   ·rw [if_neg (show ¬ x < y by omega), if_pos h, if_neg (by decide)]
    refine .inr ⟨_, rfl, ?_⟩
    unfold cmpL
    rw [ifN, ifN (hne (by omega))]
    intro g
    rcases hd.1 g with g | ⟨g, _⟩ <;> omega) with ⟨_, r1, r2, r3⟩ | ⟨o, r1, rfl⟩
 ·rw [r1]
  simp only [oB]
  have hd := llt_drop (a := a) (b := b) a.length (Nat.le_refl _) (by omega) (by simpa using r3)
  have da : a.drop a.length = [] := by simp
  rw [da] at hd
  have e3 : a = b.take a.length := by simpa using r3
  by_cases c : (a.length : Int) < b.length
  ·rw [if_pos c]
   have : b.drop a.length ≠ [] := by simp; omega
   unfold cmpL
   rw [ifP]
   rw [hd]
   cases h : b.drop a.length with
   | nil => exact absurd h this
   | cons x l => trivial
  ·rw [if_neg c]
   have : a = b := by rw [e3, List.take_of_length_le (by omega)]
   rw [cmpL_eq.2 this]
 ·rw [r1]; rfl
theorem cmp_ok : CmpOk p8 cmpL := by
 refine ⟨compare_eq, ⟨fun x => ?_, fun x y z h1 h2 => ?_, fun x y z h1 h2 => ?_⟩, fun a b h1 h2 => ?_⟩
 ·simp only [Go.Proofs.ltOf, decide_eq_false_iff_not, T9]
  exact N1 x
 ·simp only [Go.Proofs.ltOf, decide_eq_true_eq, T9] at h1 h2 ⊢
  exact Q5 h1 h2
 ·simp only [Go.Proofs.ltOf, decide_eq_false_iff_not, T9] at h1 h2 ⊢
  intro h
  rcases Q3 x y with g | rfl | g
  ·exact h1 g
  ·exact h2 h
  ·exact h2 (Q5 g h)
 ·rw [T9] at h1 h2
  rcases Q3 a b with g | g | g
  ·exact absurd g h1
  ·exact g
  ·exact absurd g h2
/-! ### Lists compared -/
theorem listEq {α : Type} {a b : List α} {body : Int → Unit → Option (Unit ⊕ Bool)} (hl : a.length = b.length) (hb : ∀ j x y, ix a j = some x → ix b j = some y → (x = y ∧ body j () = some (.inl ())) ∨ (x ≠ y ∧ body j () = some (.inr false))) :
  (Option.bind (rngX 0 (a.length : Int) body ()) fun | .inl _ => some true | .inr x => some x) = some (dec (a = b)) := by
 rcases D5 (body := body) (n := (a.length : Int)) (fun j => if dec (ix a j = ix b j) = true then none else some false) (by omega) (fun j h0 h1 _ => by
  obtain ⟨x, hx, _⟩ := j6 (l := a) h0 h1
  obtain ⟨y, hy, _⟩ := j6 (l := b) (i := j) h0 (by omega)
  rcases hb j x y hx hy with ⟨e, h⟩ | ⟨e, h⟩
  ·rw [h, ifP (by rw [hx, hy, e])]
  ·rw [h, ifN (by rw [hx, hy]; simpa using e)]) with ⟨h1, h2⟩ | ⟨j, o, h0, h1, h2, _, h4⟩
 ·rw [h1, j9]
  ·rfl
  ·refine List.ext_getElem? fun k => ?_
   by_cases hk : k < a.length
   ·have := h2 k (by omega) (by omega)
    split at this
    ·rename_i e
     have := i5.1 e
     rwa [F0, F0] at this
    ·cases this
   ·rw [List.getElem?_eq_none (by omega), List.getElem?_eq_none (by omega)]
 ·rw [h4]
  split at h2
  ·cases h2
  ·rename_i e
   cases h2
   rw [o7 (fun h => e (j9 (by rw [h])))]; rfl
theorem twoInts_eq (a b : List (Int × Int)) : J4 a b = some (dec (a = b)) := by
 unfold J4
 by_cases hl : (a.length : Int) = b.length
 ·rw [if_pos hl]
  refine listEq (by omega) fun j x y hx hy => ?_
  unfold P8
  simp only [hx, hy, oB]
  by_cases e : x = y
  ·subst e
   rw [if_neg (by simp)]; exact .inl ⟨rfl, rfl⟩
  ·rw [if_pos]
   ·exact .inr ⟨e, rfl⟩
   ·obtain ⟨x1, x2⟩ := x
    obtain ⟨y1, y2⟩ := y
    simp only [Prod.mk.injEq, not_and] at e
    simp
    by_cases h : x1 = y1
    ·exact .inr (e h)
    ·exact .inl h
 ·rw [if_neg hl, o7 (fun h => hl (by rw [h]))]
theorem equal_eq (a b : List Int) : s9 a b = some (dec (a = b)) := by
 unfold s9
 by_cases hl : (a.length : Int) = b.length
 ·rw [if_pos hl]
  refine listEq (by omega) fun j x y hx hy => ?_
  unfold E6
  simp only [hx, hy, oB]
  by_cases e : x = y
  ·rw [if_pos e]; exact .inl ⟨e, rfl⟩
  ·rw [if_neg e]; exact .inr ⟨e, rfl⟩
 ·rw [if_neg hl, o7 (fun h => hl (by rw [h]))]
/-! ### Ordered lists -/
abbrev Ord (l : List (List Int)) : Prop := l.Pairwise llt
theorem Ord.ext : ∀ {l m : List (List Int)}, Ord l → Ord m → (∀ x, x ∈ l ↔ x ∈ m) → l = m
 | [], [], _, _, _ => rfl
 | [], b :: m, _, _, h => absurd ((h b).2 (by simp)) (by simp)
 | a :: l, [], _, _, h => absurd ((h a).1 (by simp)) (by simp)
 | a :: l, b :: m, hl, hm, h => by
  obtain ⟨l1, l2⟩ := List.pairwise_cons.1 hl
  obtain ⟨m1, m2⟩ := List.pairwise_cons.1 hm
  have hab : a = b := by
   rcases List.mem_cons.1 ((h a).1 (by simp)) with e | e
   ·exact e
   ·rcases List.mem_cons.1 ((h b).2 (by simp)) with e' | e'
    ·exact e'.symm
    ·exact (llt_asymm (l1 b e') (m1 a e)).elim
  subst hab
  rw [Ord.ext l2 m2 fun x => ⟨fun hx => ?_, fun hx => ?_⟩]
  ·rcases List.mem_cons.1 ((h x).1 (by simp [hx])) with e | e
   ·subst e; exact absurd (l1 x hx) (N1 x)
   ·exact e
  ·rcases List.mem_cons.1 ((h x).2 (by simp [hx])) with e | e
   ·subst e; exact absurd (m1 x hx) (N1 x)
   ·exact e
def ddN (l : List (List Int)) : Nat → List (List Int)
 | 0 => []
 | m + 1 => ddN l m ++ if decide (m = 0 ∨ l[m]? ≠ l[m - 1]?) = true then l[m]?.toList else []
theorem ddN_spec {l : List (List Int)} (hs : l.Pairwise fun a b => ¬ llt b a) : ∀ m, m ≤ l.length → Ord (ddN l m) ∧ ∀ x, x ∈ ddN l m ↔ x ∈ l.take m := by
 intro m
 induction m with
 | zero => intro _; simp [ddN]
 | succ m ih =>
  intro hm
  obtain ⟨h1, h2⟩ := ih (by omega)
  have hlt : m < l.length := by omega
  have ht : l.take (m + 1) = l.take m ++ [l[m]] := by rw [List.take_add_one]; simp [hlt]
  rw [ddN, ht]
  by_cases hk : m = 0 ∨ l[m]? ≠ l[m - 1]?
  ·rw [if_pos (by simpa using hk)]
   simp only [List.getElem?_eq_getElem hlt, Option.toList_some]
   refine ⟨List.pairwise_append.2 ⟨h1, by simp, fun a ha b hb => ?_⟩, fun x => by rw [List.mem_append, List.mem_append, h2]⟩
   simp only [List.mem_singleton] at hb
   subst hb
   have ha' := (h2 a).1 ha
   obtain ⟨i, hi, rfl⟩ := List.mem_iff_getElem.1 ha'
   rw [List.length_take] at hi
   rw [List.getElem_take]
   rcases hk with hk | hk
   ·omega
   ·have hm1 : m - 1 < l.length := by omega
    rw [List.getElem?_eq_getElem hlt, List.getElem?_eq_getElem hm1] at hk
    have e1 : ¬ llt l[m] l[m - 1] := List.pairwise_iff_getElem.1 hs (m - 1) m hm1 hlt (by omega)
    have e2 : llt l[m - 1] l[m] := by
     rcases Q3 l[m - 1] l[m] with h | h | h
     ·exact h
     ·exact absurd (by rw [h]) hk
     ·exact absurd h e1
    by_cases hi2 : i = m - 1
    ·subst hi2; exact e2
    ·have e3 : ¬ llt l[m - 1] l[i] := List.pairwise_iff_getElem.1 hs i (m - 1) (by omega) hm1 (by omega)
     rcases Q3 l[i] l[m] with h | h | h
     ·exact h
     ·rw [h] at e3; exact absurd e2 e3
     ·exact absurd (Q5 e2 h) e3
  ·rw [if_neg (by simpa using hk), List.append_nil]
   refine ⟨h1, fun x => ?_⟩
   rw [h2, List.mem_append]
   refine ⟨.inl, fun h => ?_⟩
   rcases h with h | h
   ·exact h
   ·simp only [List.mem_singleton] at h
    subst h
    have hm0 : m ≠ 0 := fun e => hk (.inl e)
    have he : l[m]? = l[m - 1]? := Classical.not_not.1 fun e => hk (.inr e)
    rw [List.getElem?_eq_getElem hlt, List.getElem?_eq_getElem (show m - 1 < l.length by omega)] at he
    rw [Option.some.inj he, List.mem_take_iff_getElem]
    exact ⟨m - 1, by omega, rfl⟩
theorem ddN_len (l : List (List Int)) : ∀ m, (ddN l m).length ≤ m
 | 0 => by simp [ddN]
 | m + 1 => by
  have := ddN_len l m
  rw [ddN, List.length_append]
  split
  ·have : (l[m]?.toList).length ≤ 1 := by cases l[m]? <;> simp
   omega
  ·simp; omega
theorem ddN_all {l : List (List Int)} : ∀ m, m ≤ l.length → (∀ i, 0 < i → i < m → l[i]? ≠ l[i - 1]?) → ddN l m = l.take m
 | 0, _, _ => by simp [ddN]
 | m + 1, hm, h => by
  rw [ddN, ddN_all m (by omega) fun i h0 h1 => h i h0 (by omega), if_pos, List.take_add_one]
  rw [decide_eq_true_eq]
  by_cases e : m = 0
  ·exact .inl e
  ·exact .inr (h m (by omega) (by omega))
theorem compactF_eq {l : List (List Int)} (hl : l.length ≤ 1000000) : n8 l = some (ddN l l.length) := by
 unfold n8
 by_cases c0 : (l.length : Int) < 2
 ·rw [if_pos c0, ddN_all l.length (Nat.le_refl _) fun i h0 h1 => by omega, List.take_length]
 ·rw [if_neg c0]
  have key := rngN_inv (body := l7 l) (fun j _ => ∀ i : Nat, 0 < i → (i : Int) < j → l[i]? ≠ l[i - 1]?) (fun o => o = ddN l l.length) ((l.length : Int) - 1).toNat 1 () (fun i h0 h1 => by omega) (fun j _ j0 j1 hP => by
   obtain ⟨a, ha, ga⟩ := j6 (l := l) (i := j) (by omega) (by omega)
   obtain ⟨b, hb, gb⟩ := j6 (l := l) (i := j - 1) (by omega) (by omega)
   unfold l7
   simp only [ha, hb, oB, equal_eq]
   have ej : (j - 1).toNat = j.toNat - 1 := by omega
   rw [ej] at gb
   by_cases c : a = b
   ·rw [ifP c]
    subst c
    right
    rw [show cutV (l.length : Int) j (l.length : Int) = some () by rw [cutV, if_pos (by omega)]]
    simp only [oB]
    obtain ⟨⟨cs, kv⟩, r1, r2, r3, r4, r5, r6⟩ := forN_inv (body := m7 l j) (fun k2 p => p.1.length = l.length ∧ j ≤ p.2 ∧ p.2 ≤ j + k2 - 1 ∧ p.1.take p.2.toNat = ddN l (j + k2).toNat ∧ ∀ i : Nat, j + k2 - 1 ≤ i → p.1[i]? = l[i]?) ((l.length : Int) - j - 1).toNat 1 (l, j) ⟨rfl, by simp, by dsimp only; omega, by
      dsimp only
      rw [show (j + 1).toNat = j.toNat + 1 by omega, ddN, if_neg, List.append_nil, ddN_all j.toNat (by omega) fun i h0 h1 => hP i h0 (by omega)]
      rw [decide_eq_true_eq]
      rintro (h | h)
      ·omega
      ·exact h (ga.trans gb.symm), fun i _ => rfl⟩ (fun k2 ⟨cs, kv⟩ k0 k1 ⟨g1, g2, g3, g4, g5⟩ => by
      dsimp only at g1 g2 g3 g4 g5 ⊢
      obtain ⟨x, hx, gx⟩ := j6 (l := l) (i := j + k2) (by omega) (by omega)
      obtain ⟨y, hy, gy⟩ := j6 (l := l) (i := j + k2 - 1) (by omega) (by omega)
      have iv : ∀ i : Int, 0 ≤ i → i < (l.length : Int) - j → ixV cs (0 + j) ((l.length : Int) - j) i = ix cs (j + i) := fun i h0 h1 => by
       rw [ixV, if_pos (by omega), Int.zero_add]
      have same : ∀ i : Int, j + k2 - 1 ≤ i → ix cs i = ix l i := fun i hi => by
       have := g5 i.toNat (by omega)
       simp only [ix]
       rw [this]
      unfold m7
      dsimp only
      rw [iv k2 (by omega) (by omega), iv (k2 - 1) (by omega) (by omega), show j + (k2 - 1) = j + k2 - 1 by omega, same _ (by omega), same _ (by omega), hx, hy]
      simp only [oB, equal_eq, n5]
      have ek : (j + (k2 + 1)).toNat = (j + k2).toNat + 1 := by omega
      have ek1 : (j + k2 - 1).toNat = (j + k2).toNat - 1 := by omega
      rw [ek1] at gy
      by_cases cx : x = y
      ·rw [ifNN cx]
       refine ⟨_, rfl, g1, g2, by omega, ?_, fun i hi => g5 i (by omega)⟩
       dsimp only
       rw [ek, ddN, if_neg, List.append_nil]
       ·exact g4
       ·rw [decide_eq_true_eq]
        rintro (h | h)
        ·omega
        ·exact h (by rw [gx, gy, cx])
      ·rw [ifP cx]
       obtain ⟨z, hz, gz⟩ := j6 (l := cs) (i := kv) (by omega) (by omega)
       simp only [hz, oB]
       rw [m9 (by omega) (by omega)]
       refine ⟨_, rfl, by rw [List.length_set]; exact g1, by omega, by omega, ?_, fun i hi => ?_⟩
       ·dsimp only
        rw [ek, ddN, if_pos, gx, show (kv + 1).toNat = kv.toNat + 1 by omega, List.take_add_one, List.getElem?_set, if_pos rfl, if_pos (by omega), List.take_set_of_le (Nat.le_refl _), g4]
        rw [decide_eq_true_eq]
        exact .inr (by rw [gx, gy]; simpa using cx)
       ·dsimp only
        rw [List.getElem?_set, if_neg (by omega)]
        exact g5 i (by omega))
    have ef : forR 1 ((l.length : Int) - j) (m7 l j) (l, j) = some (cs, kv) := r1
    dsimp only at r2 r3 r4 r5 r6
    rw [ef]
    simp only [oB]
    have hcl : (clrL cs (0 + kv) ((cs.length : Int) - kv) []).length = cs.length := by simp [clrL]; omega
    rw [show cutV (cs.length : Int) kv (cs.length : Int) = some () by rw [cutV, if_pos (by omega)]]
    simp only [oB, hcl]
    rw [show cutV (cs.length : Int) 0 kv = some () by rw [cutV, if_pos (by omega)]]
    refine ⟨_, rfl, ?_⟩
    have e1 : i6 (clrL cs (0 + kv) ((cs.length : Int) - kv) []) 0 kv = cs.take kv.toNat := by
     simp only [i6, clrL, Int.zero_add, Int.toNat_zero, List.drop_zero]
     rw [List.append_assoc, List.take_append_of_le_length (by simp; omega), List.take_take, Nat.min_self]
    rw [e1, r5]
    congr 1
    omega
   ·rw [ifN c]
    left
    refine ⟨(), rfl, fun i h0 h1 => ?_⟩
    by_cases e : (i : Int) = j
    ·have : i = j.toNat := by omega
     subst this
     rw [ga, gb]
     simpa using c
    ·exact hP i h0 (by omega))
  rcases key with ⟨_, h1, h2⟩ | ⟨o, h1, rfl⟩
  ·have : rngX 1 (l.length : Int) (l7 l) () = some (.inl ()) := h1
   rw [this]
   simp only [oB]
   rw [ddN_all l.length (Nat.le_refl _) fun i h0 h1 => h2 i h0 (by omega), List.take_length]
  ·have : rngX 1 (l.length : Int) (l7 l) () = some (.inr (ddN l l.length)) := h1
   rw [this]; rfl
theorem normal_eq {l : List (List Int)} (hl : l.length ≤ 1000000) : ∃ r, F1 l = some r ∧ Ord r ∧ (∀ x, x ∈ r ↔ x ∈ l) ∧ r.length ≤ l.length := by
 unfold F1
 rw [sortFL_eq (by omega) cmp_ok]
 simp only [oB]
 have hlen : (l.mergeSort fun x y => decide (¬ cmpL y x < 0)).length = l.length := by simp
 rw [compactF_eq (by rw [hlen]; exact hl)]
 have hs : (l.mergeSort fun x y => decide (¬ cmpL y x < 0)).Pairwise fun a b => ¬ llt b a := by
  have := List.pairwise_mergeSort (le := fun x y : List Int => decide (¬ cmpL y x < 0)) (fun a b c h1 h2 => by
   simp only [decide_eq_true_eq, T9] at h1 h2 ⊢
   intro h
   rcases Q3 b a with g | g | g
   ·exact h1 g
   ·subst g; exact h2 h
   ·exact h2 (Q5 h g)) (fun a b => by
   simp only [Bool.or_eq_true, decide_eq_true_eq, T9]
   by_cases h : llt b a
   ·exact .inr fun g => llt_asymm h g
   ·exact .inl h) l
  exact this.imp fun h => by simpa [T9] using h
 obtain ⟨h1, h2⟩ := ddN_spec hs _ (Nat.le_refl _)
 refine ⟨_, rfl, h1, fun x => ?_, ?_⟩
 ·rw [h2, List.take_length]; simp
 ·have := ddN_len (l.mergeSort fun x y => decide (¬ cmpL y x < 0)) (l.mergeSort fun x y => decide (¬ cmpL y x < 0)).length
  rw [hlen] at this
  rw [hlen]; exact this
end Ab
end
section
namespace Ab
open Go
theorem wsN_tb : ∀ {l : List Int}, Inc l → (∀ x ∈ l, 0 ≤ x) → ∀ k : Nat, (wsN l).testBit k = dec ((k : Int) ∈ l)
 | [], _, _, k => by simp [wsN, dec]
 | a :: l, h, h0, k => by
  have hc := List.pairwise_cons.1 h
  obtain ⟨q, hq⟩ : 2 ^ (a.toNat + 1) ∣ wsN l := wsN_dvd fun x hx => by have := hc.1 x hx; have := h0 a (by simp); omega
  have ih := wsN_tb hc.2 (fun x hx => h0 x (List.mem_cons_of_mem _ hx)) k
  have e : wsN (a :: l) = wsN l ||| 2 ^ a.toNat := by
   rw [hq, ← Nat.two_pow_add_eq_or_of_lt (Nat.pow_lt_pow_right (by omega) (by omega)) q, ← hq]
   simp only [wsN]; omega
  rw [e, Nat.testBit_or, ih, Nat.testBit_two_pow]
  have ha := h0 a (by simp)
  by_cases c : (k : Int) = a
  ·have : a.toNat = k := by omega
   simp [this, c]
  ·have : ¬ a.toNat = k := by omega
   simp [this, c]
theorem SetN.tb {s : List Int} {n : Int} (h : SetN s n) (k : Nat) : (wsN s).testBit k = dec ((k : Int) ∈ s) := wsN_tb h.1 (fun x hx => (h.2 x hx).1) k
theorem SetN.w32 {s : List Int} {n : Int} (h : SetN s n) (hn : n ≤ 24) : wsN s < 4294967296 := by
 refine Nat.lt_pow_two_of_testBit (n := 32) _ fun i hi => ?_
 rw [h.tb, dec_false]
 intro q
 have := (h.2 _ q).2
 omega
theorem wrap32 {n : Nat} (h : n < 4294967296) : IntKind.wrap .u32 (n : Int) = n := by
 simp only [IntKind.wrap, IntKind.bits, IntKind.signed, Bool.false_and, Bool.false_eq_true, if_false]
 omega
theorem bit_and {a b : Nat} (ha : a < 4294967296) : Go.bits .and .u32 (a : Int) (b : Int) = ((a &&& b : Nat) : Int) := by
 have e : (BitVec.ofNat 32 a &&& BitVec.ofNat 32 b).toNat = a &&& b := by
  rw [BitVec.toNat_and, BitVec.toNat_ofNat, BitVec.toNat_ofNat]
  refine Nat.eq_of_testBit_eq fun i => ?_
  simp only [Nat.testBit_and, Nat.testBit_mod_two_pow]
  by_cases c : i < 32
  ·simp [c]
  ·have : a.testBit i = false := Nat.testBit_lt_two_pow (Nat.lt_of_lt_of_le ha (Nat.pow_le_pow_right (n := 2) (by omega) (show 32 ≤ i by omega)))
   simp [this]
 rw [← e]
 simp only [Go.bits, BitVec.ofInt_natCast, IntKind.bits]
 exact wrap32 (BitVec.ofNat 32 a &&& BitVec.ofNat 32 b).isLt
theorem bit_or {a b : Nat} (ha : a < 4294967296) (hb : b < 4294967296) : Go.bits .or .u32 (a : Int) (b : Int) = ((a ||| b : Nat) : Int) := by
 have e : (BitVec.ofNat 32 a ||| BitVec.ofNat 32 b).toNat = a ||| b := by
  rw [BitVec.toNat_or, BitVec.toNat_ofNat, BitVec.toNat_ofNat, Nat.mod_eq_of_lt (by simpa using ha), Nat.mod_eq_of_lt (by simpa using hb)]
 rw [← e]
 simp only [Go.bits, BitVec.ofInt_natCast, IntKind.bits]
 exact wrap32 (BitVec.ofNat 32 a ||| BitVec.ofNat 32 b).isLt
theorem bit_andNot {a b : Nat} (ha : a < 4294967296) : ∃ c : Nat, Go.bits .andNot .u32 (a : Int) (b : Int) = (c : Int) ∧ c < 4294967296 ∧ ∀ k, c.testBit k = (a.testBit k && !b.testBit k) := by
 refine ⟨(BitVec.ofNat 32 a &&& ~~~BitVec.ofNat 32 b).toNat, ?_, (BitVec.ofNat 32 a &&& ~~~BitVec.ofNat 32 b).isLt, fun k => ?_⟩
 ·simp only [Go.bits, BitVec.ofInt_natCast, IntKind.bits]
  exact wrap32 (BitVec.ofNat 32 a &&& ~~~BitVec.ofNat 32 b).isLt
 ·rw [BitVec.testBit_toNat, BitVec.getLsbD_and, BitVec.getLsbD_not, BitVec.getLsbD_ofNat, BitVec.getLsbD_ofNat]
  by_cases c : k < 32
  ·simp [c]
  ·have : a.testBit k = false := Nat.testBit_lt_two_pow (Nat.lt_of_lt_of_le ha (Nat.pow_le_pow_right (n := 2) (by omega) (show 32 ≤ k by omega)))
   simp [c, this]
theorem sub_word {s p : List Int} {n : Int} (hs : SetN s n) (hp : SetN p n) (hn : n ≤ 24) : Go.bits .and .u32 (wsN s : Int) (wsN p : Int) = (wsN p : Int) ↔ ∀ x ∈ p, x ∈ s := by
 rw [bit_and (hs.w32 hn)]
 constructor
 ·intro h x hx
  have h0 := (hp.2 x hx).1
  have e : (wsN s &&& wsN p) = wsN p := by omega
  have := congrArg (fun n => Nat.testBit n x.toNat) e
  simp only [Nat.testBit_and, hs.tb, hp.tb, show ((x.toNat : Nat) : Int) = x by omega, j9 hx, Bool.and_true, i5] at this
  exact this
 ·intro h
  have e : (wsN s &&& wsN p) = wsN p := by
   refine Nat.eq_of_testBit_eq fun i => ?_
   rw [Nat.testBit_and, hs.tb, hp.tb, dec_and]
   exact M5 ⟨fun q => q.2, fun q => ⟨h _ q, q⟩⟩
  rw [e]
theorem next_word {s d a : List Int} {n : Int} (hs : SetN s n) (hd : SetN d n) (ha : SetN a n) (hn : n ≤ 24) :
  Go.bits .or .u32 (Go.bits .andNot .u32 (wsN s : Int) (wsN d : Int)) (wsN a : Int) = (wsN (A9 (fun x => x ∈ a ∨ x ∈ s ∧ x ∉ d) n) : Int) := by
 obtain ⟨c, c1, c2, c3⟩ := bit_andNot (b := wsN d) (hs.w32 hn)
 have hr : SetN (A9 (fun x => x ∈ a ∨ x ∈ s ∧ x ∉ d) n) n := ac4 _ _
 rw [c1, bit_or c2 (ha.w32 hn)]
 have e : c ||| wsN a = wsN (A9 (fun x => x ∈ a ∨ x ∈ s ∧ x ∉ d) n) := by
  refine Nat.eq_of_testBit_eq fun i => ?_
  rw [Nat.testBit_or, c3, hs.tb, hd.tb, ha.tb, hr.tb, n5, dec_and, dec_or]
  refine M5 ?_
  rw [I3]
  constructor
  ·rintro (⟨q1, q2⟩ | q)
   ·exact ⟨(hs.2 _ q1).1, (hs.2 _ q1).2, .inr ⟨q1, q2⟩⟩
   ·exact ⟨(ha.2 _ q).1, (ha.2 _ q).2, .inl q⟩
  ·rintro ⟨_, _, q | q⟩
   ·exact .inr q
   ·exact .inl q
 rw [e]
end Ab
end
section
namespace Ab
open Go
inductive Rt (t : e8) : List Int → Prop
 | init : Rt t t.init
 | step {s : List Int} {op : Int} (h : Rt t s) (h0 : 0 ≤ op) (h1 : op < t.operators.length) (hc : can t s op) : Rt t (aft t s op)
theorem Rt.setN {t : e8} (ht : j8 t) {s : List Int} (h : Rt t s) : SetN s t.facts := by
 cases h with
 | init => exact ht.init
 | step => exact ac7 _ _ _
theorem Rt.ends {t : e8} : ∀ {plan s e : List Int}, Rt t s → (∀ x ∈ plan, (0 : Int) ≤ x ∧ x < t.operators.length) → ends t s plan = some e → Rt t e
 | [], s, e, hs, _, h => by simp only [Ab.ends, Option.some.injEq] at h; subst h; exact hs
 | op :: r, s, e, hs, hv, h => by
  simp only [Ab.ends] at h
  split at h
  ·rename_i hc
   have := hv op List.mem_cons_self
   exact Rt.ends (hs.step this.1 this.2 (i5.1 hc)) (fun x hx => hv x (List.mem_cons_of_mem _ hx)) h
  ·cases h
theorem Rt.way {t : e8} {s : List Int} (h : Rt t s) : ∃ plan : List Int, (∀ x ∈ plan, (0 : Int) ≤ x ∧ x < t.operators.length) ∧ Ab.ends t t.init plan = some s := by
 induction h with
 | init => exact ⟨[], by simp, rfl⟩
 | @step s op h h0 h1 hc ih =>
  obtain ⟨p, p1, p2⟩ := ih
  refine ⟨p ++ [op], fun x hx => ?_, ?_⟩
  ·rcases List.mem_append.1 hx with hx | hx
   ·exact p1 x hx
   ·simp only [List.mem_singleton] at hx; subst hx; exact ⟨h0, h1⟩
  ·rw [ends_append, p2]
   simp only [oB, Ab.ends]
   rw [if_pos (j9 hc)]
def Cls (t : e8) (l : List (List Int)) (s : List Int) : Prop := ∀ op : Int, 0 ≤ op → op < t.operators.length → can t s op → aft t s op ∈ l
theorem Rt.mem {t : e8} {l : List (List Int)} (hi : t.init ∈ l) (hc : ∀ s ∈ l, Cls t l s) {s : List Int} (h : Rt t s) : s ∈ l := by
 induction h with
 | init => exact hi
 | step h h0 h1 hcan ih => exact hc _ ih _ h0 h1 hcan
def Many (t : e8) : Prop := ∃ l : List (List Int), l.Nodup ∧ l.length = 2001 ∧ ∀ s ∈ l, Rt t s
end Ab
end
section
namespace Ab
open Go
abbrev Mk := Y9
def wd (s : List Int) : Int := (wsN s : Int)
def mkOf (o : g9) : Mk := ⟨wd o.pre, wd o.add, wd o.del, o.cost⟩
def mks (t : e8) : List Mk := t.operators.map mkOf
def canW (m : Mk) (x : Int) : Prop := Go.bits .and .u32 x m.pre = m.pre
def tgtW (m : Mk) (x : Int) : Int := Go.bits .or .u32 (Go.bits .andNot .u32 x m.del) m.add
theorem L6 {t : e8} (ht : j8 t) {op : Int} (h0 : 0 ≤ op) (h1 : op < t.operators.length) : J1 (opAt t op) t.facts ∧ Q7 (opAt t op) := ht.op _ (s5 (ix_op h0 h1))
theorem canW_iff {t : e8} (ht : j8 t) {s : List Int} (h : SetN s t.facts) {op : Int} (h0 : 0 ≤ op) (h1 : op < t.operators.length) : canW (mkOf (opAt t op)) (wd s) ↔ can t s op :=
 sub_word h (L6 ht h0 h1).1.1 ht.n1
theorem tgtW_eq {t : e8} (ht : j8 t) {s : List Int} (h : SetN s t.facts) {op : Int} (h0 : 0 ≤ op) (h1 : op < t.operators.length) : tgtW (mkOf (opAt t op)) (wd s) = wd (aft t s op) :=
 next_word h (L6 ht h0 h1).1.2.2.1 (L6 ht h0 h1).1.2.1 ht.n1
theorem mks_of {t : e8} {op : Int} (h0 : 0 ≤ op) (h1 : op < t.operators.length) : mkOf (opAt t op) ∈ mks t := List.mem_map.2 ⟨_, s5 (ix_op h0 h1), rfl⟩
def Rwd (t : e8) (x : Int) : Prop := ∃ s, Rt t s ∧ x = wd s
theorem Rwd.all {t : e8} (ht : j8 t) {l : List Int} (hi : wd t.init ∈ l) (hc : ∀ x ∈ l, ∀ m ∈ mks t, canW m x → tgtW m x ∈ l) {x : Int} (h : Rwd t x) : x ∈ l := by
 obtain ⟨s, h, rfl⟩ := h
 induction h with
 | init => exact hi
 | step h h0 h1 hcan ih =>
  have hs := h.setN ht
  have := hc _ ih _ (mks_of h0 h1) ((canW_iff ht hs h0 h1).2 hcan)
  rwa [tgtW_eq ht hs h0 h1] at this
abbrev MpU := List (Int × Unit)
structure AlW (t : e8) (q : List Int) (f : MpU) (a : List Int) : Prop where
 nd : (f.map (·.1)).Nodup
 pm : (f.map (·.1)).Perm (q ++ a)
 rw : ∀ x ∈ f.map (·.1), Rwd t x
end Ab
end
section
namespace Ab
open Go
abbrev En := aa9
def Hp (L : List Int) (E : List En) : Prop := ∀ i h, ix L i = some h → ∃ e, ix E h = some e ∧ e.fat = i
structure Sme (L : List Int) (E : List En) (L' : List Int) (E' : List En) : Prop where
 len : L'.length = L.length
 mem : ∀ h, h ∈ L' ↔ h ∈ L
 elen : E'.length = E.length
 e : ∀ h a, ix E h = some a → ∃ a', ix E' h = some a' ∧ a'.item = a.item ∧ a'.key = a.key
theorem Sme.refl (L : List Int) (E : List En) : Sme L E L E := ⟨rfl, fun _ => Iff.rfl, rfl, fun h a ha => ⟨a, ha, rfl, rfl⟩⟩
theorem Sme.trans {L L' L'' : List Int} {E E' E'' : List En} (h : Sme L E L' E') (g : Sme L' E' L'' E'') : Sme L E L'' E'' := by
 refine ⟨g.len.trans h.len, fun x => (g.mem x).trans (h.mem x), g.elen.trans h.elen, fun x a ha => ?_⟩
 obtain ⟨b, b1, b2, b3⟩ := h.e x a ha
 obtain ⟨c, c1, c2, c3⟩ := g.e x b b1
 exact ⟨c, c1, c2.trans b2, c3.trans b3⟩
theorem Hp.inj {L : List Int} {E : List En} (h : Hp L E) {i j x : Int} (h1 : ix L i = some x) (h2 : ix L j = some x) : i = j := by
 obtain ⟨e, e1, e2⟩ := h i x h1
 obtain ⟨f, f1, f2⟩ := h j x h2
 rw [e1] at f1; cases f1; rw [← e2, ← f2]
structure Kp (nv : Int) (L : List Int) (E : List En) (l : List Int) (e : List En) : Prop where
 hp : Hp l e
 sm : Sme L E l e
 hi : ∀ j, nv ≤ j → ix l j = ix L j
end Ab
end
section
namespace Ab
open Go
structure Qu (M : List (Int × Int)) (L : List Int) (E : List En) : Prop where
 hp : Hp L E
 keys : (M.map (·.1)).Nodup
 mem : ∀ x h, mget M x = some h ↔ h ∈ L ∧ ∃ e, ix E h = some e ∧ e.item = x
def qkey (M : List (Int × Int)) (E : List En) (x : Int) : Option Int := (mget M x).bind fun h => (ix E h).map (·.key)
theorem Sme.item {L L' : List Int} {E E' : List En} (h : Sme L E L' E') (x y : Int) : (∃ e, ix E' x = some e ∧ e.item = y) ↔ ∃ e, ix E x = some e ∧ e.item = y := by
 constructor
 ·rintro ⟨e, e1, e2⟩
  obtain ⟨a, b, _⟩ := o5 e1
  obtain ⟨f, f1, _⟩ := j6 (l := E) a (by rw [← h.elen]; exact b)
  obtain ⟨g, g1, g2, _⟩ := h.e x f f1
  rw [e1] at g1; cases g1
  exact ⟨f, f1, g2.symm.trans e2⟩
 ·rintro ⟨e, e1, e2⟩
  obtain ⟨g, g1, g2, _⟩ := h.e x e e1
  exact ⟨g, g1, g2.trans e2⟩
theorem Qu.nil : Qu [] [] [] := ⟨fun i h e => by simp [ix] at e, by simp, fun x h => by simp [mget]⟩
theorem Qu.item_inj {M : List (Int × Int)} {L : List Int} {E : List En} (h : Qu M L E) {a b : Int} {e f : En} (ha : a ∈ L) (hb : b ∈ L) (he : ix E a = some e) (hf : ix E b = some f) (hi : e.item = f.item) : a = b := by
 have h1 := (h.mem e.item a).2 ⟨ha, e, he, rfl⟩
 have h2 := (h.mem e.item b).2 ⟨hb, f, hf, hi.symm⟩
 rw [h1] at h2; exact Option.some.inj h2
theorem Hp.nodup {L : List Int} {E : List En} (h : Hp L E) : L.Nodup := by
 refine List.pairwise_iff_getElem.2 fun i j hi hj hij e => ?_
 have h1 : ix L (j : Int) = some L[j] := ix_ltN hj
 have h2 : ix L (i : Int) = some L[j] := by rw [← e]; exact ix_ltN hi
 have := h.inj h1 h2
 omega
theorem Qu.le {M : List (Int × Int)} {L : List Int} {E : List En} (h : Qu M L E) {vs : List Int} (hv : ∀ x, qkey M E x ≠ none → x ∈ vs) : L.length ≤ vs.length := by
 have h1 : (L.map fun z => ((ix E z).map (·.item)).getD 0).Nodup := by
  refine List.pairwise_map.2 ?_
  have := h.hp.nodup
  refine List.Pairwise.imp_of_mem (R := (· ≠ ·)) (fun {a b} ha hb hab e => hab ?_) this
  obtain ⟨i, _, _, hi⟩ := G6 ha
  obtain ⟨j, _, _, hj⟩ := G6 hb
  obtain ⟨x, x1, _⟩ := h.hp i a hi
  obtain ⟨y, y1, _⟩ := h.hp j b hj
  refine h.item_inj ha hb x1 y1 ?_
  simpa [x1, y1] using e
 have := V1 h1 (S := vs) (fun x hx => by
  obtain ⟨a, ha, rfl⟩ := List.mem_map.1 hx
  obtain ⟨i, _, _, hi⟩ := G6 ha
  obtain ⟨e, e1, _⟩ := h.hp i a hi
  refine hv _ ?_
  have := (h.mem e.item a).2 ⟨ha, e, e1, rfl⟩
  simp [e1, qkey, this])
 simpa using this
end Ab
end
section
namespace Ab
open Go
abbrev MpI := List (Int × Int)
def goalW (g x : Int) : Prop := Go.bits .and .u32 x g = g
def cst (c : MpI) (x : Int) : Int := (mget c x).getD 0
inductive PthW (vs : List Int) (ms : List Mk) (g : Int) : Int → Int → Prop
 | goal {x : Int} (h : x ∈ vs) (hg : goalW g x) : PthW vs ms g x 0
 | step {x k : Int} {m : Mk} (h : x ∈ vs) (hm : m ∈ ms) (hc : canW m x) (hp : PthW vs ms g (tgtW m x) k) : PthW vs ms g x (k + m.cost)
structure Gr (vs : List Int) (ms : List Mk) : Prop where
 cl : ∀ x ∈ vs, ∀ m ∈ ms, canW m x → tgtW m x ∈ vs
 co : ∀ m ∈ ms, 0 ≤ m.cost ∧ m.cost ≤ 100
 ml : ms.length ≤ 40
 vl : vs.length ≤ 2000
structure Cd (vs : List Int) (ms : List Mk) (g : Int) (c : MpI) : Prop where
 dom : ∀ x ∈ vs, ∃ k, mget c x = some k ∧ 0 ≤ k ∧ k ≤ 1000000000 ∧ (k = 1000000000 ∨ PthW vs ms g x k)
 goal : ∀ x ∈ vs, goalW g x → mget c x = some 0
structure Iv (vs : List Int) (ms : List Mk) (g : Int) (c M : MpI) (L : List Int) (E : List En) (exc : Int → Prop) : Prop where
 cd : Cd vs ms g c
 qu : Qu M L E
 qk : ∀ x k, qkey M E x = some k → x ∈ vs ∧ mget c x = some k
 arc : ∀ x ∈ vs, ∀ m ∈ ms, canW m x → ¬ exc (tgtW m x) → qkey M E (tgtW m x) = none → cst c x ≤ cst c (tgtW m x) + m.cost
theorem Iv.len {vs : List Int} {ms : List Mk} {g : Int} {c M : MpI} {L : List Int} {E : List En} {exc : Int → Prop} (h : Iv vs ms g c M L E exc) : L.length ≤ vs.length :=
 h.qu.le fun x hx => by
  cases e : qkey M E x with
  | none => exact absurd e hx
  | some k => exact (h.qk x k e).1
def sm (vs : List Int) (c : MpI) : Nat := (vs.map fun x => (cst c x).toNat).sum
structure Best (vs : List Int) (ms : List Mk) (g : Int) (c : MpI) : Prop where
 cd : Cd vs ms g c
 least : ∀ x k, PthW vs ms g x k → cst c x ≤ k
end Ab
end
section
namespace Ab
open Go
def Val (t : e8) (plan : List Int) : Prop := ∀ x ∈ plan, (0 : Int) ≤ x ∧ x < t.operators.length
def q8 (t : e8) : List Int → Int
 | [] => 0
 | op :: r => q8 t r + (opAt t op).cost
def Few (t : e8) : Prop := ∃ l : List (List Int), l.Nodup ∧ l.length ≤ 2000 ∧ ∀ s, s ∈ l ↔ Rt t s
theorem Y0 {t : e8} (ht : j8 t) : ∀ {plan : List Int}, Val t plan → 0 ≤ q8 t plan
 | [], _ => by simp [q8]
 | op :: r, h => by
  have h1 := Y0 ht (plan := r) fun x hx => h x (List.mem_cons_of_mem _ hx)
  have h2 := h op (by simp)
  have h3 := (L6 ht h2.1 h2.2).2.1
  simp only [q8]; omega
section
variable {t : e8} {vs : List Int}
end
/-! ### A way that is not long -/
inductive Hop (vs : List Int) (ms : List Mk) (g : Int) : Nat → Int → Prop
 | goal {x : Int} (h : x ∈ vs) (hg : goalW g x) : Hop vs ms g 0 x
 | step {x : Int} {n : Nat} {m : Mk} (h : x ∈ vs) (hm : m ∈ ms) (hc : canW m x) (hp : Hop vs ms g n (tgtW m x)) : Hop vs ms g (n + 1) x
section
variable {vs : List Int} {ms : List Mk} {g : Int}
theorem Hop.of {x k : Int} (h : PthW vs ms g x k) : ∃ n, Hop vs ms g n x := by
 induction h with
 | goal hx hg => exact ⟨0, .goal hx hg⟩
 | step hx hm hc _ ih => obtain ⟨n, hn⟩ := ih; exact ⟨n + 1, .step hx hm hc hn⟩
theorem Hop.cost (hg : Gr vs ms) {n : Nat} {x : Int} (h : Hop vs ms g n x) : ∃ k, PthW vs ms g x k ∧ k ≤ 100 * n := by
 induction h with
 | goal hx hgx => exact ⟨0, .goal hx hgx, by omega⟩
 | step hx hm hc _ ih =>
  obtain ⟨k, k1, k2⟩ := ih
  have := hg.co _ hm
  exact ⟨_, .step hx hm hc k1, by push_cast; omega⟩
def MHop (vs : List Int) (ms : List Mk) (g : Int) (n : Nat) (x : Int) : Prop := Hop vs ms g n x ∧ ∀ m, m < n → ¬ Hop vs ms g m x
theorem MHop.of : ∀ {n : Nat} {x : Int}, Hop vs ms g n x → ∃ m, m ≤ n ∧ MHop vs ms g m x := by
 intro n
 induction n using Nat.strongRecOn with
 | _ n ih =>
  intro x h
  by_cases c : ∃ m, m < n ∧ Hop vs ms g m x
  ·obtain ⟨m, m1, m2⟩ := c
   obtain ⟨q, q1, q2⟩ := ih m m1 m2
   exact ⟨q, by omega, q2⟩
  ·exact ⟨n, Nat.le_refl _, h, fun m hm hh => c ⟨m, hm, hh⟩⟩
end
inductive OptR (t : e8) : Int × TFault → Prop
 | bad {f : TFault} (h : ¬ j8 t) (hf : s4 t = some f) (hc : f.code ≠ 0) : OptR t (0, f)
 | many (h : j8 t) (hm : Many t) : OptR t (0, ⟨10, -7⟩)
 | none (h : j8 t) (hf : Few t) (hn : ∀ plan, Val t plan → ¬ works t t.init plan) : OptR t (1000000000, ⟨0, 0⟩)
 | some {k : Int} {plan : List Int} (h : j8 t) (hf : Few t) (h0 : 0 ≤ k) (h1 : k ≤ 199900) (hv : Val t plan) (hw : works t t.init plan) (hk : q8 t plan = k) (hl : ∀ p, Val t p → works t t.init p → k ≤ q8 t p) : OptR t (k, ⟨0, 0⟩)
end Ab
end
section
namespace Ab
open Go
end Ab
end
section
namespace Ab
open Go
section
variable {t : e8} {op : Int}
/-! ### Without the operator -/
end
end Ab
end
section
namespace Ab
open Go
def LC (t : e8) (P : List Int → Prop) (k : Int) : Prop := (∀ p, P p → k ≤ q8 t p) ∧ 0 ≤ k ∧ ((k = 1000000000 ∧ ∀ p, ¬ P p) ∨ (k < 1000000000 ∧ ∃ p, P p ∧ q8 t p = k))
def Sol (t : e8) (s p : List Int) : Prop := Val t p ∧ works t s p
theorem LC.eq {t : e8} {P : List Int → Prop} {k k' : Int} (h : LC t P k) (h' : LC t P k') : k = k' := by
 obtain ⟨a1, a2, a3⟩ := h
 obtain ⟨b1, b2, b3⟩ := h'
 rcases a3 with ⟨a3, a4⟩ | ⟨a3, p, a4, a5⟩
 ·rcases b3 with ⟨b3, b4⟩ | ⟨b3, q, b4, b5⟩
  ·omega
  ·exact absurd b4 (a4 q)
 ·rcases b3 with ⟨b3, b4⟩ | ⟨b3, q, b4, b5⟩
  ·exact absurd a4 (b4 p)
  ·have := a1 q b4; have := b1 p a4; omega
theorem LC.le {t : e8} {P : List Int → Prop} {k : Int} (h : LC t P k) : k ≤ 1000000000 := by
 obtain ⟨a1, a2, ⟨a3, a4⟩ | ⟨a3, p, a4, a5⟩⟩ := h <;> omega
section
variable {t : e8} {op : Int}
end
theorem af1 {t : e8} : ∀ {p q : List Int}, q8 t (p ++ q) = q8 t p + q8 t q
 | [], q => by simp [q8]
 | x :: p, q => by simp only [List.cons_append, q8, af1 (p := p) (q := q)]; omega
theorem pcost_le {t : e8} (ht : j8 t) : ∀ {p : List Int}, Val t p → q8 t p ≤ 100 * p.length
 | [], _ => by simp [q8]
 | op :: r, h => by
  have h1 := pcost_le ht (p := r) fun x hx => h x (List.mem_cons_of_mem _ hx)
  have h2 := h op (by simp)
  have h3 := (L6 ht h2.1 h2.2).2.2
  simp only [q8, List.length_cons]; push_cast; omega
theorem scost_eq (t : e8) (plan : List Int) : ∃ k f, O1 t plan = some (k, f) ∧ ((f = ⟨0, 0⟩ ∧ j8 t ∧ V2 t plan ∧ k = q8 t plan) ∨ (f.code ≠ 0 ∧ ¬ (j8 t ∧ V2 t plan) ∧ k = 0)) := by
 obtain ⟨f, h1, h2, h3⟩ := ae3 t plan
 unfold O1
 rw [h1]
 simp only [oB]
 rcases h3 with ⟨rfl, ht, hp⟩ | ⟨hc, hn⟩
 ·rw [if_neg (by simp)]
  obtain ⟨r, r1, rfl⟩ := M6 (body := N2 t plan) (n := (plan.length : Int)) (s := 0) (fun j c => c = q8 t (plan.take j.toNat)) (by omega) (by simp [q8]) (fun j c j0 j1 hP => by
   obtain ⟨a, ha, ga⟩ := j6 (l := plan) j0 j1
   have hv := hp.2 a (s5 ha)
   have htk : plan.take (j + 1).toNat = plan.take j.toNat ++ [a] := by rw [show (j + 1).toNat = j.toNat + 1 by omega, List.take_add_one, ga]; rfl
   have hvt : Val t (plan.take j.toNat) := fun x hx => hp.2 x (List.mem_of_mem_take hx)
   have b1 := Y0 ht hvt
   have b2 := pcost_le ht hvt
   have b3 := (L6 ht hv.1 hv.2).2
   have b4 : (plan.take j.toNat).length ≤ 60 := by rw [List.length_take]; have := hp.1; omega
   unfold N2
   simp only [ha, oB, ix_op hv.1 hv.2]
   refine ⟨_, rfl, ?_⟩
   rw [hP, htk, af1]
   simp only [q8]
   rw [m9 (by have := b3.1; omega) (by have := b3.2; omega)]; omega)
  rw [r1, Int.toNat_natCast, List.take_length]
  exact ⟨_, _, rfl, .inl ⟨rfl, ht, hp, rfl⟩⟩
 ·rw [if_pos (by simp [hc])]
  exact ⟨_, _, rfl, .inr ⟨hc, hn, rfl⟩⟩
end Ab
end
section
namespace Ab
open Go
inductive Ex (t : e8) (g : List Int) : List Int → List Int → Int → Prop
 | goal {s : List Int} (h : ∀ x ∈ g, x ∈ s) : Ex t g [] s 0
 | step {o s : List Int} {op c : Int} (h0 : 0 ≤ op) (h1 : op < t.operators.length) (hc : can t s op) (h : Ex t g o (aft t s op) c) : Ex t g o s (c + (opAt t op).cost)
 | obs {o s : List Int} {op c : Int} (h0 : 0 ≤ op) (h1 : op < t.operators.length) (hc : can t s op) (h : Ex t g o (aft t s op) c) : Ex t g (op :: o) s (c + (opAt t op).cost)
inductive Rc (t : e8) (ob : List Int) : List Int → Nat → Int → Prop
 | init : Rc t ob t.init 0 0
 | step {s : List Int} {k : Nat} {op c : Int} (h : Rc t ob s k c) (h0 : 0 ≤ op) (h1 : op < t.operators.length) (hc : can t s op) : Rc t ob (aft t s op) k (c + (opAt t op).cost)
 | obs {s : List Int} {k : Nat} {op c : Int} (h : Rc t ob s k c) (h0 : 0 ≤ op) (h1 : op < t.operators.length) (hc : can t s op) (ho : ob[k]? = some op) : Rc t ob (aft t s op) (k + 1) (c + (opAt t op).cost)
section
variable {t : e8} {g ob : List Int}
theorem Rc.rt {s : List Int} {k : Nat} {c : Int} (h : Rc t ob s k c) : Rt t s := by
 induction h with
 | init => exact .init
 | step _ h0 h1 hc ih => exact ih.step h0 h1 hc
 | obs _ h0 h1 hc _ ih => exact ih.step h0 h1 hc
theorem Rc.le {s : List Int} {k : Nat} {c : Int} (h : Rc t ob s k c) : k ≤ ob.length := by
 induction h with
 | init => exact Nat.zero_le _
 | step _ _ _ _ ih => exact ih
 | obs _ _ _ _ ho ih => have := (List.getElem?_eq_some_iff.1 ho).1; omega
theorem Rc.nonneg (ht : j8 t) {s : List Int} {k : Nat} {c : Int} (h : Rc t ob s k c) : 0 ≤ c := by
 induction h with
 | init => exact Int.le_refl 0
 | step _ h0 h1 _ ih => have := (L6 ht h0 h1).2.1; omega
 | obs _ h0 h1 _ _ ih => have := (L6 ht h0 h1).2.1; omega
theorem Rc.ex {s : List Int} {k : Nat} {c : Int} (h : Rc t ob s k c) : ∀ {c' : Int}, Ex t g (ob.drop k) s c' → Ex t g ob t.init (c + c') := by
 induction h with
 | init => intro c' h; simpa using h
 | @step s k op c _ h0 h1 hc ih =>
  intro c' h
  have := ih (.step h0 h1 hc h)
  rwa [show c + (opAt t op).cost + c' = c + (c' + (opAt t op).cost) by omega]
 | @obs s k op c _ h0 h1 hc ho ih =>
  intro c' h
  obtain ⟨hl, e⟩ := List.getElem?_eq_some_iff.1 ho
  have hd : ob.drop k = op :: ob.drop (k + 1) := by rw [List.drop_eq_getElem_cons hl, e]
  have := ih (c' := c' + (opAt t op).cost) (by rw [hd]; exact .obs h0 h1 hc h)
  rwa [show c + (opAt t op).cost + c' = c + (c' + (opAt t op).cost) by omega]
theorem Ex.rc {o s : List Int} {c : Int} (h : Ex t g o s c) : ∀ {k : Nat} {c0 : Int}, Rc t ob s k c0 → o = ob.drop k → ∃ e, Rc t ob e ob.length (c0 + c) ∧ ∀ x ∈ g, x ∈ e := by
 induction h with
 | goal h =>
  intro k c0 hr e
  have hk := hr.le
  have : k = ob.length := by
   have := congrArg List.length e
   simp at this; omega
  subst this
  exact ⟨_, by simpa using hr, h⟩
 | @step o s op c h0 h1 hc _ ih =>
  intro k c0 hr e
  obtain ⟨e', h2, h3⟩ := ih (hr.step h0 h1 hc) e
  exact ⟨e', by rwa [show c0 + (c + (opAt t op).cost) = c0 + (opAt t op).cost + c by omega], h3⟩
 | @obs o s op c h0 h1 hc _ ih =>
  intro k c0 hr e
  have hk : k < ob.length := by
   rcases Nat.lt_or_ge k ob.length with h | h
   ·exact h
   ·rw [List.drop_eq_nil_of_le h] at e; cases e
  rw [List.drop_eq_getElem_cons hk] at e
  simp only [List.cons.injEq] at e
  obtain ⟨e', h2, h3⟩ := ih (hr.obs h0 h1 hc (List.getElem?_eq_some_iff.2 ⟨hk, e.1.symm⟩)) e.2
  exact ⟨e', by rwa [show c0 + (c + (opAt t op).cost) = c0 + (opAt t op).cost + c by omega], h3⟩
theorem Ex.nil {o s : List Int} {c : Int} (h : Ex t g o s c) : Ex t g [] s c := by
 induction h with
 | goal h => exact .goal h
 | step h0 h1 hc _ ih => exact .step h0 h1 hc ih
 | obs h0 h1 hc _ ih => exact .step h0 h1 hc ih
theorem Ex.take {o s : List Int} {c : Int} (h : Ex t g o s c) : ∀ i, Ex t g (o.take i) s c := by
 induction h with
 | goal h => intro i; simpa using .goal h
 | step h0 h1 hc _ ih => intro i; exact .step h0 h1 hc (ih i)
 | obs h0 h1 hc h ih =>
  intro i
  cases i with
  | zero => exact .step h0 h1 hc (by simpa using ih 0)
  | succ i => exact .obs h0 h1 hc (ih i)
theorem Ex.plan {o s : List Int} {c : Int} (h : Ex t g o s c) : ∃ p, Val t p ∧ (∃ e, ends t s p = some e ∧ ∀ x ∈ g, x ∈ e) ∧ q8 t p = c := by
 induction h with
 | @goal s h => exact ⟨[], by simp [Val], ⟨s, rfl, h⟩, rfl⟩
 | @step o s op c h0 h1 hc _ ih =>
  obtain ⟨p, p1, ⟨e, p2, p3⟩, p4⟩ := ih
  refine ⟨op :: p, fun y hy => ?_, ⟨e, ?_, p3⟩, by simp [q8, p4]⟩
  ·rcases List.mem_cons.1 hy with rfl | hy
   ·exact ⟨h0, h1⟩
   ·exact p1 y hy
  ·simp only [ends]; rw [if_pos (j9 hc)]; exact p2
 | @obs o s op c h0 h1 hc _ ih =>
  obtain ⟨p, p1, ⟨e, p2, p3⟩, p4⟩ := ih
  refine ⟨op :: p, fun y hy => ?_, ⟨e, ?_, p3⟩, by simp [q8, p4]⟩
  ·rcases List.mem_cons.1 hy with rfl | hy
   ·exact ⟨h0, h1⟩
   ·exact p1 y hy
  ·simp only [ends]; rw [if_pos (j9 hc)]; exact p2
theorem Ex.of : ∀ {a o b s e : List Int}, Val t (a ++ (o ++ b)) → ends t s (a ++ (o ++ b)) = some e → (∀ x ∈ g, x ∈ e) → Ex t g o s (q8 t (a ++ (o ++ b)))
 | [], [], [], s, e, _, he, hg => by
  simp only [List.append_nil, ends, Option.some.injEq] at he; subst he
  exact .goal hg
 | [], [], op :: b, s, e, hv, he, hg => by
  simp only [List.nil_append, ends] at he ⊢
  have ho := hv op (by simp)
  split at he
  ·rename_i hc
   exact .step ho.1 ho.2 (i5.1 hc) (Ex.of (a := []) (o := []) (b := b) (fun x hx => hv x (by simp at hx ⊢; exact .inr hx)) (by simpa using he) hg)
  ·cases he
 | [], op :: o, b, s, e, hv, he, hg => by
  simp only [List.nil_append, List.cons_append, ends] at he ⊢
  have ho := hv op (by simp)
  split at he
  ·rename_i hc
   exact .obs ho.1 ho.2 (i5.1 hc) (Ex.of (a := []) (o := o) (b := b) (fun x hx => hv x (by simp at hx ⊢; exact .inr hx)) (by simpa using he) hg)
  ·cases he
 | op :: a, o, b, s, e, hv, he, hg => by
  simp only [List.cons_append, ends] at he ⊢
  have ho := hv op (by simp)
  split at he
  ·rename_i hc
   exact .step ho.1 ho.2 (i5.1 hc) (Ex.of (a := a) (o := o) (b := b) (fun x hx => hv x (by simp at hx ⊢; exact .inr hx)) he hg)
  ·cases he
def EC (t : e8) (g ob : List Int) (k : Int) : Prop := (∀ c, Ex t g ob t.init c → k ≤ c) ∧ 0 ≤ k ∧ ((k = 1000000000 ∧ ∀ c, ¬ Ex t g ob t.init c) ∨ (k < 1000000000 ∧ Ex t g ob t.init k))
theorem EC.eq {k k' : Int} (h : EC t g ob k) (h' : EC t g ob k') : k = k' := by
 obtain ⟨a1, _, ⟨a3, a4⟩ | ⟨a3, a4⟩⟩ := h
 ·obtain ⟨b1, _, ⟨b3, b4⟩ | ⟨b3, b4⟩⟩ := h'
  ·omega
  ·exact absurd b4 (a4 _)
 ·obtain ⟨b1, _, ⟨b3, b4⟩ | ⟨b3, b4⟩⟩ := h'
  ·exact absurd a4 (b4 _)
  ·have := a1 _ b4; have := b1 _ a4; omega
theorem EC.le {k : Int} (h : EC t g ob k) : k ≤ 1000000000 := by
 obtain ⟨a1, a2, ⟨a3, a4⟩ | ⟨a3, a4⟩⟩ := h <;> omega
theorem EC.mono {g' ob' : List Int} {k k' : Int} (h : EC t g ob k) (h' : EC t g' ob' k') (hm : ∀ c, Ex t g' ob' t.init c → Ex t g ob t.init c) : k ≤ k' := by
 obtain ⟨b1, _, ⟨b3, b4⟩ | ⟨b3, b4⟩⟩ := h'
 ·have := h.le; omega
 ·exact h.1 _ (hm _ b4)
theorem EC.lc {k : Int} (h : EC t t.goal [] k) : LC t (Sol t t.init) k := by
 have to : ∀ p, Sol t t.init p → Ex t t.goal [] t.init (q8 t p) := fun p ⟨hv, e, he, hg⟩ => Ex.of (a := []) (o := []) (b := p) hv he hg
 obtain ⟨a1, a2, ⟨a3, a4⟩ | ⟨a3, a4⟩⟩ := h
 ·exact ⟨fun p hp => a1 _ (to p hp), a2, .inl ⟨a3, fun p hp => a4 _ (to p hp)⟩⟩
 ·obtain ⟨p, p1, p2, p3⟩ := a4.plan
  exact ⟨fun p hp => a1 _ (to p hp), a2, .inr ⟨a3, p, ⟨p1, p2⟩, p3⟩⟩
/-! ### The search -/
abbrev Tr := List Int × Nat × Int
def Nx (t : e8) (ob : List Int) (x y : Tr) : Prop := ∃ op : Int, 0 ≤ op ∧ op < t.operators.length ∧ can t x.1 op ∧ y.1 = aft t x.1 op ∧ y.2.2 = x.2.2 + (opAt t op).cost ∧ (y.2.1 = x.2.1 ∨ ob[x.2.1]? = some op ∧ y.2.1 = x.2.1 + 1)
def Cov (H D : Tr → Prop) (y : Tr) : Prop := (∃ c, D (y.1, y.2.1, c) ∧ c ≤ y.2.2) ∨ ∃ c, H (y.1, y.2.1, c) ∧ c ≤ y.2.2
structure Dj (t : e8) (ob : List Int) (H D : Tr → Prop) (B : Int) : Prop where
 hr : ∀ x, H x → Rc t ob x.1 x.2.1 x.2.2 ∧ B ≤ x.2.2
 dr : ∀ x, D x → Rc t ob x.1 x.2.1 x.2.2 ∧ x.2.2 ≤ B
 opt : ∀ x, D x → ∀ c, Rc t ob x.1 x.2.1 c → x.2.2 ≤ c
 ini : Cov H D (t.init, 0, 0)
 nx : ∀ x y, D x → Nx t ob x y → Cov H D y
theorem Dj.front {H D : Tr → Prop} {B : Int} (ht : j8 t) (h : Dj t ob H D B) {s : List Int} {k : Nat} {c : Int} (hr : Rc t ob s k c) : (∃ d, D (s, k, d) ∧ d ≤ c) ∨ ∃ x, H x ∧ x.2.2 ≤ c := by
 have step : ∀ {s : List Int} {k : Nat} {c op : Int} {k' : Nat}, 0 ≤ op → op < t.operators.length → can t s op → (k' = k ∨ ob[k]? = some op ∧ k' = k + 1) → ((∃ d, D (s, k, d) ∧ d ≤ c) ∨ ∃ x, H x ∧ x.2.2 ≤ c) → (∃ d, D (aft t s op, k', d) ∧ d ≤ c + (opAt t op).cost) ∨ ∃ x, H x ∧ x.2.2 ≤ c + (opAt t op).cost := by
  intro s k c op k' h0 h1 hc hk ih
  have hco := (L6 ht h0 h1).2.1
  rcases ih with ⟨d, d1, d2⟩ | ⟨x, x1, x2⟩
  ·rcases h.nx _ (aft t s op, k', d + (opAt t op).cost) d1 ⟨op, h0, h1, hc, rfl, rfl, hk⟩ with ⟨c', e1, e2⟩ | ⟨c', e1, e2⟩
   ·exact .inl ⟨c', e1, by simp only at e2; omega⟩
   ·exact .inr ⟨_, e1, by simp only at e2 ⊢; omega⟩
  ·exact .inr ⟨x, x1, by omega⟩
 induction hr with
 | init =>
  rcases h.ini with ⟨c', e1, e2⟩ | ⟨c', e1, e2⟩
  ·exact .inl ⟨c', e1, e2⟩
  ·exact .inr ⟨_, e1, e2⟩
 | step _ h0 h1 hc ih => exact step h0 h1 hc (.inl rfl) ih
 | obs _ h0 h1 hc ho ih => exact step h0 h1 hc (.inr ⟨ho, rfl⟩) ih
theorem Dj.again {H H' D : Tr → Prop} {B : Int} (h : Dj t ob H D B) {x : Tr} (hH : ∀ y, H y ↔ y = x ∨ H' y) (hm : ∀ y, H y → x.2.2 ≤ y.2.2) {d : Int} (hx : D (x.1, x.2.1, d)) : Dj t ob H' D x.2.2 := by
 have hxH := (hH x).2 (.inl rfl)
 have hd := h.opt _ hx _ (h.hr x hxH).1
 have cov : ∀ y, Cov H D y → Cov H' D y := fun y hy => by
  rcases hy with ⟨c, c1, c2⟩ | ⟨c, c1, c2⟩
  ·exact .inl ⟨c, c1, c2⟩
  ·rcases (hH _).1 c1 with e | c1
   ·subst e
    exact .inl ⟨d, hx, by simp only at hd; omega⟩
   ·exact .inr ⟨c, c1, c2⟩
 exact ⟨fun y hy => ⟨(h.hr y ((hH y).2 (.inr hy))).1, hm y ((hH y).2 (.inr hy))⟩, fun y hy => ⟨(h.dr y hy).1, by have := (h.dr y hy).2; have := (h.hr x hxH).2; omega⟩, h.opt, cov _ h.ini, fun a b ha hb => cov _ (h.nx a b ha hb)⟩
theorem Dj.next {H H' D : Tr → Prop} {B : Int} (ht : j8 t) (h : Dj t ob H D B) {x : Tr} (hH : ∀ y, H y → y = x ∨ H' y) (hH1 : ∀ y, H' y → H y ∨ Nx t ob x y) (hH2 : ∀ y, Nx t ob x y → H' y) (hx : H x) (hm : ∀ y, H y → x.2.2 ≤ y.2.2) (hn : ∀ d, ¬ D (x.1, x.2.1, d)) :
  Dj t ob H' (fun y => y = x ∨ D y) x.2.2 := by
 have hxB := (h.hr x hx)
 have cov : ∀ y, Cov H D y → Cov H' (fun y => y = x ∨ D y) y := fun y hy => by
  rcases hy with ⟨c, c1, c2⟩ | ⟨c, c1, c2⟩
  ·exact .inl ⟨c, .inr c1, c2⟩
  ·rcases hH _ c1 with e | c1
   ·exact .inl ⟨c, .inl e, c2⟩
   ·exact .inr ⟨c, c1, c2⟩
 refine ⟨fun y hy => ?_, fun y hy => ?_, fun y hy c hc => ?_, cov _ h.ini, fun a b ha hb => ?_⟩
 ·rcases hH1 y hy with hy | ⟨op, h0, h1, hc, e1, e2, e3⟩
  ·exact ⟨(h.hr y hy).1, hm y hy⟩
  ·have hco := (L6 ht h0 h1).2.1
   refine ⟨?_, by omega⟩
   rw [e1, e2]
   rcases e3 with e3 | ⟨e3, e4⟩
   ·rw [e3]; exact hxB.1.step h0 h1 hc
   ·rw [e4]; exact hxB.1.obs h0 h1 hc e3
 ·rcases hy with rfl | hy
  ·exact ⟨hxB.1, Int.le_refl _⟩
  ·exact ⟨(h.dr y hy).1, by have := (h.dr y hy).2; omega⟩
 ·rcases hy with rfl | hy
  ·rcases h.front ht hc with ⟨d, d1, _⟩ | ⟨z, z1, z2⟩
   ·exact absurd d1 (hn d)
   ·have := hm z z1; omega
  ·exact h.opt y hy c hc
 ·rcases ha with rfl | ha
  ·exact .inr ⟨b.2.2, hH2 b hb, Int.le_refl _⟩
  ·exact cov b (h.nx a b ha hb)
theorem Dj.start : Dj t ob (fun y => y = (t.init, 0, 0)) (fun _ => False) 0 :=
 ⟨fun x hx => by subst hx; exact ⟨.init, Int.le_refl 0⟩, fun x hx => hx.elim, fun x hx => hx.elim, .inr ⟨0, rfl, Int.le_refl 0⟩, fun x y hx => hx.elim⟩
def Got (ob g : List Int) (D : Tr → Prop) (k : Int) : Prop := (k = 1000000000 ∧ ∀ x, D x → x.2.1 = ob.length → ¬ ∀ y ∈ g, y ∈ x.1) ∨ (k < 1000000000 ∧ ∃ x, D x ∧ x.2.1 = ob.length ∧ (∀ y ∈ g, y ∈ x.1) ∧ x.2.2 = k ∧ ∀ z, D z → z.2.1 = ob.length → (∀ y ∈ g, y ∈ z.1) → k ≤ z.2.2)
theorem Got.ec {H D : Tr → Prop} {B k : Int} (ht : j8 t) (h : Dj t ob H D B) (he : ∀ x, ¬ H x) (hg : Got ob g D k) : EC t g ob k := by
 have all : ∀ c, Ex t g ob t.init c → ∃ z, D z ∧ z.2.1 = ob.length ∧ (∀ y ∈ g, y ∈ z.1) ∧ z.2.2 ≤ c := fun c hc => by
  obtain ⟨e, h1, h2⟩ := hc.rc (ob := ob) .init (by simp)
  rcases h.front ht h1 with ⟨d, d1, d2⟩ | ⟨x, x1, _⟩
  ·exact ⟨_, d1, rfl, h2, by simpa using d2⟩
  ·exact absurd x1 (he x)
 rcases hg with ⟨rfl, hn⟩ | ⟨hk, x, x1, x2, x3, rfl, x4⟩
 ·have no : ∀ c, ¬ Ex t g ob t.init c := fun c hc => by
   obtain ⟨z, z1, z2, z3, _⟩ := all c hc
   exact hn z z1 z2 z3
  exact ⟨fun c hc => absurd hc (no c), by omega, .inl ⟨rfl, no⟩⟩
 ·refine ⟨fun c hc => ?_, (h.dr x x1).1.nonneg ht, .inr ⟨hk, ?_⟩⟩
  ·obtain ⟨z, z1, z2, z3, z4⟩ := all c hc
   have := x4 z z1 z2 z3; omega
  ·have := (h.dr x x1).1.ex (g := g) (c' := 0) (by rw [x2, List.drop_length]; exact .goal x3)
   simpa using this
end
end Ab
end
section
namespace Ab
section
variable {α : Type} {le : α → α → Prop}
def sw (a : Nat → α) (i j : Nat) : Nat → α := fun k => if k = i then a j else if k = j then a i else a k
def HpO (le : α → α → Prop) (a : Nat → α) (n : Nat) : Prop := ∀ k, 0 < k → k < n → le (a ((k - 1) / 2)) (a k)
def UpI (le : α → α → Prop) (a : Nat → α) (n j : Nat) : Prop := (∀ k, 0 < k → k < n → k ≠ j → le (a ((k - 1) / 2)) (a k)) ∧ ∀ k, 0 < k → k < n → (k - 1) / 2 = j → 0 < j → le (a ((j - 1) / 2)) (a k)
def DnI (le : α → α → Prop) (a : Nat → α) (n i : Nat) : Prop := (∀ k, 0 < k → k < n → (k - 1) / 2 ≠ i → le (a ((k - 1) / 2)) (a k)) ∧ ∀ k, 0 < k → k < n → (k - 1) / 2 = i → 0 < i → le (a ((i - 1) / 2)) (a k)
theorem sw_l {a : Nat → α} {i j : Nat} : sw a i j i = a j := by simp [sw]
theorem sw_r {a : Nat → α} {i j : Nat} : sw a i j j = a i := by unfold sw; split <;> simp_all
theorem sw_o {a : Nat → α} {i j k : Nat} (h1 : k ≠ i) (h2 : k ≠ j) : sw a i j k = a k := by simp [sw, h1, h2]
theorem up_done {a : Nat → α} {n j : Nat} (h : UpI le a n j) (hd : j = 0 ∨ le (a ((j - 1) / 2)) (a j)) : HpO le a n := fun k k0 k1 => by
 by_cases e : k = j
 ·subst e; exact hd.resolve_left (by omega)
 ·exact h.1 k k0 k1 e
theorem up_step (tr : ∀ a b c, le a b → le b c → le a c) {a : Nat → α} {n j : Nat} (hj : j < n) (h : UpI le a n j) (j0 : 0 < j) (hl : le (a j) (a ((j - 1) / 2))) : UpI le (sw a ((j - 1) / 2) j) n ((j - 1) / 2) := by
 have hp : (j - 1) / 2 < j := by omega
 constructor
 ·intro k k0 k1 ke
  by_cases e : k = j
  ·subst e
   rw [sw_r, sw_l]; exact hl
  ·rw [sw_o ke e]
   by_cases e2 : (k - 1) / 2 = (j - 1) / 2
   ·rw [e2, sw_l]
    have := h.1 k k0 k1 e
    rw [e2] at this
    exact tr _ _ _ hl this
   ·by_cases e3 : (k - 1) / 2 = j
    ·rw [e3, sw_r]
     exact h.2 k k0 k1 e3 j0
    ·rw [sw_o e2 e3]
     exact h.1 k k0 k1 e
 ·intro k k0 k1 ke p0
  rw [sw_o (by omega) (by omega)]
  have hpp := h.1 ((j - 1) / 2) p0 (by omega) (by omega)
  by_cases e : k = j
  ·subst e
   rw [sw_r]; exact hpp
  ·rw [sw_o (by omega) e]
   have := h.1 k k0 k1 e
   rw [ke] at this
   exact tr _ _ _ hpp this
theorem dn_done {a : Nat → α} {n i : Nat} (h : DnI le a n i) (hd : ∀ k, 0 < k → k < n → (k - 1) / 2 = i → le (a i) (a k)) : HpO le a n := fun k k0 k1 => by
 by_cases e : (k - 1) / 2 = i
 ·rw [e]; exact hd k k0 k1 e
 ·exact h.1 k k0 k1 e
theorem dn_step {a : Nat → α} {n i j : Nat} (h : DnI le a n i) (j0 : 0 < j) (jn : j < n) (ji : (j - 1) / 2 = i) (hm : ∀ k, 0 < k → k < n → (k - 1) / 2 = i → le (a j) (a k)) (hl : le (a j) (a i)) : DnI le (sw a i j) n j := by
 have hij : i < j := by omega
 constructor
 ·intro k k0 k1 ke
  by_cases e : k = j
  ·subst e
   rw [ji, sw_r, sw_l]; exact hl
  ·by_cases e2 : k = i
   ·subst e2
    rw [sw_l, sw_o (by omega) (by omega)]
    exact h.2 j j0 jn ji k0
   ·rw [sw_o (k := k) e2 e]
    by_cases e3 : (k - 1) / 2 = i
    ·rw [e3, sw_l]
     exact hm k k0 k1 e3
    ·rw [sw_o e3 ke]
     exact h.1 k k0 k1 e3
 ·intro k k0 k1 ke _
  rw [ji, sw_l, sw_o (by omega) (by omega)]
  have := h.1 k k0 k1 (by omega)
  rw [ke] at this; exact this
theorem hp_root (rf : ∀ a, le a a) (tr : ∀ a b c, le a b → le b c → le a c) {a : Nat → α} {n : Nat} (h : HpO le a n) : ∀ k, k < n → le (a 0) (a k) := by
 intro k
 induction k using Nat.strongRecOn with
 | _ k ih =>
  intro hk
  rcases Nat.eq_zero_or_pos k with rfl | k0
  ·exact rf _
  ·exact tr _ _ _ (ih ((k - 1) / 2) (by omega) (by omega)) (h k k0 hk)
theorem hp_push {a b : Nat → α} {n : Nat} (h : HpO le a n) (hb : ∀ k, k < n → b k = a k) : UpI le b (n + 1) n := by
 constructor
 ·intro k k0 k1 ke
  rw [hb _ (by omega), hb _ (by omega)]
  exact h k k0 (by omega)
 ·intro k k0 k1 ke p0; omega
theorem hp_pop {a : Nat → α} {n : Nat} (h : HpO le a (n + 1)) : DnI le (sw a 0 n) n 0 := by
 constructor
 ·intro k k0 k1 ke
  rw [sw_o (by omega) (by omega), sw_o (by omega) (by omega)]
  exact h k k0 (by omega)
 ·intro k k0 k1 ke p0; omega
/-! ### Rows -/
def gt (l : List α) (d : α) (k : Nat) : α := l[k]?.getD d
def swp (l : List α) (i j : Nat) (x y : α) : List α := (l.set i y).set j x
theorem gt_of {l : List α} {d x : α} {k : Nat} (h : l[k]? = some x) : gt l d k = x := by simp [gt, h]
theorem gt_swp {l : List α} {d x y : α} {i j : Nat} (hi : l[i]? = some x) (hj : l[j]? = some y) : gt (swp l i j x y) d = sw (gt l d) i j := by
 funext k
 have i1 := (List.getElem?_eq_some_iff.1 hi).1
 have j1 := (List.getElem?_eq_some_iff.1 hj).1
 unfold swp sw
 by_cases e : k = i
 ·subst e
  rw [if_pos rfl, gt_of hj]
  by_cases e2 : j = k
  ·subst e2
   refine gt_of ?_
   rw [List.getElem?_set_self (by simpa using j1), ← hi, hj]
  ·refine gt_of ?_
   rw [List.getElem?_set_ne e2, List.getElem?_set_self i1]
 ·rw [if_neg e]
  by_cases e2 : k = j
  ·subst e2
   rw [if_pos rfl, gt_of hi]
   exact gt_of (List.getElem?_set_self (by simpa using j1))
  ·rw [if_neg e2]
   unfold gt
   rw [List.getElem?_set_ne (Ne.symm e2), List.getElem?_set_ne (Ne.symm e)]
theorem swp_perm {l : List α} {x y : α} {i j : Nat} (hi : l[i]? = some x) (hj : l[j]? = some y) : (swp l i j x y).Perm l := by
 classical
 refine List.perm_iff_count.2 fun a => ?_
 have i1 := (List.getElem?_eq_some_iff.1 hi)
 have j1 := (List.getElem?_eq_some_iff.1 hj)
 unfold swp
 obtain ⟨i1, i2⟩ := i1
 obtain ⟨j1, j2⟩ := j1
 rw [List.count_set (h := by simpa using j1), List.count_set (h := i1)]
 have hx : 0 < l.count x := List.count_pos_iff.2 (i2 ▸ List.getElem_mem i1)
 have hy : 0 < l.count y := List.count_pos_iff.2 (j2 ▸ List.getElem_mem j1)
 by_cases e : i = j
 ·subst e
  rw [i2] at j2; subst j2
  simp only [List.getElem_set_self, i2]
  by_cases q : x = a
  ·subst q; simp; omega
  ·simp [q]
 ·rw [List.getElem_set_ne e, i2, j2]
  by_cases q : x = a
  ·subst q
   by_cases q2 : y = x
   ·subst q2; simp; omega
   ·simp [q2]; omega
  ·by_cases q2 : y = a
   ·subst q2; simp [q]
   ·simp [q, q2]
theorem U0 {l : List α} {x y : α} {i j : Nat} : (swp l i j x y).length = l.length := by simp [swp]
end
end Ab
end
section
namespace Ab
open Go
abbrev Nd := c9
def nlt (a b : Nd) : Prop := a.cost < b.cost ∨ a.cost = b.cost ∧ a.sequence < b.sequence
def nle (a b : Nd) : Prop := ¬ nlt b a
theorem ad0 (a : Nd) : nle a a := by unfold nle nlt; omega
theorem nle_trans (a b c : Nd) (h : nle a b) (k : nle b c) : nle a c := by unfold nle nlt at *; omega
theorem nle_of {a b : Nd} (h : nlt a b) : nle a b := by unfold nle nlt at *; omega
theorem nle_cost {a b : Nd} (h : nle a b) : a.cost ≤ b.cost := by unfold nle nlt at h; omega
def nd0 : Nd := ⟨[], 0, 0, 0⟩
abbrev gN (l : List Nd) : Nat → Nd := gt l nd0
def HpN (l : List Nd) : Prop := HpO nle (gN l) l.length
theorem nless_eq {l : List Nd} {i k : Int} {x y : Nd} (hi : ix l i = some x) (hk : ix l k = some y) : l5 i k l = some (dec (nlt x y)) := by
 unfold l5
 simp only [hi, hk, oB]
 by_cases c1 : x.cost < y.cost
 ·rw [if_pos c1, j9 (.inl c1)]; rfl
 ·rw [if_neg c1]
  by_cases c2 : x.cost = y.cost
  ·rw [if_pos c2]
   simp only [oB]
   rw [ac3]
   exact congrArg some (M5 ⟨fun h => .inr ⟨c2, h⟩, fun h => by unfold nlt at h; omega⟩)
  ·rw [if_neg c2, o7 (by unfold nlt; omega)]; rfl
theorem nless1 : x5 = l5 := rfl
theorem nswap1 : w9 = m4 := rfl
theorem nswap_eq {l : List Nd} {i k : Int} {x y : Nd} (hi : ix l i = some x) (hk : ix l k = some y) : m4 i k l = some (swp l i.toNat k.toNat x y) := by
 obtain ⟨i0, i1, _⟩ := o5 hi
 obtain ⟨k0, k1, _⟩ := o5 hk
 obtain ⟨z, hz, _⟩ := j6 (l := l.set i.toNat y) k0 (by simpa using k1)
 unfold m4
 simp only [hi, hk, hz, oB]; rfl
theorem gN_ix {l : List Nd} {i : Int} {x : Nd} (h : ix l i = some x) : gN l i.toNat = x := gt_of (o5 h).2.2
theorem nup_ok {l : List Nd} {j : Int} (hj : 0 ≤ j) (hj' : j < l.length) (hu : UpI nle (gN l) l.length j.toNat) (hb : l.length ≤ 1000000000) :
  ∃ l', A5 j l = some l' ∧ HpN l' ∧ l'.Perm l := by
 unfold A5
 obtain ⟨o, o1, o2, o3⟩ := P3 (body := A8) (s := (l, j))
  (fun s => s.1.Perm l ∧ 0 ≤ s.2 ∧ s.2 < s.1.length ∧ UpI nle (gN s.1) s.1.length s.2.toNat) (fun o => HpN o ∧ o.Perm l) (fun s => s.2.toNat)
  ⟨.refl _, hj, hj', hu⟩ (by
   rintro ⟨c, j⟩ ⟨p1, p2, p3, p4⟩
   simp only at p1 p2 p3 p4
   have hl := p1.length_eq
   unfold A8
   have e1 : w64 (j - 1) = j - 1 := m9 (by omega) (by omega)
   have e3 : (j - 1).tdiv 2 = if j = 0 then 0 else (j - 1) / 2 := by
    split
    ·rename_i q; subst q; rfl
    ·rw [Int.tdiv_eq_ediv_of_nonneg (by omega)]
   have e2 : w64 ((j - 1).tdiv 2) = if j = 0 then 0 else (j - 1) / 2 := by
    rw [e3]; split
    ·rfl
    ·exact m9 (by omega) (by omega)
   simp only [e1, e2, chkN, show ((2 : Int) = 0) = False by simp, if_false, oB]
   by_cases c0 : j = 0
   ·subst c0
    rw [if_pos (by simp)]
    exact .inr ⟨_, rfl, up_done p4 (.inl rfl), p1⟩
   ·simp only [if_neg c0]
    rw [if_neg (by omega)]
    obtain ⟨x, hx, _⟩ := j6 (l := c) p2 p3
    obtain ⟨y, hy, _⟩ := j6 (l := c) (i := (j - 1) / 2) (by omega) (by omega)
    have hpar : ((j - 1) / 2).toNat = (j.toNat - 1) / 2 := by omega
    have gx := gN_ix hx
    have gy := gN_ix hy
    rw [nless_eq hx hy]
    by_cases cx : nlt x y
    ·simp only [j9 cx, oB, Bool.not_true, Bool.false_eq_true, if_false, nswap1, nswap_eq hy hx, U8, U0, if_true]
     have i1 := (o5 hy).2.2
     have i2 := (o5 hx).2.2
     refine .inl ⟨_, rfl, ⟨(swp_perm i1 i2).trans p1, by simp only; omega, by simp only [U0]; omega, ?_⟩, by simp only; omega⟩
     simp only [U0]
     have := up_step (le := nle) nle_trans (a := gN c) (n := c.length) (j := j.toNat) (by omega) p4 (by omega) (by rw [← hpar, gx, gy]; exact nle_of cx)
     rw [← hpar] at this
     rw [show gN (swp c ((j - 1) / 2).toNat j.toNat y x) = sw (gN c) ((j - 1) / 2).toNat j.toNat from gt_swp i1 i2]
     exact this
    ·simp only [o7 cx, oB, Bool.not_false, if_true]
     exact .inr ⟨_, rfl, up_done p4 (.inr (by rw [← hpar, gx, gy]; exact cx)), p1⟩)
 exact ⟨o, by rw [o1]; rfl, o2, o3⟩
theorem npush_ok {l : List Nd} (h : HpN l) (x : Nd) (hb : l.length ≤ 10000000) : ∃ l', p9 x l = some l' ∧ HpN l' ∧ l'.Perm (x :: l) := by
 have ha : app 48 l [x] = some (l ++ [x]) := by unfold app; rw [if_pos (by simp; omega)]
 have e1 : w64 (((l ++ [x]).length : Int) - 1) = (l.length : Int) := by rw [show (((l ++ [x]).length : Int) - 1) = (l.length : Int) by simp]; exact m9 (by omega) (by omega)
 obtain ⟨l', k1, k2, k3⟩ := nup_ok (l := l ++ [x]) (j := l.length) (by omega) (by simp; omega) (by
  rw [Int.toNat_natCast, List.length_append, List.length_singleton]
  refine hp_push (a := gN l) h fun k hk => ?_
  unfold gN gt
  rw [List.getElem?_append_left hk]) (by simp; omega)
 refine ⟨l', ?_, k2, k3.trans (List.perm_append_singleton _ _)⟩
 unfold p9 y7 n9
 simp only [ha, oB, e1, k1]
theorem ndown_ok {l : List Nd} {nv : Nat} (hn : nv < l.length) (hd : DnI nle (gN l) nv 0) (hb : l.length ≤ 1000000000) :
  ∃ l' b, w8 0 (nv : Int) l = some (l', b) ∧ HpO nle (gN l') nv ∧ l'.Perm l ∧ gN l' nv = gN l nv := by
 unfold w8
 obtain ⟨o, o1, o2, o3, o4⟩ := P3 (body := z6 (nv : Int)) (s := (l, (0 : Int)))
  (fun s => s.1.Perm l ∧ 0 ≤ s.2 ∧ s.2 < l.length ∧ DnI nle (gN s.1) nv s.2.toNat ∧ gN s.1 nv = gN l nv ∧ (s.2 = 0 ∨ s.2 < nv)) (fun o => HpO nle (gN o.1) nv ∧ o.1.Perm l ∧ gN o.1 nv = gN l nv) (fun s => (nv : Nat) + 1 - s.2.toNat)
  ⟨.refl _, by simp, by simp; omega, hd, rfl, .inl rfl⟩ (by
   rintro ⟨c, i⟩ ⟨p1, p2, p3, p4, p5, p6⟩
   simp only at p1 p2 p3 p4 p5 p6
   have hl := p1.length_eq
   unfold z6
   have e1 : w64 (w64 (2 * i) + 1) = 2 * i + 1 := by rw [m9 (n := 2 * i) (by omega) (by omega), m9 (by omega) (by omega)]
   simp only [e1]
   by_cases c1 : (nv : Int) ≤ 2 * i + 1
   ·rw [if_pos (by simp [c1])]
    exact .inr ⟨_, rfl, dn_done p4 fun k k0 k1 k2 => by omega, p1, p5⟩
   rw [if_neg (by simp; omega)]
   have e2 : w64 (2 * i + 1 + 1) = 2 * i + 2 := by rw [m9 (by omega) (by omega)]; omega
   simp only [e2]
   obtain ⟨x, hx, _⟩ := j6 (l := c) p2 (by omega)
   have gx := gN_ix hx
   obtain ⟨j, y, j1, hy, j2, j3, j4, j5⟩ : ∃ j y, (Option.bind (if 2 * i + 2 < (nv : Int) then Option.bind (l5 (2 * i + 2) (2 * i + 1) c) fun a32 => some a32 else some false) fun t63 => if t63 = true then some (2 * i + 2) else some (2 * i + 1)) = some j ∧ ix c j = some y ∧ i < j ∧ j < nv ∧ (j - 1) / 2 = i ∧ ∀ k, 0 < k → k < nv → (k - 1) / 2 = i.toNat → nle y (gN c k) := by
    obtain ⟨a, ha, _⟩ := j6 (l := c) (i := 2 * i + 1) (by omega) (by omega)
    have ga := gN_ix ha
    by_cases c2 : 2 * i + 2 < (nv : Int)
    ·obtain ⟨b, hb, _⟩ := j6 (l := c) (i := 2 * i + 2) (by omega) (by omega)
     have gb := gN_ix hb
     rw [if_pos c2, nless_eq hb ha]
     have two : ∀ k, 0 < k → k < nv → (k - 1) / 2 = i.toNat → k = (2 * i + 1).toNat ∨ k = (2 * i + 2).toNat := fun k _ _ _ => by omega
     by_cases c3 : nlt b a
     ·rw [j9 c3]
      refine ⟨2 * i + 2, b, rfl, hb, by omega, c2, by omega, fun k k0 k1 k2 => ?_⟩
      rcases two k k0 k1 k2 with rfl | rfl
      ·rw [ga]; exact nle_of c3
      ·rw [gb]; exact ad0 _
     ·rw [o7 c3]
      refine ⟨2 * i + 1, a, rfl, ha, by omega, by omega, by omega, fun k k0 k1 k2 => ?_⟩
      rcases two k k0 k1 k2 with rfl | rfl
      ·rw [ga]; exact ad0 _
      ·rw [gb]; exact c3
    ·rw [if_neg c2]
     refine ⟨2 * i + 1, a, rfl, ha, by omega, by omega, by omega, fun k k0 k1 k2 => ?_⟩
     have : k = (2 * i + 1).toNat := by omega
     subst this
     rw [ga]; exact ad0 _
   rw [j1, Option.bind_some, nless1, nless_eq hy hx]
   simp only [oB]
   by_cases c4 : nlt y x
   ·simp only [j9 c4, Bool.not_true, Bool.false_eq_true, if_false, nswap_eq hx hy, oB, U8, U0, if_true]
    have i1 := (o5 hx).2.2
    have i2 := (o5 hy).2.2
    have hsw : gN (swp c i.toNat j.toNat x y) = sw (gN c) i.toNat j.toNat := gt_swp i1 i2
    refine .inl ⟨_, rfl, ⟨(swp_perm i1 i2).trans p1, by simp only; omega, by simp only; omega, ?_, ?_, .inr j3⟩, by simp only; omega⟩
    ·simp only [hsw]
     exact dn_step p4 (by omega) (by omega) (by omega) (fun k k0 k1 k2 => by rw [gN_ix hy]; exact j5 k k0 k1 k2) (by rw [gN_ix hy, gx]; exact nle_of c4)
    ·simp only [hsw]
     rw [sw_o (by omega) (by omega)]; exact p5
   ·simp only [o7 c4, Bool.not_false, if_true]
    refine .inr ⟨_, rfl, dn_done p4 fun k k0 k1 k2 => ?_, p1, p5⟩
    rw [gx]
    exact nle_trans _ _ _ c4 (j5 k k0 k1 k2))
 exact ⟨o.1, _, by rw [o1]; rfl, o2, o3, o4⟩
theorem npop_ok {l : List Nd} (h : HpN l) (hl : 0 < l.length) (hb : l.length ≤ 1000000000) : ∃ l' x, x8 l = some (l', x) ∧ HpN l' ∧ l.Perm (x :: l') ∧ ∀ y ∈ l, nle x y := by
 have e1 : w64 ((l.length : Int) - 1) = (l.length : Int) - 1 := m9 (by omega) (by omega)
 obtain ⟨x, hx, _⟩ := j6 (l := l) (i := 0) (by omega) (by omega)
 obtain ⟨y, hy, _⟩ := j6 (l := l) (i := (l.length : Int) - 1) (by omega) (by omega)
 have gx := gN_ix hx
 have hnat : ((l.length : Int) - 1).toNat = l.length - 1 := by omega
 have i1 := (o5 hx).2.2
 have i2 := (o5 hy).2.2
 have hsw : gN (swp l (0 : Int).toNat ((l.length : Int) - 1).toNat x y) = sw (gN l) 0 (l.length - 1) := by rw [← hnat]; exact gt_swp i1 i2
 obtain ⟨l1, b, d1, d2, d3, d4⟩ := ndown_ok (l := swp l (0 : Int).toNat ((l.length : Int) - 1).toNat x y) (nv := l.length - 1) (by rw [U0]; omega) (by
  rw [hsw]
  exact hp_pop (n := l.length - 1) (by rw [show l.length - 1 + 1 = l.length by omega]; exact h)) (by rw [U0]; exact hb)
 have hp1 := d3.trans (swp_perm i1 i2)
 have hl1 := hp1.length_eq
 have hlast : gN l1 (l.length - 1) = x := by rw [d4, hsw, sw_r]; exact gx
 obtain ⟨z, hz, gz⟩ := j6 (l := l1) (i := (l.length : Int) - 1) (by omega) (by omega)
 have hzx : z = x := by rw [← hlast, ← hnat]; exact (gN_ix hz).symm
 subst hzx
 have hview : i6 l1 0 ((l.length : Int) - 1) = l1.dropLast := by
  unfold i6
  simp only [Int.toNat_zero, List.drop_zero, List.dropLast_eq_take, hnat, hl1]
 have hsnoc : l1.dropLast ++ [z] = l1 := by
  have hne : l1 ≠ [] := by intro q; rw [q] at hl1; simp at hl1; omega
  have hlast : l1.getLast hne = z := by
   rw [List.getLast_eq_getElem]
   have := List.getElem?_eq_some_iff.1 gz
   have e : ((l.length : Int) - 1).toNat = l1.length - 1 := by omega
   simp only [e] at this
   exact this.2
  rw [← hlast]; exact List.dropLast_concat_getLast hne
 refine ⟨l1.dropLast, z, ?_, ?_, ?_, fun w hw => ?_⟩
 ·unfold x8 n9 z7
  have e2 : ((l.length - 1 : Nat) : Int) = (l.length : Int) - 1 := by omega
  rw [e2] at d1
  simp only [oB, e1, nswap_eq hx hy, U8, U0, if_true, d1, hl1, hz, cutV]
  rw [if_pos (by omega)]
  simp only [oB]
  rw [hview]
 ·unfold HpN
  have : l1.dropLast.length = l.length - 1 := by rw [List.length_dropLast]; omega
  rw [this]
  intro k k0 k1
  have := d2 k k0 k1
  unfold gN gt at this ⊢
  rw [List.dropLast_eq_take, List.getElem?_take_of_lt (by omega), List.getElem?_take_of_lt (by omega)]
  exact this
 ·have := hp1.symm
  rw [← hsnoc] at this
  exact this.trans (List.perm_append_singleton _ _)
 ·obtain ⟨k, hk⟩ := List.getElem?_of_mem hw
  have h1 := hp_root ad0 nle_trans h k (List.getElem?_eq_some_iff.1 hk).1
  have e : gN l k = w := gt_of hk
  have e0 : gN l 0 = z := gx
  rw [e, e0] at h1; exact h1
end Ab
end
section
namespace Ab
open Go
inductive Ed : Nat → List Int → List Int → Prop
 | nil : Ed 0 [] []
 | keep {n : Nat} {x : Int} {a b : List Int} (h : Ed n a b) : Ed n (x :: a) (x :: b)
 | del {n : Nat} {x : Int} {a b : List Int} (h : Ed n a b) : Ed (n + 1) (x :: a) b
 | ins {n : Nat} {y : Int} {a b : List Int} (h : Ed n a b) : Ed (n + 1) a (y :: b)
theorem Ed.symm {n : Nat} {a b : List Int} (h : Ed n a b) : Ed n b a := by
 induction h with
 | nil => exact .nil
 | keep _ ih => exact .keep ih
 | del _ ih => exact .ins ih
 | ins _ ih => exact .del ih
theorem Ed.eq {n : Nat} {a b : List Int} (h : Ed n a b) : n = 0 → a = b := by
 induction h with
 | nil => intro _; rfl
 | keep _ ih => intro h; rw [ih h]
 | del => intro h; omega
 | ins => intro h; omega
theorem Ed.all : ∀ b : List Int, Ed b.length [] b
 | [] => .nil
 | _ :: b => .ins (Ed.all b)
theorem Ed.none : ∀ b : List Int, Ed b.length b []
 | [] => .nil
 | _ :: b => .del (Ed.none b)
/-! ### Distance -/
def RowIs (m : Nat) (f : Nat → Nat) (row : List Int) : Prop := row.length = m + 1 ∧ ∀ k, k ≤ m → row[k]? = some (f k : Int)
theorem RowIs.ix {m : Nat} {f : Nat → Nat} {row : List Int} (h : RowIs m f row) {k : Nat} (hk : k ≤ m) : ix row (k : Int) = some (f k : Int) := by rw [F0]; exact h.2 k hk
theorem RowIs.congr {m : Nat} {f g : Nat → Nat} {row : List Int} (h : RowIs m f row) (hg : ∀ k, k ≤ m → f k = g k) : RowIs m g row := ⟨h.1, fun k hk => by rw [h.2 k hk, hg k hk]⟩
end Ab
end
section
namespace Ab
open Go
end Ab
end
section
namespace Ab
open Go
theorem ae5 {α β : Type} {l : List α} {body : Int → List β → Option (List β)} (g : α → List β) (N : Nat) (c0 : List β)
  (hb : ∀ j a c, ix l j = some a → c.length + (g a).length ≤ N → body j c = some (c ++ g a)) (hN : c0.length + (l.flatMap g).length ≤ N) :
  forR 0 (l.length : Int) body c0 = some (c0 ++ l.flatMap g) := by
 obtain ⟨s', h1, h2⟩ := M6 (body := body) (n := (l.length : Int)) (s := c0) (fun j c => c = c0 ++ (l.take j.toNat).flatMap g) (by omega) (by simp) (fun j c h0 h1 hP => by
  obtain ⟨a, g1, g2⟩ := j6 h0 h1
  have e : (j + 1).toNat = j.toNat + 1 := by omega
  have ht : l.take (j + 1).toNat = l.take j.toNat ++ [a] := by rw [e, List.take_add_one, g2]; rfl
  refine ⟨c ++ g a, hb j a c g1 ?_, ?_⟩
  ·have hs : l = l.take j.toNat ++ [a] ++ l.drop (j + 1).toNat := by rw [← ht, List.take_append_drop]
   have hl : (l.flatMap g).length = ((l.take j.toNat).flatMap g).length + (g a).length + ((l.drop (j + 1).toNat).flatMap g).length := by
    conv => lhs; rw [hs]
    simp [List.flatMap_append]; omega
   rw [hP, List.length_append]; omega
  ·rw [ht, List.flatMap_append, hP]; simp)
 rw [h1, h2]
 simp
theorem small_eq : ∀ n : Fin 100, (internal_strconv_small (n : Nat)).map strL = some (dg (n : Nat)) := by decide +kernel
theorem appendInt_eq {x : Int} (hx : 0 ≤ x ∧ x < 100) {l : List Int} (hl : l.length ≤ 1000000) : u3 x 10 l = some (l ++ dg x) := by
 have h := small_eq ⟨x.toNat, by omega⟩
 rw [show (((⟨x.toNat, by omega⟩ : Fin 100) : Nat) : Int) = x by simp; omega] at h
 obtain ⟨b, h1, h2⟩ := Option.map_eq_some_iff.1 h
 first
  | unfold u3 s7 q7
  | unfold u3 internal_strconv_AppendInt_w2 internal_strconv_AppendUint_w3
 rw [if_neg (by omega), IntKind.wrap_u64, Int.emod_eq_of_lt (by omega) (by omega)]
 simp only [oB, if_true]
 rw [if_pos hx.2, m9 (by omega) (by omega), h1]
 simp only [oB, h2]
 have : (dg x).length ≤ 2 := by unfold dg; split <;> simp
 rw [app, if_pos (by omega)]
 rfl
theorem dg_len (x : Int) : (dg x).length ≤ 2 := by unfold dg; split <;> simp
theorem key_eq {l : List (List Int)} (hs : ∀ s ∈ l, K4 s) (hN : (encK l).length ≤ 900000) : B9 l = some (keyK l) := by
 unfold B9
 rw [ae5 encS 900000 [] (fun j s c hj hc => by
  unfold W2
  rw [hj]
  simp only [oB]
  have hlen : (encS s).length = (s.flatMap fun x => dg x ++ [44]).length + 1 := by simp [encS]
  rw [ae5 (fun x => dg x ++ [44]) 900000 c (fun i x c' hi hc' => by
   unfold V8
   rw [hi]
   simp only [List.length_append, List.length_singleton] at hc'
   simp only [oB, appendInt_eq (hs s (s5 hj) x (s5 hi)) (l := c') (by omega)]
   rw [app, if_pos (by simp; omega)]
   simp) (by omega)]
  simp only [oB]
  rw [app, if_pos (by rw [List.length_append]; simp only [List.length_singleton]; omega)]
  simp [encS]) (by simpa [encK] using hN)]
 rfl
theorem ac8 : ∀ s : List Int, (encS s).length ≤ 3 * s.length + 1
 | [] => by simp [encS]
 | x :: s => by
  have := ac8 s
  have := dg_len x
  rw [U9]
  simp only [List.length_append, List.length_cons]
  omega
theorem key2_eq {s a : List Int} (hs : K4 s) (ha : K4 a) (h1 : s.length ≤ 1000) (h2 : a.length ≤ 1000) : B9 [s, a] = some (keyK [s, a]) := by
 refine key_eq (by simp [hs, ha]) ?_
 have := ac8 s; have := ac8 a
 simp only [encK, List.flatMap_cons, List.flatMap_nil, List.length_append, List.append_nil]
 omega
end Ab
end
section
namespace Ab
open Go
/-! ### All sets -/
/-! ### Keys -/
theorem flat_lenP {α β : Type} (f : α → List β) (n : Nat) (hf : ∀ a, (f a).length = n) : ∀ l : List α, (l.flatMap f).length = l.length * n
 | [] => by simp
 | a :: l => by simp only [List.flatMap_cons, List.length_append, flat_lenP f n hf l, hf, List.length_cons, Nat.succ_mul]; omega
theorem M1 {t : e8} (ht : j8 t) {s : List Int} (hs : SetN s t.facts) : K4 s := fun x hx => by
 have := ht.n1
 have := hs.2 x hx
 omega
/-! ### Maps -/
section
variable {K V : Type} [DecidableEq K]
end
/-! ### What the search keeps -/
abbrev Mp' := List (ByteArray × Int)
end Ab
end
section
namespace Ab
open Go
theorem kone_eq {s : List Int} (hs : K4 s) (h1 : s.length ≤ 1000) : B9 [s] = some (keyK [s]) := by
 refine key_eq (by simp [hs]) ?_
 have := ac8 s
 simp only [encK, List.flatMap_cons, List.flatMap_nil, List.append_nil]
 omega
theorem kone_inj {t : e8} (ht : j8 t) {s s' : List Int} (h : SetN s t.facts) (h' : SetN s' t.facts) (e : keyK [s] = keyK [s']) : s = s' := by
 have := keyK_inj (fun x hx => by simp at hx; subst hx; exact M1 ht h) (fun x hx => by simp at hx; subst hx; exact M1 ht h') e
 simpa using this
theorem containsAny_eq {l : List (List Int)} {f : List Int → Option Bool} {p : List Int → Prop} (h : ∀ x ∈ l, f x = some (dec (p x))) : s3 l f = some (dec (∃ x ∈ l, p x)) := by
 unfold s3 B7
 rcases D5 (body := y6 l f) (n := (l.length : Int)) (fun j => if dec (∃ x, ix l j = some x ∧ p x) = true then some j else none) (by omega) (fun j h0 h1 _ => by
  obtain ⟨x, hx, _⟩ := j6 (l := l) h0 h1
  unfold y6
  simp only [hx, oB, h x (s5 hx)]
  by_cases e : p x
  ·rw [ifP e, ifP ⟨x, rfl, e⟩]
  ·rw [ifN e, ifN (by rintro ⟨z, hz, hp⟩; cases hz; exact e hp)]) with ⟨h1, h2⟩ | ⟨j, o, h0, h1, h2, h3, h4⟩
 ·rw [h1]
  simp only [oB]
  rw [o7]
  ·rfl
  ·rintro ⟨x, hx, hp⟩
   obtain ⟨i, i0, i1, hi⟩ := G6 hx
   have := h2 i i0 i1
   rw [ifP ⟨x, hi, hp⟩] at this
   cases this
 ·rw [h4]
  split at h2
  ·rename_i e
   cases h2
   simp only [oB]
   obtain ⟨x, hx, hp⟩ := i5.1 e
   rw [j9 ⟨x, s5 hx, hp⟩, decide_eq_true h0]
  ·cases h2
theorem sure_one {s pre : List Int} (hs : Inc s) (hp : Inc pre) (hl : s.length ≤ 1000000) : O3 [s] pre = some (dec (∀ x ∈ pre, x ∈ s)) := by
 unfold O3
 rw [containsAny_eq (p := fun y => ¬ ∀ x ∈ pre, x ∈ y) (fun x hx => by
  simp only [List.mem_singleton] at hx
  subst hx
  unfold O9
  rw [U3 hs hp hl]
  simp only [oB, n5])]
 simp only [oB, n5]
 refine congrArg some (M5 ⟨fun h => Classical.byContradiction fun g => h ⟨s, by simp, g⟩, fun h => ?_⟩)
 rintro ⟨x, hx, hn⟩
 simp only [List.mem_singleton] at hx
 subst hx
 exact hn h
theorem after_one {t : e8} (ht : j8 t) {s : List Int} (hs : SetN s t.facts) {op : Int} (h0 : 0 ≤ op) (h1 : op < t.operators.length) : I1 t [s] op = some [aft t s op] := by
 have e : forR 0 (([s] : List (List Int)).length : Int) (G0 t [s] op) [] = some [aft t s op] := by
  show forN (G0 t [s] op) 1 0 [] = _
  simp only [forN]
  have e0 : ix [s] 0 = some s := rfl
  have e1 : app 24 ([] : List (List Int)) [aft t s op] = some [aft t s op] := rfl
  unfold G0
  simp only [e0, oB, next_eq ht h0 h1 hs, e1]
 unfold I1
 rw [e]
 simp only [oB]
 obtain ⟨r, r1, r2, r3, _⟩ := normal_eq (l := [aft t s op]) (by simp)
 rw [r1]
 simp only [oB]
 rw [Ord.ext r2 (by simp) r3]
structure Bq (t : e8) (l : List (List Int)) (m : Mp') (qu : List g7) : Prop where
 node : qu.map (·.node) = l.map (fun s => [s])
 nd : l.Nodup
 rt : ∀ s ∈ l, Rt t s
 map : ∀ s, SetN s t.facts → (0 < (mget m (keyK [s])).getD 0 ↔ s ∈ l)
 len : l.length ≤ 2000
theorem Bq.ql {t : e8} {l : List (List Int)} {m : Mp'} {qu : List g7} (h : Bq t l m qu) : qu.length = l.length := by
 have := congrArg List.length h.node
 simpa using this
theorem Bq.at {t : e8} {l : List (List Int)} {m : Mp'} {qu : List g7} (h : Bq t l m qu) {i : Int} {e : g7} (hi : ix qu i = some e) : ∃ s, ix l i = some s ∧ e.node = [s] := by
 obtain ⟨h0, h1, h2⟩ := o5 hi
 have hg := congrArg (fun l => l[i.toNat]?) h.node
 simp only [List.getElem?_map, h2, Option.map_some] at hg
 cases hs : l[i.toNat]? with
 | none => rw [hs] at hg; cases hg
 | some s =>
  rw [hs] at hg
  simp only [Option.map_some, Option.some.injEq] at hg
  refine ⟨s, ?_, hg⟩
  rw [show i = ((i.toNat : Nat) : Int) by omega, F0]
  exact hs
theorem breadth_in {t : e8} (ht : j8 t) {l : List (List Int)} {m : Mp'} {qu : List g7} (h : Bq t l m qu) {c : Int} {e : g7} {s : List Int} (hs : s ∈ l) (he : e.node = [s]) :
  (∃ l' m' qu', u4 t.facts t.init t.goal t.operators qu m c e = some (.inl (m', qu')) ∧ Bq t l' m' qu' ∧ (∃ ex, l' = l ++ ex) ∧ Cls t l' s) ∨ (∃ y, u4 t.facts t.init t.goal t.operators qu m c e = some (.inr y) ∧ Many t) := by
 have hsN := (h.rt s hs).setN ht
 have h24 := ht.n1
 unfold u4
 rcases ad1 (body := A7 t.facts t.init t.goal t.operators c e) (n := (t.operators.length : Int)) (s := (m, qu))
  (fun j st => ∃ l', Bq t l' st.1 st.2 ∧ (∃ ex, l' = l ++ ex) ∧ ∀ op : Int, 0 ≤ op → op < j → can t s op → aft t s op ∈ l')
  (fun o => ∃ y, o = .inr y ∧ Many t) (by omega) ⟨l, h, ⟨[], by simp⟩, fun op o0 o1 => by omega⟩
  (fun j st j0 j1 hP => by
   obtain ⟨m1, qu1⟩ := st
   obtain ⟨l1, g1, g2, g3⟩ := hP
   simp only at g1
   have hop := ht.at j0 j1
   have hnew := ac7 t s j
   unfold A7
   simp only [ix_op j0 j1, oB, he]
   rw [sure_one hsN.1 hop.1.1.1 (by have := hsN.len; omega)]
   simp only [oB]
   by_cases hc : can t s j
   ·rw [if_pos (j9 (show ∀ x ∈ (opAt t j).pre, x ∈ s from hc))]
    have ea : I1 (⟨t.facts, t.init, t.goal, t.operators⟩ : e8) [s] j = some [aft t s j] := after_one ht hsN j0 j1
    rw [ea]
    simp only [oB, kone_eq (M1 ht hnew) (by have := hnew.len; omega)]
    by_cases hm : aft t s j ∈ l1
    ·rw [if_pos ((g1.map _ hnew).2 hm)]
     refine .inl ⟨_, rfl, l1, g1, g2, fun op o0 o1 oc => ?_⟩
     by_cases eo : op = j
     ·subst eo; exact hm
     ·exact g3 op o0 (by omega) oc
    ·rw [if_neg (fun hx => hm ((g1.map _ hnew).1 hx))]
     have hrt : Rt t (aft t s j) := (h.rt s hs).step j0 j1 hc
     have hnd : (l1 ++ [aft t s j]).Nodup := by
      rw [List.nodup_append]
      refine ⟨g1.nd, by simp, fun a ha b hb eab => ?_⟩
      simp only [List.mem_singleton] at hb
      subst hb; subst eab; exact hm ha
     have hrs : ∀ y ∈ l1 ++ [aft t s j], Rt t y := fun y hy => by
      rcases List.mem_append.1 hy with hy | hy
      ·exact g1.rt y hy
      ·simp only [List.mem_singleton] at hy; subst hy; exact hrt
     have hql := g1.ql
     have hlen := g1.len
     by_cases hq : (qu1.length : Int) = 2000
     ·rw [if_pos hq]
      exact .inr ⟨_, rfl, _, rfl, l1 ++ [aft t s j], hnd, by simp; omega, hrs⟩
     ·rw [if_neg hq]
      have ha : app 40 qu1 [(⟨[aft t s j], c, j⟩ : g7)] = some (qu1 ++ [⟨[aft t s j], c, j⟩]) := by rw [app, if_pos (by simp; omega)]
      rw [ha]
      refine .inl ⟨_, rfl, l1 ++ [aft t s j], ⟨by simp [g1.node], hnd, hrs, fun y hy => ?_, by simp; omega⟩, ?_, fun op o0 o1 oc => ?_⟩
      ·simp only
       rw [V3]
       by_cases ek : keyK [y] = keyK [aft t s j]
       ·rw [if_pos ek, kone_inj ht hy hnew ek]; simp
       ·rw [if_neg ek, g1.map y hy, List.mem_append, List.mem_singleton]
        exact ⟨.inl, fun g => g.elim id fun g => absurd (by rw [g]) ek⟩
      ·obtain ⟨ex, rfl⟩ := g2
       exact ⟨ex ++ [aft t s j], by simp⟩
      ·by_cases eo : op = j
       ·subst eo; simp
       ·exact List.mem_append_left _ (g3 op o0 (by omega) oc)
   ·rw [if_neg (show ¬ dec (∀ x ∈ (opAt t j).pre, x ∈ s) = true from fun g => hc (i5.1 g))]
    refine .inl ⟨_, rfl, l1, g1, g2, fun op o0 o1 oc => ?_⟩
    by_cases eo : op = j
    ·subst eo; exact absurd oc hc
    ·exact g3 op o0 (by omega) oc) with ⟨⟨m', qu'⟩, h1, l', h2, h3, h4⟩ | ⟨o, h1, y, rfl, h2⟩
 ·left
  rw [h1]
  exact ⟨l', m', qu', rfl, h2, h3, h4⟩
 ·right
  rw [h1]
  exact ⟨y, rfl, h2⟩
theorem breadth_spec {t : e8} (ht : j8 t) : ∃ b, C4 [t.init] t.facts t.init t.goal t.operators = some b ∧ (b = false → Many t) ∧ (b = true → ∃ l : List (List Int), l.Nodup ∧ l.length ≤ 2000 ∧ ∀ s, s ∈ l ↔ Rt t s) := by
 have h24 := ht.n1
 unfold C4 D4
 rw [kone_eq (M1 ht ht.init) (by have := ht.init.len; omega)]
 simp only [oB]
 obtain ⟨o, h1, h2⟩ := P3 (body := B0 t.facts t.init t.goal t.operators) (s := ([(⟨[t.init], -1, 0⟩ : g7)], mset ([] : List (ByteArray × Int)) (keyK [t.init]) 1, 0))
  (fun s => ∃ l, Bq t l s.2.1 s.1 ∧ t.init ∈ l ∧ 0 ≤ s.2.2 ∧ s.2.2 ≤ l.length ∧ ∀ (k : Int) (x : List Int), k < s.2.2 → ix l k = some x → Cls t l x)
  (fun o => (o = .inl () ∧ ∃ l : List (List Int), l.Nodup ∧ l.length ≤ 2000 ∧ ∀ s, s ∈ l ↔ Rt t s) ∨ (o = .inr ([], false, false) ∧ Many t))
  (fun s => 2001 - s.2.2.toNat) ⟨[t.init], ⟨rfl, by simp, fun s hs => by simp at hs; subst hs; exact .init, fun s hs => by
   simp only
   rw [V3]
   by_cases ek : keyK [s] = keyK [t.init]
   ·rw [if_pos ek, kone_inj ht hs ht.init ek]; simp
   ·rw [if_neg ek]
    simp only [mget, Option.getD_none, List.mem_singleton]
    exact ⟨fun h => by omega, fun g => absurd (by rw [g]) ek⟩, by simp⟩, by simp, by simp only; omega, by simp only; omega, fun k x hk hx => by have := o5 hx; simp only at hk; omega⟩
  (fun s hP => by
   obtain ⟨qu, m, c⟩ := s
   obtain ⟨l, g1, g2, g3, g4, g5⟩ := hP
   simp only at g1 g3 g4 g5
   have hql := g1.ql
   have hlen := g1.len
   unfold B0
   dsimp only
   by_cases cc : c < (qu.length : Int)
   ·rw [if_pos cc]
    obtain ⟨e, he, _⟩ := j6 (l := qu) g3 cc
    obtain ⟨s, hs, hn⟩ := g1.at he
    simp only [he, oB, F4, L4, E4]
    rw [if_neg (by simp)]
    rcases breadth_in ht g1 (c := c) (s5 hs) hn with ⟨l', m', qu', k1, k2, ⟨ex, rfl⟩, k4⟩ | ⟨⟨y1, y2⟩, k1, k2⟩
    ·left
     rw [k1]
     refine ⟨(qu', m', c + 1), by simp only [oB]; rw [m9 (by omega) (by omega)], ⟨l ++ ex, k2, List.mem_append_left _ g2, by simp only; omega, by simp only [List.length_append]; omega, fun k x hk hx => ?_⟩, by simp only; omega⟩
     simp only at hk
     have hx0 := o5 hx
     have hx2 : ix l k = some x := by
      rw [show k = ((k.toNat : Nat) : Int) by omega, F0] at hx ⊢
      rwa [List.getElem?_append_left (by omega)] at hx
     by_cases ek : k = c
     ·subst ek
      rw [hs] at hx2; cases hx2
      exact k4
     ·exact fun op o0 o1 oc => List.mem_append_left _ (g5 k x (by omega) hx2 op o0 o1 oc)
    ·right
     rw [k1]
     exact ⟨_, rfl, .inr ⟨rfl, k2⟩⟩
   ·rw [if_neg cc]
    right
    refine ⟨_, rfl, .inl ⟨rfl, l, g1.nd, hlen, fun s => ⟨g1.rt s, fun hs => hs.mem g2 fun x hx => ?_⟩⟩⟩
    obtain ⟨k, k0, k1, k2⟩ := G6 hx
    exact g5 k x (by omega) k2)
 rw [h1]
 rcases h2 with ⟨rfl, h2⟩ | ⟨rfl, h2⟩
 ·exact ⟨true, rfl, by simp, fun _ => h2⟩
 ·exact ⟨false, rfl, fun _ => h2, by simp⟩
end Ab
end
section
namespace Ab
open Go
def tri (n : Nd) : Tr := (n.fs, n.seen.toNat, n.cost)
def HS (H : List Nd) (y : Tr) : Prop := ∃ n ∈ H, tri n = y
def nkey (s : List Int) (k : Int) : ByteArray := keyK [s, [k]]
theorem small1 {k : Int} (h0 : 0 ≤ k) (h1 : k ≤ 60) : K4 [k] := fun x hx => by simp at hx; omega
theorem nkey_eq {t : e8} (ht : j8 t) {s : List Int} (hs : SetN s t.facts) {k : Int} (h0 : 0 ≤ k) (h1 : k ≤ 60) : B9 [s, [k]] = some (nkey s k) :=
 key2_eq (M1 ht hs) (small1 h0 h1) (by have := hs.len; have := ht.n1; omega) (by simp)
theorem nkey_inj {t : e8} (ht : j8 t) {s s' : List Int} {k k' : Int} (hs : SetN s t.facts) (hs' : SetN s' t.facts) (h0 : 0 ≤ k) (h1 : k ≤ 60) (h0' : 0 ≤ k') (h1' : k' ≤ 60) (e : nkey s k = nkey s' k') : s = s' ∧ k = k' := by
 have := keyK_inj (l := [s, [k]]) (l' := [s', [k']]) (fun a ha => by
  simp at ha; rcases ha with rfl | rfl
  ·exact M1 ht hs
  ·exact small1 h0 h1) (fun a ha => by
  simp at ha; rcases ha with rfl | rfl
  ·exact M1 ht hs'
  ·exact small1 h0' h1') e
 simpa using this
theorem repeat1_eq (c : Int) {n : Nat} (h1 : 1 ≤ n) (hn : n ≤ 100000) : x9 [c] (n : Int) = some (List.replicate n c) := by
 unfold x9
 dsimp only
 rw [if_pos (show (1 : Int) ≤ n ∧ (n : Int) ≤ 4294967295 by omega)]
 simp
section
variable {t : e8} {ob : List Int} {goals : List (List Int)} {S : List (List Int)}
structure Rq (t : e8) (goals : List (List Int)) (ob : List Int) (S : List (List Int)) : Prop where
 ht : j8 t
 g0 : 1 ≤ goals.length
 g1 : goals.length ≤ 4
 gs : ∀ g ∈ goals, SetN g t.facts
 o8 : ob.length ≤ 8
 sn : S.length ≤ 2000
 sm : ∀ s, Rt t s → s ∈ S
def allK (S : List (List Int)) : List ByteArray := S.flatMap fun s => (List.range 9).map fun k : Nat => nkey s (k : Int)
theorem allK_len : (allK S).length ≤ S.length * 9 := by
 unfold allK
 rw [flat_lenP _ 9 (fun a => by simp)]
 exact Nat.le_refl _
theorem allK_mem {s : List Int} (hs : s ∈ S) {k : Int} (h0 : 0 ≤ k) (h1 : k ≤ 8) : nkey s k ∈ allK S :=
 List.mem_flatMap.2 ⟨s, hs, List.mem_map.2 ⟨k.toNat, List.mem_range.2 (by omega), by rw [Int.toNat_of_nonneg h0]⟩⟩
abbrev Mb := List (ByteArray × Int)
structure Mk' (t : e8) (S : List (List Int)) (m : Mb) (D : Tr → Prop) : Prop where
 nd : (m.map (·.1)).Nodup
 sub : ∀ k ∈ m.map (·.1), k ∈ allK S
 iff : ∀ s k, SetN s t.facts → 0 ≤ k → k ≤ 8 → (0 < Option.getD (mget m (nkey s k)) 0 ↔ ∃ d, D (s, k.toNat, d))
theorem Mk'.len {m : Mb} {D : Tr → Prop} (h : Mk' t S m D) : m.length ≤ S.length * 9 := by
 have := V1 h.nd h.sub
 have := allK_len (S := S)
 simp at *; omega
structure Wf (ob : List Int) (C : Int) (n : Nd) : Prop where
 s0 : 0 ≤ n.seen
 s1 : n.seen ≤ ob.length
 c1 : n.cost ≤ C
structure Rv' (t : e8) (goals : List (List Int)) (ob : List Int) (S : List (List Int)) (o : List Int) (H : List Nd) (m : Mb) (cnt : Int) (D : Tr → Prop) : Prop where
 hp : HpN H
 wf : ∀ n ∈ H, Wf ob (100 * m.length) n
 dj : ∃ B, Dj t ob (HS H) D B
 mp : Mk' t S m D
 ol : o.length = goals.length
 og : ∀ (i : Int) g k, ix goals i = some g → ix o i = some k → Got ob g D k
 hl : H.length ≤ 1 + 80 * m.length
 cn : 0 ≤ cnt ∧ cnt ≤ 1 + 80 * m.length
theorem rg_goals (hq : Rq t goals ob S) {x : Nd} {o : List Int} {D : Tr → Prop} {B : Int} (hs : SetN x.fs t.facts) (h0 : 0 ≤ x.seen) (hc : x.cost < 1000000000) (hD : ∀ y, D y → y.2.2 ≤ B) (hB : B ≤ x.cost) (ol : o.length = goals.length) (og : ∀ (i : Int) g k, ix goals i = some g → ix o i = some k → Got ob g D k) (H : List Nd) :
  ∃ o', forR 0 (goals.length : Int) (C2 goals ob (H, x)) o = some o' ∧ o'.length = goals.length ∧ ∀ (i : Int) g k, ix goals i = some g → ix o' i = some k → Got ob g (fun y => y = tri x ∨ D y) k := by
 have skip : ∀ g k, Got ob g D k → (¬ (x.seen = ob.length ∧ ∀ y ∈ g, y ∈ x.fs) ∨ k ≠ 1000000000) → Got ob g (fun y => y = tri x ∨ D y) k := fun g k hg h => by
  have hsn : x.seen.toNat = ob.length ↔ x.seen = ob.length := by omega
  rcases hg with ⟨rfl, hn⟩ | ⟨hk, w, w1, w2, w3, w4, w5⟩
  ·refine .inl ⟨rfl, fun y hy h2 h3 => ?_⟩
   rcases hy with rfl | hy
   ·exact (h.resolve_right (by simp)) ⟨hsn.1 h2, h3⟩
   ·exact hn y hy h2 h3
  ·refine .inr ⟨hk, w, .inr w1, w2, w3, w4, fun z hz h2 h3 => ?_⟩
   rcases hz with rfl | hz
   ·have := hD w w1
    simp only [tri]; omega
   ·exact w5 z hz h2 h3
 obtain ⟨o', h1, h2, h3⟩ := M6 (body := C2 goals ob (H, x)) (n := (goals.length : Int)) (s := o)
  (fun j c => c.length = goals.length ∧ ∀ (i : Int) g k, ix goals i = some g → ix c i = some k → (i < j → Got ob g (fun y => y = tri x ∨ D y) k) ∧ (j ≤ i → Got ob g D k)) (by omega)
  ⟨ol, fun i g k hg hk => ⟨fun h => by have := (o5 hg).1; omega, fun _ => og i g k hg hk⟩⟩ (fun j c j0 j1 hP => by
   obtain ⟨p1, p2⟩ := hP
   obtain ⟨g, hg, _⟩ := j6 j0 j1
   obtain ⟨k, hk, _⟩ := j6 (l := c) j0 (by omega)
   have hgot := (p2 j g k hg hk).2 (Int.le_refl j)
   have hgs := hq.gs g (s5 hg)
   have n1 := hq.ht.n1
   unfold C2
   simp only [hg, hk, oB, U3 hs.1 hgs.1 (by have := hs.len; omega)]
   -- the loop goes on
   have keep : Got ob g (fun y => y = tri x ∨ D y) k → ∃ s', some c = some s' ∧ s'.length = goals.length ∧ ∀ (i : Int) g k, ix goals i = some g → ix s' i = some k → (i < j + 1 → Got ob g (fun y => y = tri x ∨ D y) k) ∧ (j + 1 ≤ i → Got ob g D k) := fun hnew => ⟨c, rfl, p1, fun i g' k' hg' hk' => ⟨fun hi => by
    by_cases e : i = j
    ·subst e; rw [hg] at hg'; rw [hk] at hk'; cases hg'; cases hk'; exact hnew
    ·exact (p2 i g' k' hg' hk').1 (by omega), fun hi => (p2 i g' k' hg' hk').2 (by omega)⟩⟩
   by_cases c1 : x.seen = ob.length
   ·simp only [if_pos c1]
    by_cases c2 : k = 1000000000
    ·simp only [if_pos c2, oB]
     by_cases c3 : ∀ y ∈ g, y ∈ x.fs
     ·simp only [j9 c3, if_true]
      refine ⟨_, rfl, by simp [p1], fun i g' k' hg' hk' => ?_⟩
      rw [ix_put j0 (by omega) (o5 hg').1] at hk'
      by_cases e : i = j
      ·subst e
       rw [hg] at hg'; cases hg'
       rw [if_pos rfl] at hk'; cases hk'
       refine ⟨fun _ => .inr ⟨hc, tri x, .inl rfl, by simp only [tri]; omega, c3, rfl, fun z hz h2 h3 => ?_⟩, fun h => by omega⟩
       rcases hz with rfl | hz
       ·exact Int.le_refl _
       ·rcases hgot with ⟨_, hn⟩ | ⟨hk2, _⟩
        ·exact absurd h3 (hn z hz h2)
        ·omega
      ·rw [if_neg e] at hk'
       exact ⟨fun hi => (p2 i g' k' hg' hk').1 (by omega), fun hi => (p2 i g' k' hg' hk').2 (by omega)⟩
     ·simp only [o7 c3, Bool.false_eq_true, if_false]
      exact keep (skip g k hgot (.inl fun h => c3 h.2))
    ·simp only [if_neg c2, oB, Bool.false_eq_true, if_false]
     exact keep (skip g k hgot (.inr c2))
   ·simp only [if_neg c1, oB, Bool.false_eq_true, if_false]
    exact keep (skip g k hgot (.inl fun h => c1 h.1)))
 exact ⟨o', h1, h2, fun i g k hg hk => (h3 i g k hg hk).1 (o5 hg).2.1⟩
def NxO (t : e8) (ob : List Int) (x y : Tr) (op : Int) : Prop := can t x.1 op ∧ y.1 = aft t x.1 op ∧ y.2.2 = x.2.2 + (opAt t op).cost ∧ (y.2.1 = x.2.1 ∨ ob[x.2.1]? = some op ∧ y.2.1 = x.2.1 + 1)
theorem rg_next (hq : Rq t goals ob S) {x : Nd} {H : List Nd} {cnt : Int} {C : Int} (hs : SetN x.fs t.facts) (h0 : 0 ≤ x.seen) (h1 : x.seen ≤ ob.length) (hx : x.cost ≤ C) (hx0 : 0 ≤ x.cost) (hC : C ≤ 10000000) (hp : HpN H) (hw : ∀ n ∈ H, Wf ob (C + 100) n) (hH : H.length ≤ 5000000) (hc : 0 ≤ cnt ∧ cnt ≤ 5000000) :
  ∃ cnt' H', G7 t ob cnt (H, x) = some (cnt', H') ∧ HpN H' ∧ (∀ n ∈ H', Wf ob (C + 100) n) ∧ H'.length ≤ H.length + 80 ∧ (0 ≤ cnt' ∧ cnt' ≤ cnt + 80) ∧ (∀ y, HS H y → HS H' y) ∧ (∀ y, HS H' y → HS H y ∨ Nx t ob (tri x) y) ∧ ∀ y, Nx t ob (tri x) y → HS H' y := by
 have hops := hq.ht.ops
 have ho8 := hq.o8
 unfold G7
 obtain ⟨⟨cnt', H'⟩, r1, r2, r3, r4, r5, r6, r7, r8⟩ := M6 (body := F2 t ob (H, x)) (n := (t.operators.length : Int)) (s := (cnt, H))
  (fun j c => HpN c.2 ∧ (∀ n ∈ c.2, Wf ob (C + 100) n) ∧ (c.2.length : Int) ≤ H.length + 2 * j ∧ (0 ≤ c.1 ∧ c.1 ≤ cnt + j) ∧ (∀ y, HS H y → HS c.2 y) ∧ (∀ y, HS c.2 y → HS H y ∨ ∃ op, 0 ≤ op ∧ op < j ∧ NxO t ob (tri x) y op) ∧ ∀ y op, 0 ≤ op → op < j → NxO t ob (tri x) y op → HS c.2 y) (by omega)
  ⟨hp, hw, by simp, by simp; omega, fun y h => h, fun y h => .inl h, fun y op a b => by omega⟩ (fun j c j0 j1 hP => by
   obtain ⟨cn, K⟩ := c
   obtain ⟨p1, p2, p3, p4, p5, p6, p7⟩ := hP
   simp only at p1 p2 p3 p4 p5 p6 p7
   have hco := (L6 hq.ht j0 j1).2
   have hw1 : w64 (cn + 1) = cn + 1 := m9 (by omega) (by omega)
   have hw2 : w64 (x.cost + (opAt t j).cost) = x.cost + (opAt t j).cost := m9 (by have := hco.1; omega) (by have := hco.2; omega)
   have hw3 : w64 (x.seen + 1) = x.seen + 1 := m9 (by omega) (by omega)
   unfold F2
   simp only [can_eq hq.ht j0 j1 hs, oB]
   by_cases hcan : can t x.fs j
   ·rw [if_pos (j9 hcan)]
    simp only [next_eq hq.ht j0 j1 hs, ix_op j0 j1, oB, hw1, hw2, hw3]
    obtain ⟨K1, a1, a2, a3⟩ := npush_ok p1 (⟨aft t x.fs j, x.seen, x.cost + (opAt t j).cost, cn⟩ : Nd) (by omega)
    rw [a1]
    simp only [oB]
    have m1 : ∀ n, n ∈ K1 ↔ n = (⟨aft t x.fs j, x.seen, x.cost + (opAt t j).cost, cn⟩ : Nd) ∨ n ∈ K := fun n => by rw [a3.mem_iff, List.mem_cons]
    have l1 := a3.length_eq
    have w1 : ∀ n ∈ K1, Wf ob (C + 100) n := fun n hn => by
     rcases (m1 n).1 hn with rfl | hn
     ·exact ⟨h0, h1, by have := hco.2; simp only; omega⟩
     ·exact p2 n hn
    have tr1 : tri (⟨aft t x.fs j, x.seen, x.cost + (opAt t j).cost, cn⟩ : Nd) = (aft t x.fs j, x.seen.toNat, x.cost + (opAt t j).cost) := rfl
    have in1 : HS K1 (aft t x.fs j, x.seen.toNat, x.cost + (opAt t j).cost) := ⟨_, (m1 _).2 (.inl rfl), tr1⟩
    have up1 : ∀ y, HS K y → HS K1 y := fun y ⟨n, n1, n2⟩ => ⟨n, (m1 n).2 (.inr n1), n2⟩
    simp only [List.length_cons] at l1
    by_cases c2 : x.seen < ob.length ∧ ob[x.seen.toNat]? = some j
    ·have hio : ix ob x.seen = some j := by rw [ix, if_pos h0]; exact c2.2
     simp only [if_pos c2.1, hio, oB, decide_true, if_true]
     obtain ⟨K2, b1, b2, b3⟩ := npush_ok a2 (⟨aft t x.fs j, x.seen + 1, x.cost + (opAt t j).cost, cn⟩ : Nd) (by omega)
     rw [b1]
     simp only [oB]
     have m2 : ∀ n, n ∈ K2 ↔ n = (⟨aft t x.fs j, x.seen + 1, x.cost + (opAt t j).cost, cn⟩ : Nd) ∨ n ∈ K1 := fun n => by rw [b3.mem_iff, List.mem_cons]
     have l2 := b3.length_eq
     simp only [List.length_cons] at l2
     have tr2 : tri (⟨aft t x.fs j, x.seen + 1, x.cost + (opAt t j).cost, cn⟩ : Nd) = (aft t x.fs j, x.seen.toNat + 1, x.cost + (opAt t j).cost) := by
      have : (x.seen + 1).toNat = x.seen.toNat + 1 := by omega
      simp only [tri, this]
     have up2 : ∀ y, HS K1 y → HS K2 y := fun y ⟨n, n1, n2⟩ => ⟨n, (m2 n).2 (.inr n1), n2⟩
     refine ⟨_, rfl, b2, fun n hn => ?_, by simp only; omega, by simp only; omega, fun y hy => up2 y (up1 y (p5 y hy)), fun y hy => ?_, fun y op o0 o1 hy => ?_⟩
     ·rcases (m2 n).1 hn with rfl | hn
      ·exact ⟨by simp only; omega, by simp only; omega, by have := hco.2; simp only; omega⟩
      ·exact w1 n hn
     ·obtain ⟨n, hn, rfl⟩ := hy
      rcases (m2 n).1 hn with rfl | hn
      ·rw [tr2]; exact .inr ⟨j, j0, by omega, hcan, rfl, rfl, .inr ⟨c2.2, rfl⟩⟩
      ·rcases (m1 n).1 hn with rfl | hn
       ·rw [tr1]; exact .inr ⟨j, j0, by omega, hcan, rfl, rfl, .inl rfl⟩
       ·rcases p6 _ ⟨n, hn, rfl⟩ with q | ⟨op, q0, q1, q2⟩
        ·exact .inl q
        ·exact .inr ⟨op, q0, by omega, q2⟩
     ·by_cases e : op = j
      ·subst e
       obtain ⟨y1, y2, y3⟩ := y
       obtain ⟨_, e1, e2, e3⟩ := hy
       simp only [tri] at e1 e2 e3
       rcases e3 with e3 | ⟨_, e3⟩
       ·subst e1 e2 e3; exact up2 _ in1
       ·subst e1 e2 e3
        exact ⟨_, (m2 _).2 (.inl rfl), tr2⟩
      ·exact up2 y (up1 y (p7 y op o0 (by omega) hy))
    ·have ef : (if x.seen < (ob.length : Int) then Option.bind (ix ob x.seen) fun ab117 => some (decide (ab117 = j)) else some false) = some false := by
      by_cases c3 : x.seen < (ob.length : Int)
      ·rw [if_pos c3]
       obtain ⟨a, ha, ga⟩ := j6 (l := ob) h0 c3
       rw [ha]
       simp only [oB]
       rw [decide_eq_false fun q => c2 ⟨c3, by rw [ga, q]⟩]
      ·rw [if_neg c3]
     rw [ef]
     simp only [oB, Bool.false_eq_true, if_false]
     refine ⟨_, rfl, a2, w1, by simp only; omega, by simp only; omega, fun y hy => up1 y (p5 y hy), fun y hy => ?_, fun y op o0 o1 hy => ?_⟩
     ·obtain ⟨n, hn, rfl⟩ := hy
      rcases (m1 n).1 hn with rfl | hn
      ·rw [tr1]; exact .inr ⟨j, j0, by omega, hcan, rfl, rfl, .inl rfl⟩
      ·rcases p6 _ ⟨n, hn, rfl⟩ with q | ⟨op, q0, q1, q2⟩
       ·exact .inl q
       ·exact .inr ⟨op, q0, by omega, q2⟩
     ·by_cases e : op = j
      ·subst e
       obtain ⟨y1, y2, y3⟩ := y
       obtain ⟨_, e1, e2, e3⟩ := hy
       simp only [tri] at e1 e2 e3
       rcases e3 with e3 | ⟨e4, e3⟩
       ·subst e1 e2 e3; exact in1
       ·have hlt := (List.getElem?_eq_some_iff.1 e4).1
        exact absurd ⟨by omega, e4⟩ c2
      ·exact up1 y (p7 y op o0 (by omega) hy)
   ·rw [if_neg (by rw [o7 hcan]; simp)]
    refine ⟨_, rfl, p1, p2, by simp only; omega, by simp only; omega, p5, fun y hy => ?_, fun y op o0 o1 hy => ?_⟩
    ·rcases p6 y hy with q | ⟨op, q0, q1, q2⟩
     ·exact .inl q
     ·exact .inr ⟨op, q0, by omega, q2⟩
    ·by_cases e : op = j
     ·subst e; exact absurd hy.1 hcan
     ·exact p7 y op o0 (by omega) hy)
 refine ⟨cnt', H', by rw [r1]; rfl, r2, r3, by simp only at r4; omega, by simp only at r5; omega, r6, fun y hy => ?_, fun y ⟨op, o0, o1, hy⟩ => r8 y op o0 o1 hy⟩
 rcases r7 y hy with q | ⟨op, q0, q1, q2⟩
 ·exact .inl q
 ·exact .inr ⟨op, q0, q1, q2⟩
end
end Ab
end
section
namespace Ab
open Go
section
variable {t : e8} {ob : List Int} {goals : List (List Int)} {S : List (List Int)}
theorem rngN_congr {A O : Type} {b1 b2 : Int → A → Option (A ⊕ O)} : ∀ (k : Nat) (i : Int) (s : A), (∀ j s, i ≤ j → j < i + k → b1 j s = b2 j s) → rngN b1 k i s = rngN b2 k i s
 | 0, _, _, _ => rfl
 | k + 1, i, s, h => by
  simp only [rngN]
  rw [h i s (Int.le_refl i) (by omega)]
  cases b2 i s with
  | none => rfl
  | some x =>
   cases x with
   | inl x => exact rngN_congr k (i + 1) x fun j s h1 h2 => h j s (by omega) (by omega)
   | inr x => rfl
theorem rngX_congr {A O : Type} {b1 b2 : Int → A → Option (A ⊕ O)} {n : Int} {s : A} (hn : 0 ≤ n) (h : ∀ j s, 0 ≤ j → j < n → b1 j s = b2 j s) : rngX 0 n b1 s = rngX 0 n b2 s :=
 rngN_congr _ 0 s fun j s h1 h2 => h j s h1 (by omega)
theorem Mk'.add (hq : Rq t goals ob S) {m : Mb} {D : Tr → Prop} (h : Mk' t S m D) {x : Nd} (hr : Rt t x.fs) (h0 : 0 ≤ x.seen) (h1 : x.seen ≤ ob.length) (hn : ¬ 0 < Option.getD (mget m (nkey x.fs x.seen)) 0) (hpos : ∀ k v, mget m k = some v → 0 < v) :
  Mk' t S (mset m (nkey x.fs x.seen) 1) (fun y => y = tri x ∨ D y) ∧ (mset m (nkey x.fs x.seen) 1).length = m.length + 1 := by
 have h8 := hq.o8
 have hs := hr.setN hq.ht
 have hnone : mget m (nkey x.fs x.seen) = none := by
  cases e : mget m (nkey x.fs x.seen) with
  | none => rfl
  | some v => rw [e] at hn; exact absurd (hpos _ _ e) hn
 have hnew := mset_new (v := (1 : Int)) hnone
 refine ⟨⟨?_, fun k hk => ?_, fun s k hs' k0 k1 => ?_⟩, by rw [hnew]; simp⟩
 ·rw [hnew, List.map_append]
  exact List.nodup_append.2 ⟨h.nd, by simp, fun a ha b hb e => by
   simp at hb; subst hb; subst e; exact mget_none hnone ha⟩
 ·rw [hnew, List.map_append] at hk
  rcases List.mem_append.1 hk with hk | hk
  ·exact h.sub k hk
  ·simp at hk; subst hk
   exact allK_mem (hq.sm _ hr) h0 (by omega)
 ·rw [V3]
  by_cases e : nkey s k = nkey x.fs x.seen
  ·obtain ⟨e1, e2⟩ := nkey_inj hq.ht hs' hs k0 (by omega) h0 (by omega) e
   subst e1 e2
   rw [if_pos e]
   exact ⟨fun _ => ⟨x.cost, .inl rfl⟩, fun _ => by simp⟩
  ·rw [if_neg e, h.iff s k hs' k0 k1]
   refine ⟨fun ⟨d, hd⟩ => ⟨d, .inr hd⟩, fun ⟨d, hd⟩ => ⟨d, hd.resolve_left fun q => e ?_⟩⟩
   simp only [tri, Prod.mk.injEq] at q
   rw [q.1, show k = x.seen by omega]
theorem rg_loop (hq : Rq t goals ob S) : ∃ o, C6 t goals ob = some o ∧ o.length = goals.length ∧ ∀ (i : Int) g k, ix goals i = some g → ix o i = some k → EC t g ob k := by
 have hS := hq.sn
 have h8 := hq.o8
 unfold C6
 rw [repeat1_eq _ hq.g0 (by have := hq.g1; omega)]
 simp only [oB]
 have init : Rv' t goals ob S (List.replicate goals.length 1000000000) [(⟨t.init, 0, 0, 0⟩ : Nd)] ([] : Mb) 1 (fun _ => False) := by
  refine ⟨?_, fun n hn => ?_, ⟨0, ?_⟩, ⟨by simp, by simp, fun s k _ _ _ => by simp [mget]⟩, by simp, fun i g k hg hk => ?_, by simp, by simp⟩
  ·intro k k0 k1; simp at k1; omega
  ·simp at hn; subst hn
   exact ⟨by simp, by simp, by simp⟩
  ·have e : HS [(⟨t.init, 0, 0, 0⟩ : Nd)] = fun y => y = (t.init, 0, 0) := by
    funext y
    exact propext ⟨fun ⟨n, n1, n2⟩ => by simp at n1; subst n1; exact n2.symm, fun h => ⟨⟨t.init, 0, 0, 0⟩, by simp, by rw [h]; rfl⟩⟩
   rw [e]; exact Dj.start
  ·have : k = 1000000000 := List.eq_of_mem_replicate (s5 hk)
   exact .inl ⟨this, fun x hx => hx.elim⟩
 obtain ⟨o, o1, o2, o3⟩ := P3 (body := G3 t goals ob) (s := (List.replicate goals.length 1000000000, [(⟨t.init, 0, 0, 0⟩ : Nd)], ([] : Mb), 1))
  (fun s => (∃ D, Rv' t goals ob S s.1 s.2.1 s.2.2.1 s.2.2.2 D) ∧ ∀ k v, mget s.2.2.1 k = some v → 0 < v)
  (fun o => o.length = goals.length ∧ ∀ (i : Int) g k, ix goals i = some g → ix o i = some k → EC t g ob k)
  (fun s => (18000 - s.2.2.1.length) * 100 + s.2.1.length)
  ⟨⟨_, init⟩, fun k v h => by simp [mget] at h⟩ (by
   rintro ⟨o, H, m, cnt⟩ ⟨⟨D, p⟩, hpos⟩
   simp only at p hpos
   obtain ⟨B, dj⟩ := p.dj
   have hml := p.mp.len
   have hhl := p.hl
   unfold G3 B8
   simp only [oB]
   by_cases c0 : 0 < H.length
   ·rw [if_pos (by omega)]
    obtain ⟨H', x, a1, a2, a3, a4⟩ := npop_ok p.hp c0 (by omega)
    have hxH : x ∈ H := a3.mem_iff.2 (by simp)
    have hl' := a3.length_eq
    simp only [List.length_cons] at hl'
    have hwx := p.wf x hxH
    have hdx := dj.hr (tri x) ⟨x, hxH, rfl⟩
    have hrx : Rt t x.fs := hdx.1.rt
    have hsx := hrx.setN hq.ht
    have hcx : 0 ≤ x.cost := hdx.1.nonneg hq.ht
    have hmin : ∀ y, HS H y → x.cost ≤ y.2.2 := fun y ⟨n, n1, n2⟩ => by subst n2; exact nle_cost (a4 n n1)
    have s0 := hwx.s0
    have s1 := hwx.s1
    have c1 := hwx.c1
    simp only [a1, oB, nkey_eq hq.ht hsx s0 (by omega)]
    by_cases c2 : 0 < Option.getD (mget m (nkey x.fs x.seen)) 0
    ·rw [if_pos c2]
     obtain ⟨d, hd⟩ := (p.mp.iff x.fs x.seen hsx s0 (by omega)).1 c2
     have dj' := dj.again (H' := HS H') (x := tri x) (fun y => ⟨fun ⟨n, n1, n2⟩ => by
      rcases List.mem_cons.1 (a3.mem_iff.1 n1) with rfl | n1
      ·exact .inl n2.symm
      ·exact .inr ⟨n, n1, n2⟩, fun h => by
      rcases h with rfl | ⟨n, n1, n2⟩
      ·exact ⟨x, hxH, rfl⟩
      ·exact ⟨n, a3.mem_iff.2 (List.mem_cons_of_mem _ n1), n2⟩⟩) hmin hd
     refine .inl ⟨_, rfl, ⟨⟨D, a2, fun n hn => p.wf n (a3.mem_iff.2 (List.mem_cons_of_mem _ hn)), ⟨_, dj'⟩, p.mp, p.ol, p.og, by simp only; omega, p.cn⟩, hpos⟩, by simp only; omega⟩
    ·rw [if_neg c2]
     have hnD : ∀ d, ¬ D (x.fs, x.seen.toNat, d) := fun d hd => c2 ((p.mp.iff x.fs x.seen hsx s0 (by omega)).2 ⟨d, hd⟩)
     obtain ⟨o', b1, b2, b3⟩ := rg_goals hq (x := x) (D := D) (B := B) hsx s0 (by omega) (fun y hy => (dj.dr y hy).2) hdx.2 p.ol p.og H'
     obtain ⟨m1, m2⟩ := p.mp.add hq hrx s0 s1 c2 hpos
     have hml2 := m1.len
     obtain ⟨cnt', H2, d1, d2, d3, d4, d5, d6, d7, d8⟩ := rg_next hq (x := x) (H := H') (cnt := cnt) (C := 100 * m.length) hsx s0 s1 c1 hcx (by omega) a2 (fun n hn => by
      have := p.wf n (a3.mem_iff.2 (List.mem_cons_of_mem _ hn))
      exact ⟨this.s0, this.s1, by have := this.c1; omega⟩) (by omega) ⟨p.cn.1, by have := p.cn.2; omega⟩
     simp only [b1, oB, E5, d1]
     have dj' := dj.next hq.ht (H' := HS H2) (x := tri x) (fun y hy => by
      obtain ⟨n, n1, n2⟩ := hy
      rcases List.mem_cons.1 (a3.mem_iff.1 n1) with rfl | n1
      ·exact .inl n2.symm
      ·exact .inr (d6 _ ⟨n, n1, n2⟩)) (fun y hy => (d7 y hy).imp_left fun ⟨n, n1, n2⟩ => ⟨n, a3.mem_iff.2 (List.mem_cons_of_mem _ n1), n2⟩) d8 ⟨x, hxH, rfl⟩ hmin hnD
     have hcn := p.cn
     refine .inl ⟨_, rfl, ⟨⟨fun y => y = tri x ∨ D y, d2, fun n hn => ?_, ⟨_, dj'⟩, m1, b2, b3, by simp only [m2]; omega, ?_⟩, fun k v hk => ?_⟩, by simp only [m2]; omega⟩
     ·have := d3 n hn
      exact ⟨this.s0, this.s1, by have := this.c1; simp only [m2]; push_cast; omega⟩
     ·simp only [m2]; push_cast; omega
     ·simp only [V3] at hk
      split at hk
      ·cases hk; omega
      ·exact hpos k v hk
   ·rw [if_neg (by omega)]
    have hH : H = [] := List.eq_nil_of_length_eq_zero (by omega)
    subst hH
    exact .inr ⟨o, rfl, p.ol, fun i g k hg hk => (p.og i g k hg hk).ec hq.ht dj fun y ⟨n, hn, _⟩ => by simp at hn⟩)
 exact ⟨o, by rw [o1]; rfl, o2, o3⟩
/-! ### The checks -/
structure ObsOk (t : e8) (goals : List (List Int)) (ob : List Int) : Prop where
 g0 : 1 ≤ goals.length
 g1 : goals.length ≤ 4
 gs : ∀ g ∈ goals, SetN g t.facts
 o8 : ob.length ≤ 8
 ov : ∀ x ∈ ob, (0 : Int) ≤ x ∧ x < t.operators.length
theorem rcheck_eq (t : e8) (goals : List (List Int)) (ob : List Int) : ∃ f e, F7 t goals ob = some f ∧ L9 t goals ob = some e ∧
  ((j8 t ∧ ObsOk t goals ob ∧ e = ⟨0, 0⟩ ∧ ((f = ⟨0, 0⟩ ∧ ∃ S : List (List Int), S.Nodup ∧ S.length ≤ 2000 ∧ ∀ s, s ∈ S ↔ Rt t s) ∨ (f = ⟨10, -7⟩ ∧ Many t))) ∨ (¬ (j8 t ∧ ObsOk t goals ob) ∧ e = f ∧ f.code ≠ 0 ∧ (¬ j8 t → s4 t = some f))) := by
 obtain ⟨f, h1, h2, h3⟩ := validate_eq t
 unfold F7 L9
 rw [h1, h2]
 simp only [oB, in_eq, at_eq, n5]
 rcases h3 with ⟨rfl, ht⟩ | ⟨hc, hn⟩
 ·rw [if_neg (by simp), if_pos rfl]
  by_cases c1 : 1 ≤ goals.length ∧ goals.length ≤ 4
  ·rw [if_neg (by simp only [Bool.or_eq_true, decide_eq_true_eq]; omega), ifNN (by omega)]
   have n0 := ht.n0
   have n1 := ht.n1
   have g : Int → Option TFault := fun j => match ix goals j with | some g => if dec (SetN g t.facts) = true then none else some (⟨5, -10 - j⟩ : TFault) | none => none
   have t1 := D5 (body := y4 t goals) (n := (goals.length : Int)) (fun j => match ix goals j with | some g => if dec (SetN g t.facts) = true then none else some (⟨5, -10 - j⟩ : TFault) | none => none) (by omega) (fun j j0 j1 _ => by
    obtain ⟨g, hg, _⟩ := j6 j0 j1
    have hw : w64 ((-10) - j) = -10 - j := m9 (by omega) (by omega)
    unfold y4
    simp only [hg, oB, ac9, n5, hw]
    by_cases q : SetN g t.facts
    ·rw [ifP q, ifNN q]
    ·rw [ifN q, ifP q])
   have t2 : rngX 0 (goals.length : Int) (I0 t goals) () = rngX 0 (goals.length : Int) (y4 t goals) () := by
    refine rngX_congr (by omega) fun j s j0 j1 => ?_
    obtain ⟨g, hg, _⟩ := j6 j0 j1
    unfold I0 y4
    simp only [hg, oB, ac9, rIsSet_eq g (show -9223372036854775808 < t.facts by omega) (by omega), at_eq]
   rw [t2]
   rcases t1 with ⟨r1, r2⟩ | ⟨j, f, j0, j1, r2, _, r1⟩
   ·rw [r1]
    simp only [oB]
    have hgs : ∀ g ∈ goals, SetN g t.facts := fun g hg => by
     obtain ⟨i, i0, i1, hi⟩ := G6 hg
     have := r2 i i0 i1
     rw [hi] at this
     by_cases q : SetN g t.facts
     ·exact q
     ·simp [q] at this
    by_cases c2 : ob.length ≤ 8
    ·rw [if_neg (by omega), if_neg (by omega)]
     have hops := ht.ops
     obtain ⟨e, e1, e2⟩ := rSteps_eq (n := t.operators.length) (by omega) (by omega) ob
     rw [e1]
     simp only [oB]
     rcases D5 (body := G4 t ob) (n := (ob.length : Int)) (fun j => match ix ob j with | some a => if dec (0 ≤ a ∧ a < t.operators.length) = true then none else some (⟨3, -6⟩ : TFault) | none => none) (by omega) (fun j j0 j1 _ => by
      obtain ⟨a, ha, _⟩ := j6 j0 j1
      unfold G4
      simp only [ha, oB]
      by_cases q : 0 ≤ a ∧ a < t.operators.length
      ·rw [ifP q, if_neg (by simp; omega)]
      ·rw [ifN q, if_pos (by simp; omega)]) with ⟨q1, q2⟩ | ⟨j, f, j0, j1, q2, _, q1⟩
     ·rw [q1]
      simp only [oB, O7]
      have hov : ∀ x ∈ ob, (0 : Int) ≤ x ∧ x < t.operators.length := fun x hx => by
       obtain ⟨i, i0, i1, hi⟩ := G6 hx
       have := q2 i i0 i1
       rw [hi] at this
       by_cases q : 0 ≤ x ∧ x < t.operators.length
       ·exact q
       ·simp [q] at this
      have he : e.code = 0 := by
       rcases e2 with ⟨rfl, _⟩ | ⟨_, e2⟩
       ·rfl
       ·exact absurd ⟨by omega, hov⟩ e2
      rw [if_pos he]
      obtain ⟨b, b1, b2, b3⟩ := breadth_spec ht
      rw [b1]
      simp only [oB]
      cases b with
      | false => exact ⟨_, _, rfl, rfl, .inl ⟨ht, ⟨c1.1, c1.2, hgs, c2, hov⟩, rfl, .inr ⟨rfl, b2 rfl⟩⟩⟩
      | true => exact ⟨_, _, rfl, rfl, .inl ⟨ht, ⟨c1.1, c1.2, hgs, c2, hov⟩, rfl, .inl ⟨rfl, b3 rfl⟩⟩⟩
     ·rw [q1]
      obtain ⟨a, ha, _⟩ := j6 j0 j1
      rw [ha] at q2
      by_cases q : 0 ≤ a ∧ a < t.operators.length
      ·simp [q] at q2
      ·simp [q] at q2; subst q2
       have he : e.code ≠ 0 := by
        rcases e2 with ⟨_, _, e2⟩ | ⟨e2, _⟩
        ·exact absurd (e2 a (s5 ha)) q
        ·exact e2
       rw [if_neg he]
       exact ⟨_, _, rfl, rfl, .inr ⟨fun h => q (h.2.ov a (s5 ha)), rfl, by simp, fun h => absurd ht h⟩⟩
    ·rw [if_pos (by omega), if_pos (by omega)]
     exact ⟨_, _, rfl, rfl, .inr ⟨fun h => c2 h.2.o8, rfl, by simp, fun h => absurd ht h⟩⟩
   ·rw [r1]
    obtain ⟨a, ha, _⟩ := j6 j0 j1
    rw [ha] at r2
    by_cases q : SetN a t.facts
    ·simp [q] at r2
    ·simp [q] at r2; subst r2
     exact ⟨_, _, rfl, rfl, .inr ⟨fun h => q (h.2.gs a (s5 ha)), rfl, by simp, fun h => absurd ht h⟩⟩
  ·rw [if_pos (by simp only [Bool.or_eq_true, decide_eq_true_eq]; omega), ifP (by omega)]
   exact ⟨_, _, rfl, rfl, .inr ⟨fun h => c1 ⟨h.2.g0, h.2.g1⟩, rfl, by simp, fun h => absurd ht h⟩⟩
 ·rw [if_pos (by simp [hc]), if_neg hc]
  exact ⟨f, f, rfl, rfl, .inr ⟨fun h => hn h.1, rfl, hc, fun _ => rfl⟩⟩
end
end Ab
end
section
namespace Ab
open Go
section
variable {t : e8} {op : Int}
end
/-! ### The fixed task -/
theorem mem_cost {t : e8} (ht : j8 t) {op : Int} : ∀ {p : List Int}, Val t p → op ∈ p → (opAt t op).cost ≤ q8 t p
 | [], _, h => by simp at h
 | q :: p, hv, h => by
  have h1 := Y0 ht (plan := p) fun x hx => hv x (List.mem_cons_of_mem _ hx)
  have h2 := hv q (by simp)
  have h3 := (L6 ht h2.1 h2.2).2.1
  simp only [q8]
  rcases List.mem_cons.1 h with rfl | h
  ·omega
  ·have := mem_cost ht (p := p) (fun x hx => hv x (List.mem_cons_of_mem _ hx)) h
   omega
theorem step_few (s : List Int) (h : Rt l9 s) : s ∈ [[], [0], [1], [0, 1]] := by
 have hs := h.setN step_ok
 have e : s = A9 (· ∈ s) 2 := hs.eq
 by_cases a : (0 : Int) ∈ s
 ·by_cases b : (1 : Int) ∈ s
  ·rw [(setN_nil 2 |>.1 |> fun _ => hs.1.ext (m := [0, 1]) (by simp) fun x => ?_)]
   ·simp
   ·have := hs.2 x
    constructor
    ·intro hx; have := this hx; simp only [l9] at this; simp; omega
    ·intro hx; simp at hx; rcases hx with rfl | rfl <;> assumption
  ·rw [hs.1.ext (m := [0]) (by simp) fun x => ?_]
   ·simp
   ·have := hs.2 x
    constructor
    ·intro hx
     have := this hx; simp only [l9] at this
     have : x ≠ 1 := fun e => b (e ▸ hx)
     simp; omega
    ·intro hx; simp at hx; rw [hx]; exact a
 ·by_cases b : (1 : Int) ∈ s
  ·rw [hs.1.ext (m := [1]) (by simp) fun x => ?_]
   ·simp
   ·have := hs.2 x
    constructor
    ·intro hx
     have := this hx; simp only [l9] at this
     have : x ≠ 0 := fun e => a (e ▸ hx)
     simp; omega
    ·intro hx; simp at hx; rw [hx]; exact b
  ·rw [hs.1.ext (m := []) (by simp) fun x => ?_]
   ·simp
   ·have := hs.2 x
    constructor
    ·intro hx
     have := this hx; simp only [l9] at this
     have : x ≠ 0 := fun e => a (e ▸ hx)
     have : x ≠ 1 := fun e => b (e ▸ hx)
     omega
    ·intro hx; simp at hx
theorem step_many : ¬ Many l9 := by
 rintro ⟨m, m1, m2, m3⟩
 have := V1 m1 (S := [[], [0], [1], [0, 1]]) fun s hs => step_few s (m3 s hs)
 simp at this; omega
theorem step_works {op : Int} (h : op = 0 ∨ op = 1) : Sol l9 l9.init [op] := by
 refine ⟨fun x hx => ?_, aft l9 l9.init op, ?_, fun x hx => ?_⟩
 ·simp at hx; subst hx; simp only [l9, List.length_cons, List.length_nil]; omega
 ·simp only [ends]
  rw [if_pos (j9 (show can l9 l9.init op from fun x hx => by
   rcases h with rfl | rfl
   ·simpa [opAt, l9] using hx
   ·simp [opAt, l9] at hx))]
 ·refine I3.2 ?_
  simp [l9] at hx; subst hx
  rcases h with rfl | rfl <;> simp [l9, opAt]
theorem step_ne {p : List Int} (h : Sol l9 l9.init p) : ∃ q, q ∈ p ∧ (q = 0 ∨ q = 1) := by
 cases p with
 | nil =>
  obtain ⟨_, e, h1, h2⟩ := h
  simp only [ends, Option.some.injEq] at h1; subst h1
  have := h2 1 (by simp [l9])
  simp [l9] at this
 | cons q p =>
  refine ⟨q, by simp, ?_⟩
  have := h.1 q (by simp)
  simp only [l9, List.length_cons, List.length_nil] at this
  omega
theorem step_cost0 : (opAt l9 0).cost = 1 := rfl
theorem step_cost1 : (opAt l9 1).cost = 3 := rfl
theorem lc_of {t : e8} {P : List Int → Prop} {k : Int} {p : List Int} (h0 : 0 ≤ k) (h1 : k < 1000000000) (hp : P p) (hk : q8 t p = k) (hl : ∀ q, P q → k ≤ q8 t q) : LC t P k := ⟨hl, h0, .inr ⟨h1, p, hp, hk⟩⟩
theorem step_lc : LC l9 (Sol l9 l9.init) 1 := lc_of (p := [0]) (k := 1) (by decide) (by decide) (step_works (.inl rfl)) rfl fun q hq => by
 obtain ⟨x, hx, e⟩ := step_ne hq
 have := mem_cost step_ok hq.1 hx
 rcases e with rfl | rfl
 ·rw [step_cost0] at this; exact this
 ·rw [step_cost1] at this; omega
end Ab
end
section
namespace Ab
open Go
section
variable {t : e8} {ob : List Int} {goals : List (List Int)}
def Rg (t : e8) (goals : List (List Int)) (ob : List Int) (l : List (Int × Int)) : Prop := l.length = goals.length ∧ ∀ (i : Int) g p, ix goals i = some g → ix l i = some p → EC t g ob p.1 ∧ EC t g [] p.2
theorem rcosts_spec (t : e8) (goals : List (List Int)) (ob : List Int) : ∃ l f e, q9 t goals ob = some (l, f) ∧ L9 t goals ob = some e ∧
  ((j8 t ∧ ObsOk t goals ob ∧ e = ⟨0, 0⟩ ∧ f = ⟨0, 0⟩ ∧ ¬ Many t ∧ Rg t goals ob l) ∨ (j8 t ∧ ObsOk t goals ob ∧ e = ⟨0, 0⟩ ∧ f = ⟨10, -7⟩ ∧ Many t ∧ l = []) ∨ (¬ (j8 t ∧ ObsOk t goals ob) ∧ e = f ∧ f.code ≠ 0 ∧ (¬ j8 t → s4 t = some f) ∧ l = [])) := by
 obtain ⟨f, e, h1, h2, h3⟩ := rcheck_eq t goals ob
 unfold q9
 rw [h1, h2]
 simp only [oB]
 rcases h3 with ⟨ht, ho, rfl, ⟨rfl, S, S1, S2, S3⟩ | ⟨rfl, hm⟩⟩ | ⟨hn, rfl, hc, hv⟩
 ·rw [if_neg (by simp)]
  have hq : ∀ o : List Int, o.length ≤ 8 → Rq t goals o S := fun o ho8 => ⟨ht, ho.g0, ho.g1, ho.gs, ho8, S2, fun s hs => (S3 s).2 hs⟩
  obtain ⟨a, a1, a2, a3⟩ := rg_loop (hq ob ho.o8)
  obtain ⟨b, b1, b2, b3⟩ := rg_loop (hq [] (by simp))
  rw [a1, b1]
  simp only [oB]
  have hg1 := ho.g1
  obtain ⟨l, l1, l2, l3⟩ := M6 (body := G2 a b) (n := (goals.length : Int)) (s := [])
   (fun j c => (c.length : Int) = j ∧ ∀ (i : Int) p, ix c i = some p → ix a i = some p.1 ∧ ix b i = some p.2) (by omega) ⟨by simp, fun i p h => by simp [ix] at h⟩ (fun j c j0 j1 hP => by
    obtain ⟨p1, p2⟩ := hP
    obtain ⟨x, hx, _⟩ := j6 (l := a) j0 (by omega)
    obtain ⟨y, hy, _⟩ := j6 (l := b) j0 (by omega)
    have ha : app 16 c [(x, y)] = some (c ++ [(x, y)]) := by unfold app; rw [if_pos (by simp; omega)]
    unfold G2
    simp only [hx, hy, ha, oB]
    refine ⟨_, rfl, by simp; omega, fun i p hp => ?_⟩
    rw [ix_snoc] at hp
    by_cases q : i = (c.length : Int)
    ·rw [if_pos q] at hp; cases hp
     have : i = j := by omega
     subst this
     exact ⟨hx, hy⟩
    ·rw [if_neg q] at hp; exact p2 i p hp)
  rw [l1]
  refine ⟨_, _, _, rfl, rfl, .inl ⟨ht, ho, rfl, rfl, ?_, by omega, fun i g p hg hp => ⟨a3 i g _ hg (l3 i p hp).1, b3 i g _ hg (l3 i p hp).2⟩⟩⟩
  rintro ⟨m, m1, m2, m3⟩
  have := V1 m1 (S := S) fun s hs => (S3 s).2 (m3 s hs)
  omega
 ·rw [if_pos (by simp)]
  exact ⟨_, _, _, rfl, rfl, .inr (.inl ⟨ht, ho, rfl, rfl, hm, rfl⟩)⟩
 ·rw [if_pos (by simp [hc])]
  exact ⟨_, _, _, rfl, rfl, .inr (.inr ⟨hn, rfl, hc, hv, rfl⟩)⟩
theorem Rg.bd {l : List (Int × Int)} (h : Rg t goals ob l) {i : Int} {p : Int × Int} (hp : ix l i = some p) : 0 ≤ p.2 ∧ p.2 ≤ p.1 ∧ p.1 ≤ 1000000000 := by
 obtain ⟨g, hg, _⟩ := j6 (l := goals) (o5 hp).1 (by have := (o5 hp).2.1; have := h.1; omega)
 obtain ⟨e1, e2⟩ := h.2 i g p hg hp
 exact ⟨e2.2.1, e2.mono e1 fun c hc => hc.nil, e1.le⟩
def Lst (l : List (Int × Int)) (j v : Int) : Prop := (∀ i p, i < j → ix l i = some p → p.1 < 1000000000 → v ≤ p.1 - p.2) ∧ ((v = 1000000000 ∧ ∀ i p, i < j → ix l i = some p → ¬ p.1 < 1000000000) ∨ ∃ i p, i < j ∧ ix l i = some p ∧ p.1 < 1000000000 ∧ v = p.1 - p.2)
theorem Lst.eq {l : List (Int × Int)} {j v w : Int} (h : Lst l j v) (g : Lst l j w) : v = w := by
 obtain ⟨h1, ⟨rfl, h2⟩ | ⟨i, p, h2, h3, h4, rfl⟩⟩ := h
 ·obtain ⟨g1, ⟨rfl, g2⟩ | ⟨i, p, g2, g3, g4, rfl⟩⟩ := g
  ·rfl
  ·exact absurd g4 (h2 i p g2 g3)
 ·obtain ⟨g1, ⟨rfl, g2⟩ | ⟨i', p', g2, g3, g4, rfl⟩⟩ := g
  ·exact absurd h4 (g2 i p h2 h3)
  ·have := h1 i' p' g2 g3 g4; have := g1 i p h2 h3 h4; omega
theorem Lst.zero (l : List (Int × Int)) : Lst l 0 1000000000 := ⟨fun i p hi hp => by have := (o5 hp).1; omega, .inl ⟨rfl, fun i p hi hp => by have := (o5 hp).1; omega⟩⟩
theorem Lst.step {l : List (Int × Int)} {j v : Int} {p : Int × Int} (h : Lst l j v) (hp : ix l j = some p) (hb : p.1 < 1000000000 → p.1 - p.2 ≤ 1000000000) : Lst l (j + 1) (if p.1 < 1000000000 then min v (p.1 - p.2) else v) := by
 obtain ⟨h1, h2⟩ := h
 constructor
 ·intro i q hi hq hf
  by_cases e : i = j
  ·subst e; rw [hp] at hq; cases hq
   rw [if_pos hf]; omega
  ·have := h1 i q (by omega) hq hf
   split <;> omega
 ·by_cases c : p.1 < 1000000000
  ·rw [if_pos c]
   by_cases d : p.1 - p.2 < v
   ·exact .inr ⟨j, p, by omega, hp, c, by omega⟩
   ·rw [show min v (p.1 - p.2) = v by omega]
    rcases h2 with ⟨rfl, h2⟩ | ⟨i, q, q1, q2⟩
    ·exact .inr ⟨j, p, by omega, hp, c, by have := hb c; omega⟩
    ·exact .inr ⟨i, q, by omega, q2⟩
  ·rw [if_neg c]
   rcases h2 with ⟨rfl, h2⟩ | ⟨i, q, q1, q2⟩
   ·refine .inl ⟨rfl, fun i q hi hq => ?_⟩
    by_cases e : i = j
    ·subst e; rw [hp] at hq; cases hq; exact c
    ·exact h2 i q (by omega) hq
   ·exact .inr ⟨i, q, by omega, q2⟩
def Bst (l : List (Int × Int)) (v i : Int) : Prop := ∃ p, ix l i = some p ∧ p.1 < 1000000000 ∧ p.1 - p.2 = v
theorem rbest_spec {l : List (Int × Int)} {f : TFault} (hl : q9 t goals ob = some (l, f)) (h : (f = ⟨0, 0⟩ ∧ Rg t goals ob l ∧ goals.length ≤ 4) ∨ f.code ≠ 0) :
  (f.code ≠ 0 ∧ B6 t goals ob = some ([], f)) ∨ ∃ v, Lst l l.length v ∧ B6 t goals ob = some (A9 (Bst l v) l.length, ⟨0, 0⟩) := by
 unfold B6
 rw [hl]
 simp only [oB]
 rcases h with ⟨rfl, h, h4⟩ | hc
 ·rw [if_neg (by simp)]
  have hlen : l.length ≤ 4 := by have := h.1; omega
  obtain ⟨v, v1, v2⟩ := M6 (body := H3 (l, ⟨0, 0⟩)) (n := (l.length : Int)) (s := 1000000000) (fun j v => Lst l j v) (by omega) (Lst.zero l) (fun j v j0 j1 hP => by
   obtain ⟨p, hp, _⟩ := j6 j0 j1
   have hb := h.bd hp
   have hw : w64 (p.1 - p.2) = p.1 - p.2 := m9 (by omega) (by omega)
   unfold H3
   simp only [hp, oB, hw]
   have := hP.step hp (by omega)
   by_cases c : p.1 < 1000000000
   ·rw [if_pos c] at this ⊢; exact ⟨_, rfl, this⟩
   ·rw [if_neg c] at this ⊢; exact ⟨_, rfl, this⟩)
  rw [v1]
  simp only [oB]
  have := forR_setOf (b := 8) (n := (l.length : Int)) (body := H1 (l, ⟨0, 0⟩) v) (Bst l v) (by omega) (by omega) (fun j c j0 j1 => by
   obtain ⟨p, hp, _⟩ := j6 j0 j1
   have hb := h.bd hp
   have hw : w64 (p.1 - p.2) = p.1 - p.2 := m9 (by omega) (by omega)
   unfold H1
   simp only [hp, oB, hw]
   refine ⟨fun ⟨q, q1, q2, q3⟩ => ?_, fun hn => ?_⟩
   ·rw [hp] at q1; cases q1
    rw [if_pos (by simp [q2, q3])]
    cases app 8 c [j] <;> rfl
   ·rw [if_neg (by
     simp only [Bool.and_eq_true, decide_eq_true_eq]
     exact fun q => hn ⟨p, hp, q⟩)]
    rfl)
  rw [this]
  exact .inr ⟨v, v2, rfl⟩
 ·rw [if_pos (by simp [hc])]
  exact .inl ⟨hc, rfl⟩
end
/-! ### The fixed task -/
theorem Ex.first {t : e8} (ht : j8 t) {g : List Int} {o s : List Int} {c : Int} (h : Ex t g o s c) : 0 ≤ c ∧ ∀ op r, o = op :: r → (opAt t op).cost ≤ c := by
 induction h with
 | goal => exact ⟨Int.le_refl 0, fun op r e => by cases e⟩
 | step h0 h1 _ _ ih =>
  have := (L6 ht h0 h1).2.1
  exact ⟨by omega, fun op r e => by have := ih.2 op r e; omega⟩
 | obs h0 h1 _ _ ih =>
  have := (L6 ht h0 h1).2.1
  exact ⟨by omega, fun op r e => by cases e; omega⟩
theorem step_ec : EC l9 [1] [1] 3 := by
 have hex : Ex l9 [1] [1] l9.init 3 := by
  have h := step_works (op := 1) (.inr rfl)
  obtain ⟨hv, e, he, hg⟩ := h
  simp only [ends] at he
  split at he
  ·rename_i hc
   simp only [Option.some.injEq] at he
   exact .obs (c := 0) (by omega) (by simp [l9]) (i5.1 hc) (.goal (by rw [he]; exact hg))
  ·cases he
 refine ⟨fun c hc => ?_, by omega, .inr ⟨by omega, hex⟩⟩
 have := (hc.first step_ok).2 1 [] rfl
 rwa [step_cost1] at this
theorem step_obs : ObsOk l9 [[1]] [1] := ⟨by simp, by simp, fun g hg => by simp at hg; subst hg; exact setN1 1 (by decide) (by decide), by simp, fun x hx => by simp at hx; subst hx; simp [l9]⟩
theorem step_costs : q9 l9 [[1]] [1] = some ([(3, 1)], ⟨0, 0⟩) ∧ B6 l9 [[1]] [1] = some ([0], ⟨0, 0⟩) := by
 obtain ⟨l, f, e, h1, _, h3⟩ := rcosts_spec l9 [[1]] [1]
 rcases h3 with ⟨_, _, _, rfl, _, hr⟩ | ⟨_, _, _, _, hm, _⟩ | ⟨hn, _⟩
 ·obtain ⟨p, hp, _⟩ := j6 (l := l) (i := 0) (by omega) (by rw [hr.1]; simp)
  obtain ⟨e1, e2⟩ := hr.2 0 [1] p rfl hp
  have q1 := e1.eq step_ec
  have q2 := (EC.lc (t := l9) e2).eq step_lc
  have hl : l = [(3, 1)] := by
   obtain ⟨a, b⟩ := p
   simp only at q1 q2
   subst q1 q2
   match l, hr.1, hp with
   | [x], _, hp => simp [ix] at hp; rw [hp]
  subst hl
  refine ⟨h1, ?_⟩
  rcases rbest_spec h1 (.inl ⟨rfl, hr, by simp⟩) with ⟨hc, _⟩ | ⟨v, hv, hb⟩
  ·exact absurd rfl hc
  ·have : v = 2 := hv.eq (by
    have := (Lst.zero [(3, 1)]).step (p := (3, 1)) rfl (by omega)
    simpa [show min (1000000000 : Int) 2 = 2 by decide] using this)
   subst this
   rw [hb]
   have : A9 (Bst [(3, 1)] 2) (([(3, 1)] : List (Int × Int)).length : Int) = [0] := by
    refine ((setN1 0 (by omega) (by simp)).eq_of fun x x0 x1 => ?_).symm
    have : x = 0 := by simp at x1; omega
    subst this
    exact ⟨fun _ => ⟨(3, 1), rfl, by omega, by omega⟩, fun _ => by simp⟩
   rw [this]
 ·exact absurd hm step_many
 ·exact absurd ⟨step_ok, step_obs⟩ hn
theorem explained_true : B5 = some true := by
 unfold B5
 rw [show V0 = some l9 from rfl]
 simp only [oB, step_costs.1, step_costs.2]
 simp [twoInts_eq, numbers_eq]
theorem W9 (t : e8) (plan : List Int) (iv j : Int) : y8 t plan iv j = some true := by
 unfold y8
 simp only [explained_true, in_eq, n5]
 obtain ⟨ok, f, s1, _, s2⟩ := solves_eq t plan
 obtain ⟨n, g, g1, g2⟩ := scost_eq t plan
 rw [s1, g1]
 simp only [oB, n5]
 by_cases hc : f.code = 0 ∧ g.code = 0 ∧ ok = true ∧ (0 ≤ iv ∧ iv ≤ plan.length) ∧ (iv ≤ j ∧ j ≤ plan.length) ∧ j - iv ≤ 8
 ·obtain ⟨c1, c2, rfl, c3, c4, c5⟩ := hc
  have hw : w64 (j - iv) = j - iv := m9 (by omega) (by omega)
  rw [if_neg (by simp [c1]), if_neg (by simp [c2]), if_neg (by simp)]
  simp only [oB, n5, hw, ifNN c3, ifNN c4]
  rw [if_neg (by simp; omega)]
  rcases s2 with ⟨_, ht, hp, hwk⟩ | ⟨h, _⟩
  ·rcases g2 with ⟨_, _, _, hn⟩ | ⟨h, _⟩
   ·obtain ⟨e, he, hg⟩ := i5.1 hwk.symm
    have hsub : subL plan iv j = some ((plan.take j.toNat).drop iv.toNat) := by rw [subL, if_pos (by omega)]
    rw [hsub]
    simp only [oB, n5]
    generalize ho : (plan.take j.toNat).drop iv.toNat = o
    have hsplit : plan = plan.take iv.toNat ++ (o ++ plan.drop j.toNat) := by
     rw [← ho]
     have e1 : (plan.take j.toNat).take iv.toNat = plan.take iv.toNat := by rw [List.take_take]; congr 1; omega
     rw [← List.append_assoc, ← e1, List.take_append_drop, List.take_append_drop]
    have hol : o.length ≤ 8 := by rw [← ho, List.length_drop, List.length_take]; omega
    have hov : ∀ x ∈ o, (0 : Int) ≤ x ∧ x < t.operators.length := fun x hx => hp.2 x (by rw [hsplit]; exact List.mem_append_right _ (List.mem_append_left _ hx))
    have hobs : ObsOk t [t.goal] o := ⟨by simp, by simp, fun g hg => by simp at hg; subst hg; exact ht.goal, hol, hov⟩
    obtain ⟨l, h, e', k1, _, k3⟩ := rcosts_spec t [t.goal] o
    rw [k1]
    simp only [oB, n5]
    rcases k3 with ⟨_, _, _, rfl, _, hr⟩ | ⟨_, _, _, rfl, _⟩ | ⟨hn', _⟩
    ·rw [if_pos rfl]
     obtain ⟨p, hp', _⟩ := j6 (l := l) (i := 0) (by omega) (by rw [hr.1]; simp)
     obtain ⟨e1, _⟩ := hr.2 0 t.goal p rfl hp'
     have hle := e1.1 _ (Ex.of (t := t) (g := t.goal) (a := plan.take iv.toNat) (o := o) (b := plan.drop j.toNat) (s := t.init) (e := e) (by rw [← hsplit]; exact hp.2) (by rw [← hsplit]; exact he) hg)
     rw [← hsplit, ← hn] at hle
     rw [if_pos (by rw [hr.1]; simp), hp']
     simp only [oB, n5]
     rw [if_pos hle]; rfl
    ·simp
    ·exact absurd ⟨ht, hobs⟩ hn'
   ·exact absurd c2 h
  ·exact absurd c1 h
 ·by_cases c1 : f.code = 0
  ·rw [if_neg (by simp [c1])]
   by_cases c2 : g.code = 0
   ·rw [if_neg (by simp [c2])]
    by_cases c3 : ok = true
    ·rw [if_neg (by simp [c3])]
     try simp only [oB, n5]
     by_cases c4 : 0 ≤ iv ∧ iv ≤ plan.length
     ·rw [ifNN c4]
      try simp only [oB, n5]
      by_cases c5 : iv ≤ j ∧ j ≤ plan.length
      ·rw [ifNN c5]
       have hpl : plan.length ≤ 60 := by
        rcases s2 with ⟨_, _, hp, _⟩ | ⟨h, _⟩
        ·exact hp.1
        ·exact absurd c1 h
       have hw : w64 (j - iv) = j - iv := m9 (by omega) (by omega)
       have : 8 < w64 (j - iv) := by
        rw [hw]
        exact Classical.byContradiction fun q => hc ⟨c1, c2, c3, c4, c5, by omega⟩
       simp [this]
      ·rw [ifP c5]; rfl
     ·rw [ifP c4]; rfl
    ·rw [if_pos (by simp [c3])]; rfl
   ·rw [if_pos (by simp [c2])]; rfl
  ·rw [if_pos (by simp [c1])]; rfl
end Ab
end
