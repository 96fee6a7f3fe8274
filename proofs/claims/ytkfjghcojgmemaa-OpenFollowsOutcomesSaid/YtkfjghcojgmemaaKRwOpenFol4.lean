/-
  Texts that the proof stands on.
-/
import Derived.Test.YtkfjghcojgmemaaKRwOpenFol3
set_option linter.all false
section
namespace Ab
open Go
/-! ### Binary search by a key -/
def bsl {A B : Type} (xv : List A) (target : B) (cmp : A → B → Option Int) : (Int × Int) → Option ((Int × Int) ⊕ Int) := fun (iv4, j5) => if iv4 < j5 then Option.bind (ix xv (w64 (shrW .u64 ((IntKind.u64).wrap (w64 (iv4 + j5))) 1))) fun a27 => Option.bind (cmp a27 target) fun a30 => if a30 < 0 then some (.inl (w64 ((w64 (shrW .u64 ((IntKind.u64).wrap (w64 (iv4 + j5))) 1)) + 1), j5)) else some (.inl (iv4, w64 (shrW .u64 ((IntKind.u64).wrap (w64 (iv4 + j5))) 1))) else some (.inr iv4)
noncomputable def bsf {A B : Type} (xv : List A) (target : B) (cmp : A → B → Option Int) : Option (Int × Bool) := Option.bind (Loop (bsl xv target cmp) (0, (xv.length : Int))) fun iv6 => Option.bind (if iv6 < (xv.length : Int) then Option.bind (ix xv iv6) fun a43 => Option.bind (cmp a43 target) fun a46 => some (decide (a46 = 0)) else some false) fun t9 => some (iv6, t9)
theorem ordMap_get {A : Type} {key : A → List Int} {xs : List A} (h : Ord (xs.map key)) {i j : Int} {a b : A} (hi : ix xs i = some a) (hj : ix xs j = some b) (hij : i < j) : llt (key a) (key b) := by
  obtain ⟨i0, i1, hi⟩ := ix_lo hi
  obtain ⟨j0, j1, hj⟩ := ix_lo hj
  refine h.get (i := i) (j := j) ?_ ?_ hij
  · rw [ix, if_pos i0, List.getElem?_map, hi]; rfl
  · rw [ix, if_pos j0, List.getElem?_map, hj]; rfl
theorem bsf_eq {A : Type} {key : A → List Int} {xs : List A} {t : List Int} {cmp : A → List Int → Option Int} (hs : Ord (xs.map key)) (hl : xs.length ≤ 500000) (hc : ∀ a, cmp a t = some (cmpL (key a) t)) :
    ∃ i, bsf xs t cmp = some (i, dec (∃ a ∈ xs, key a = t)) ∧ 0 ≤ i ∧ ∀ k a, ix xs k = some a → key a = t → k = i := by
  unfold bsf
  obtain ⟨i, h1, h2, h3, h4, h5⟩ := Loop_inv (body := bsl xs t cmp) (fun p => (0 ≤ p.1 ∧ p.1 ≤ p.2 ∧ p.2 ≤ xs.length) ∧ (∀ k a, 0 ≤ k → k < p.1 → ix xs k = some a → llt (key a) t) ∧ (∀ k a, p.2 ≤ k → ix xs k = some a → ¬ llt (key a) t))
    (fun i => 0 ≤ i ∧ i ≤ xs.length ∧ (∀ k a, 0 ≤ k → k < i → ix xs k = some a → llt (key a) t) ∧ (∀ k a, i ≤ k → ix xs k = some a → ¬ llt (key a) t)) (fun p => (p.2 - p.1).toNat) (s := (0, (xs.length : Int)))
    ⟨⟨by simp, by simp, by simp⟩, fun k a h1 h2 => by simp at h2; omega, fun k a h1 h2 => by have := (ix_lo h2).2.1; simp at h1; omega⟩ (fun ⟨i, j⟩ ⟨⟨g1, g2, g3⟩, g4, g5⟩ => by
    dsimp only at g1 g2 g3 g4 g5 ⊢
    unfold bsl
    dsimp only
    by_cases c : i < j
    · rw [if_pos c, half_eq g1 g2 (by omega)]
      obtain ⟨a, ha, ga⟩ := ix_of (l := xs) (i := (i + j) / 2) (by omega) (by omega)
      rw [ha]
      simp only [Option.bind_some, hc, cmpL_lt]
      by_cases c2 : llt (key a) t
      · rw [if_pos (cmpL_lt.2 c2), w64_of (by omega) (by omega)]
        refine .inl ⟨_, rfl, ⟨⟨by dsimp only; omega, by dsimp only; omega, g3⟩, fun k b k0 k1 hb => ?_, g5⟩, by dsimp only; omega⟩
        dsimp only at k1
        by_cases e : k = (i + j) / 2
        · subst e; rw [ha] at hb; cases hb; exact c2
        · exact llt_trans (ordMap_get hs hb ha (by omega)) c2
      · rw [if_neg (fun h => c2 (cmpL_lt.1 h))]
        refine .inl ⟨_, rfl, ⟨⟨g1, by dsimp only; omega, by dsimp only; omega⟩, g4, fun k b k0 hb => ?_⟩, by dsimp only; omega⟩
        dsimp only at k0
        by_cases e : k = (i + j) / 2
        · subst e; rw [ha] at hb; cases hb; exact c2
        · exact fun h => c2 (llt_trans (ordMap_get hs ha hb (by omega)) h)
    · rw [if_neg c]
      have : i = j := by omega
      subst this
      exact .inr ⟨i, rfl, g1, g3, g4, g5⟩)
  rw [h1]
  simp only [Option.bind_some]
  have uniq : ∀ k a, ix xs k = some a → key a = t → k = i := fun k a hk he => by
    rcases Int.lt_trichotomy k i with c | c | c
    · have := h4 k a (ix_lo hk).1 c hk; rw [he] at this; exact absurd this (llt_irrefl t)
    · exact c
    · obtain ⟨b, hb, gb⟩ := ix_of (l := xs) (i := i) h2 (by have := (ix_lo hk).2.1; omega)
      have := ordMap_get hs hb hk c
      rw [he] at this
      exact absurd this (h5 i b (Int.le_refl _) hb)
  refine ⟨i, ?_, h2, uniq⟩
  by_cases c : i < xs.length
  · obtain ⟨a, ha, ga⟩ := ix_of (l := xs) (i := i) (by omega) c
    rw [if_pos c, ha]
    simp only [Option.bind_some, hc]
    by_cases c2 : key a = t
    · rw [decide_eq_true (cmpL_eq.2 c2), dec_of ⟨a, ix_mem ha, c2⟩]
    · rw [decide_eq_false (fun h => c2 (cmpL_eq.1 h)), dec_no]
      rintro ⟨b, hb, e⟩
      obtain ⟨k, k0, k1, hk⟩ := mem_ix hb
      have := uniq k b hk e
      subst this
      rw [hk] at ha; cases ha; exact c2 e
  · rw [if_neg c]
    simp only [Option.bind_some]
    rw [dec_no]
    rintro ⟨b, hb, e⟩
    obtain ⟨k, k0, k1, hk⟩ := mem_ix hb
    have := uniq k b hk e
    omega
theorem bsets_eq {xs : List (List Int)} {t : List Int} (hs : Ord xs) (hl : xs.length ≤ 500000) : ∃ i, slices_BinarySearchFunc_int_int_int xs t slices_Compare_int_int = some (i, dec (t ∈ xs)) ∧ 0 ≤ i ∧ ∀ k, ix xs k = some t → k = i := by
  obtain ⟨i, h1, h2, h3⟩ := bsf_eq (key := fun a => a) (xs := xs) (t := t) (cmp := slices_Compare_int_int) (by simpa using hs) hl (fun a => compare_eq a t)
  refine ⟨i, ?_, h2, fun k hk => h3 k t hk rfl⟩
  have : slices_BinarySearchFunc_int_int_int xs t slices_Compare_int_int = bsf xs t slices_Compare_int_int := rfl
  rw [this, h1]
  simp
/-! ### The order that the specification tells -/
theorem before_eq {a b : List Int} (ha : a.length ≤ 1000000) : ref7_Before a b = some (dec (llt a b)) := by
  unfold ref7_Before
  obtain ⟨o, h1, h2⟩ := Loop_inv (body := ref7_Before_l1 a b) (fun k => 0 ≤ k ∧ k ≤ a.length ∧ k ≤ b.length ∧ a.take k.toNat = b.take k.toNat) (fun o => (match o with | .inl _ => some (decide ((a.length : Int) < (b.length : Int))) | .inr x => some x) = some (dec (llt a b))) (fun k => (a.length - k).toNat) (s := 0) ⟨by omega, by omega, by omega, by simp⟩ (fun k ⟨g0, g1, g2, g3⟩ => by
    have hd := llt_drop (a := a) (b := b) k.toNat (by omega) (by omega) g3
    unfold ref7_Before_l1
    by_cases c : k < a.length ∧ k < b.length
    · rw [if_pos (by simpa using c)]
      obtain ⟨x, hx, gx⟩ := ix_of (l := a) g0 c.1
      obtain ⟨y, hy, gy⟩ := ix_of (l := b) g0 c.2
      have da : a.drop k.toNat = x :: a.drop (k.toNat + 1) := by
        obtain ⟨hlt, rfl⟩ := List.getElem?_eq_some_iff.1 gx
        exact List.drop_eq_getElem_cons hlt
      have db : b.drop k.toNat = y :: b.drop (k.toNat + 1) := by
        obtain ⟨hlt, rfl⟩ := List.getElem?_eq_some_iff.1 gy
        exact List.drop_eq_getElem_cons hlt
      rw [da, db] at hd
      simp only [hx, hy, Option.bind_some]
      by_cases e : x = y
      · subst e
        rw [if_pos rfl, w64_of (by omega) (by omega)]
        refine .inl ⟨k + 1, rfl, ⟨by omega, by omega, by omega, ?_⟩, by omega⟩
        rw [show (k + 1).toNat = k.toNat + 1 by omega, List.take_add_one, List.take_add_one, gx, gy, g3]
      · rw [if_neg e]
        refine .inr ⟨_, rfl, ?_⟩
        dsimp only
        rw [decide_dec]
        refine congrArg some (dec_congr ?_)
        rw [hd]
        exact ⟨fun h => .inl h, fun h => h.resolve_right fun g => e g.1⟩
    · rw [if_neg (by simpa using c)]
      refine .inr ⟨_, rfl, ?_⟩
      dsimp only
      rw [decide_dec]
      refine congrArg some (dec_congr ?_)
      rw [hd]
      by_cases ca : k < a.length
      · have db : b.drop k.toNat = [] := List.drop_of_length_le (by omega)
        rw [db]
        constructor
        · intro h; omega
        · intro h; cases h' : a.drop k.toNat with
          | nil => rw [h'] at h; exact h.elim
          | cons z l => rw [h'] at h; exact h.elim
      · have da : a.drop k.toNat = [] := List.drop_of_length_le (by omega)
        rw [da]
        constructor
        · intro h
          cases h' : b.drop k.toNat with
          | nil => have := List.drop_eq_nil_iff.1 h'; omega
          | cons z l => trivial
        · intro h
          cases h' : b.drop k.toNat with
          | nil => rw [h'] at h; exact h.elim
          | cons z l =>
            have : ¬ b.length ≤ k.toNat := fun g => by rw [List.drop_of_length_le g] at h'; cases h'
            omega)
  rw [h1]
  simp only [Option.bind_some]
  exact h2
end Ab
end
section
namespace Ab
open Go
def xSets (x : TOutcome) (n : Int) : Prop := SetN x.add n ∧ SetN x.del n ∧ ∀ a ∈ x.add, a ∉ x.del
def xWt (x : TOutcome) : Prop := 1 ≤ x.weight ∧ x.weight ≤ 6
noncomputable def xCode (n : Int) (x : TOutcome) : Int := if dec (xSets x n) = true then if dec (xWt x) = true then 0 else 3 else 5
noncomputable def xsCode (n : Int) : List TOutcome → Int
  | [] => 0
  | x :: l => if xCode n x = 0 then xsCode n l else xCode n x
theorem xCode_zero {n : Int} {x : TOutcome} : xCode n x = 0 ↔ xSets x n ∧ xWt x := by
  unfold xCode
  by_cases c1 : xSets x n
  · rw [ifP c1]
    by_cases c2 : xWt x
    · rw [ifP c2]; exact ⟨fun _ => ⟨c1, c2⟩, fun _ => rfl⟩
    · rw [ifN c2]; exact ⟨fun h => by omega, fun h => absurd h.2 c2⟩
  · rw [ifN c1]; exact ⟨fun h => by omega, fun h => absurd h.1 c1⟩
theorem xsCode_zero {n : Int} : ∀ {l : List TOutcome}, xsCode n l = 0 ↔ ∀ x ∈ l, xSets x n ∧ xWt x
  | [] => by simp [xsCode]
  | x :: l => by
    rw [xsCode]
    by_cases c : xCode n x = 0
    · rw [if_pos c, xsCode_zero]; simp [xCode_zero.1 c]
    · rw [if_neg c]
      exact ⟨fun h => absurd h c, fun h => absurd (xCode_zero.2 (h x (by simp))) c⟩
structure OOk (o : TOpenOperator) (n : Int) : Prop where
  pre : SetN o.pre n
  c0 : 0 ≤ o.cost
  c1 : o.cost ≤ 100
  l0 : 1 ≤ o.outcomes.length
  l1 : o.outcomes.length ≤ 4
  xs : ∀ x ∈ o.outcomes, xSets x n ∧ xWt x
noncomputable def oHead (o : TOpenOperator) (n : Int) : Int := if dec (SetN o.pre n) = true then if dec (0 ≤ o.cost ∧ o.cost ≤ 100) = true then if dec (1 ≤ (o.outcomes.length : Int) ∧ (o.outcomes.length : Int) ≤ 4) = true then 0 else 9 else 3 else 5
noncomputable def oCode (o : TOpenOperator) (n : Int) : Int := if oHead o n = 0 then xsCode n o.outcomes else oHead o n
theorem oHead_zero {o : TOpenOperator} {n : Int} : oHead o n = 0 ↔ SetN o.pre n ∧ (0 ≤ o.cost ∧ o.cost ≤ 100) ∧ (1 ≤ (o.outcomes.length : Int) ∧ (o.outcomes.length : Int) ≤ 4) := by
  unfold oHead
  by_cases c1 : SetN o.pre n
  · rw [ifP c1]
    by_cases c2 : 0 ≤ o.cost ∧ o.cost ≤ 100
    · rw [ifP c2]
      by_cases c3 : 1 ≤ (o.outcomes.length : Int) ∧ (o.outcomes.length : Int) ≤ 4
      · rw [ifP c3]; exact ⟨fun _ => ⟨c1, c2, c3⟩, fun _ => rfl⟩
      · rw [ifN c3]; exact ⟨fun h => by omega, fun h => absurd h.2.2 c3⟩
    · rw [ifN c2]; exact ⟨fun h => by omega, fun h => absurd h.2.1 c2⟩
  · rw [ifN c1]; exact ⟨fun h => by omega, fun h => absurd h.1 c1⟩
theorem oCode_of {o : TOpenOperator} {n : Int} (h : OOk o n) : oCode o n = 0 := by
  have := h.l0; have := h.l1
  rw [oCode, if_pos (oHead_zero.2 ⟨h.pre, ⟨h.c0, h.c1⟩, by omega, by omega⟩), xsCode_zero]
  exact h.xs
theorem oCode_ok {o : TOpenOperator} {n : Int} (h : oCode o n = 0) : OOk o n := by
  unfold oCode at h
  by_cases c : oHead o n = 0
  · rw [if_pos c] at h
    obtain ⟨g1, g2, g3⟩ := oHead_zero.1 c
    exact ⟨g1, g2.1, g2.2, by omega, by omega, xsCode_zero.1 h⟩
  · rw [if_neg c] at h; exact absurd h c
theorem oc1 {o : TOpenOperator} {n : Int} (h0 : 0 ≤ n) (h1 : n ≤ 24) {j : Int} {x : TOutcome} (hx : ix o.outcomes j = some x) : open_operatorCode_l1 o n j () = some (if xCode n x = 0 then .inl () else .inr (xCode n x)) := by
  unfold open_operatorCode_l1
  rw [hx]
  simp only [Option.bind_some, isSet_eq, dec_not]
  by_cases g1 : SetN x.add n
  · rw [ifNN g1]
    by_cases g2 : SetN x.del n
    · have := g2.len
      rw [ifNN g2, meets_eq g2.1 (by omega)]
      simp only [Option.bind_some]
      by_cases g3 : ∀ a ∈ x.add, a ∉ x.del
      · have g : xSets x n := ⟨g1, g2, g3⟩
        rw [ifN (fun ⟨a, ha, hb⟩ => g3 a ha hb)]
        unfold xCode
        rw [ifP g]
        by_cases g4 : xWt x
        · have g5 := g4
          unfold xWt at g5
          rw [ifP g4, if_neg (by simp; omega)]; rfl
        · have g5 := g4
          unfold xWt at g5
          rw [ifN g4, if_pos (by simp; omega)]; rfl
      · have g : ¬ xSets x n := fun h => g3 h.2.2
        rw [ifP (by
          rw [Classical.not_forall] at g3
          obtain ⟨a, ha⟩ := g3
          exact ⟨a, Classical.not_imp.1 ha |>.1, Classical.not_not.1 (Classical.not_imp.1 ha).2⟩)]
        unfold xCode
        rw [ifN g]; rfl
    · have g : ¬ xSets x n := fun h => g2 h.2.1
      rw [ifP g2]
      unfold xCode
      rw [ifN g]; rfl
  · have g : ¬ xSets x n := fun h => g1 h.1
    rw [ifP g1]
    unfold xCode
    rw [ifN g]; rfl
theorem operatorCode_eq {o : TOpenOperator} {n : Int} (h0 : 0 ≤ n) (h1 : n ≤ 24) : open_operatorCode o n = some (oCode o n) := by
  unfold open_operatorCode
  simp only [isSet_eq, Option.bind_some, dec_not]
  unfold oCode oHead
  by_cases c1 : SetN o.pre n
  · rw [ifNN c1, ifP c1]
    by_cases c2 : 0 ≤ o.cost ∧ o.cost ≤ 100
    · rw [if_neg (show ¬ ((decide (o.cost < 0)) || (decide (100 < o.cost))) = true by rw [Bool.or_eq_true, decide_eq_true_eq, decide_eq_true_eq]; omega), ifP c2]
      by_cases c3 : 1 ≤ (o.outcomes.length : Int) ∧ (o.outcomes.length : Int) ≤ 4
      · rw [if_neg (show ¬ ((decide ((o.outcomes.length : Int) = 0)) || (decide (4 < (o.outcomes.length : Int)))) = true by rw [Bool.or_eq_true, decide_eq_true_eq, decide_eq_true_eq]; omega), ifP c3, if_pos rfl]
        rcases rngX_inv (body := open_operatorCode_l1 o n) (n := (o.outcomes.length : Int)) (fun j _ => xsCode n o.outcomes = xsCode n (o.outcomes.drop j.toNat)) (fun c => c = xsCode n o.outcomes) (s := ()) (by omega) (by simp) (fun j _ j0 j1 hP => by
          obtain ⟨x, hx, gx⟩ := ix_of (l := o.outcomes) j0 j1
          have hd : o.outcomes.drop j.toNat = x :: o.outcomes.drop (j.toNat + 1) := by
            obtain ⟨hlt, rfl⟩ := List.getElem?_eq_some_iff.1 gx
            exact List.drop_eq_getElem_cons hlt
          rw [oc1 h0 h1 hx]
          rw [hd, xsCode] at hP
          by_cases e : xCode n x = 0
          · rw [if_pos e] at hP ⊢
            exact .inl ⟨(), rfl, by rw [hP, show (j + 1).toNat = j.toNat + 1 by omega]⟩
          · rw [if_neg e] at hP ⊢
            exact .inr ⟨_, rfl, hP.symm⟩) with ⟨_, r1, r2⟩ | ⟨c, r1, rfl⟩
        · rw [r1, r2]; simp [xsCode]
        · rw [r1]; rfl
      · rw [if_pos (show ((decide ((o.outcomes.length : Int) = 0)) || (decide (4 < (o.outcomes.length : Int)))) = true by rw [Bool.or_eq_true, decide_eq_true_eq, decide_eq_true_eq]; omega), ifN c3]; rfl
    · rw [if_pos (show ((decide (o.cost < 0)) || (decide (100 < o.cost))) = true by rw [Bool.or_eq_true, decide_eq_true_eq, decide_eq_true_eq]; omega), ifN c2]; rfl
  · rw [ifP c1, ifN c1]; rfl
theorem of2 {t : TOpenTask} {o : TOpenOperator} (h0 : 0 ≤ t.facts) (h1 : t.facts ≤ 24) (hl : o.outcomes.length ≤ 1000000) (c : Int) : Loop (ref8_OpenFault_l2 t o) (c, 0) = some (if c = 0 then xsCode t.facts o.outcomes else c) := by
  obtain ⟨r, r1, r2⟩ := Loop_inv (body := ref8_OpenFault_l2 t o) (fun p => 0 ≤ p.2 ∧ p.2 ≤ o.outcomes.length ∧ (if c = 0 then xsCode t.facts o.outcomes else c) = if p.1 = 0 then xsCode t.facts (o.outcomes.drop p.2.toNat) else p.1) (fun r => r = if c = 0 then xsCode t.facts o.outcomes else c) (fun p => (o.outcomes.length - p.2).toNat) (s := (c, 0)) ⟨by simp, by simp, by simp⟩ (fun ⟨e, j⟩ ⟨g0, g1, g2⟩ => by
    dsimp only at g0 g1 g2 ⊢
    unfold ref8_OpenFault_l2
    dsimp only
    by_cases cj : j < o.outcomes.length ∧ e = 0
    · rw [if_pos (by simpa using cj)]
      obtain ⟨x, hx, gx⟩ := ix_of (l := o.outcomes) g0 cj.1
      have hd : o.outcomes.drop j.toNat = x :: o.outcomes.drop (j.toNat + 1) := by
        obtain ⟨hlt, rfl⟩ := List.getElem?_eq_some_iff.1 gx
        exact List.drop_eq_getElem_cons hlt
      rw [cj.2, if_pos rfl, hd, xsCode] at g2
      rw [hx]
      simp only [Option.bind_some, rIsSet_eq (n := t.facts) _ (show -9223372036854775808 < t.facts by omega) (show t.facts ≤ 9223372036854775807 by omega), disjoint_eq, in_eq, dec_not, cj.2]
      have hp : (if dec (¬ SetN x.add t.facts) = true then some true else if dec (¬ SetN x.del t.facts) = true then some true else some (dec (¬ ∀ a ∈ x.add, a ∉ x.del))) = some (dec (¬ xSets x t.facts)) := by
        unfold xSets
        by_cases k1 : SetN x.add t.facts
        · rw [ifNN k1]
          by_cases k2 : SetN x.del t.facts
          · rw [ifNN k2]
            exact congrArg some (dec_congr ⟨fun h k => h k.2.2, fun h k => h ⟨k1, k2, k⟩⟩)
          · rw [ifP k2, dec_of (fun k => k2 k.2.1)]
        · rw [ifP k1, dec_of (fun k => k1 k.1)]
      rw [hp]
      simp only [Option.bind_some]
      rw [w64_of (by omega) (by omega)]
      have fin : (if dec (¬ xSets x t.facts) = true then some (5 : Int) else if dec (¬ (1 ≤ x.weight ∧ x.weight ≤ 6)) = true then some 3 else some 0) = some (xCode t.facts x) := by
        unfold xCode
        by_cases k1 : xSets x t.facts
        · rw [ifNN k1, ifP k1]
          by_cases k2 : xWt x
          · rw [ifNN (p := 1 ≤ x.weight ∧ x.weight ≤ 6) k2, ifP k2]
          · rw [ifP (p := ¬ (1 ≤ x.weight ∧ x.weight ≤ 6)) k2, ifN k2]
        · rw [ifP k1, ifN k1]
      rw [fin]
      simp only [Option.bind_some]
      refine .inl ⟨_, rfl, ⟨by dsimp only; omega, by dsimp only; omega, ?_⟩, by dsimp only; omega⟩
      dsimp only
      rw [g2, show (j + 1).toNat = j.toNat + 1 by omega]
    · rw [if_neg (by simpa using cj)]
      refine .inr ⟨e, rfl, ?_⟩
      rw [g2]
      by_cases ce : e = 0
      · rw [if_pos ce, List.drop_of_length_le (by omega), xsCode, ce]
      · rw [if_neg ce])
  rw [r1, r2]
structure OTaskOk (t : TOpenTask) : Prop where
  n0 : 0 ≤ t.facts
  n1 : t.facts ≤ 24
  init : SetN t.init t.facts
  goal : SetN t.goal t.facts
  ops : t.operators.length ≤ 40
  op : ∀ o ∈ t.operators, OOk o t.facts
theorem oValidate_eq (t : TOpenTask) : ∃ f, open_Validate t = some f ∧ ref8_OpenFault t = some f ∧ ((f = ⟨0, 0⟩ ∧ OTaskOk t) ∨ (f.code ≠ 0 ∧ ¬ OTaskOk t)) := by
  unfold open_Validate ref8_OpenFault
  simp only [in_eq, at_eq, Option.bind_some, dec_not]
  by_cases c1 : 0 ≤ t.facts ∧ t.facts ≤ 24
  · rw [if_neg (by simp; omega), ifNN c1]
    simp only [isSet_eq, rIsSet_eq (n := t.facts) _ (show -9223372036854775808 < t.facts by omega) (show t.facts ≤ 9223372036854775807 by omega), Option.bind_some, dec_not]
    by_cases c2 : SetN t.init t.facts
    · rw [ifNN c2, ifNN c2]
      by_cases c3 : SetN t.goal t.facts
      · rw [ifNN c3, ifNN c3]
        by_cases c4 : 40 < (t.operators.length : Int)
        · rw [if_pos c4, if_pos c4]
          exact ⟨_, rfl, rfl, .inr ⟨by simp, fun h => by have := h.ops; omega⟩⟩
        · rw [if_neg c4, if_neg c4]
          have hb : ∀ j : Int, 0 ≤ j → j < t.operators.length → ∃ o, ix t.operators j = some o ∧ open_Validate_l1 t j () = some (if oCode o t.facts = 0 then .inl () else .inr ⟨oCode o t.facts, j⟩) ∧ ref8_OpenFault_l1 t j () = some (if oCode o t.facts = 0 then .inl () else .inr ⟨oCode o t.facts, j⟩) := fun j h0 h1 => by
            obtain ⟨o, ho, _⟩ := ix_of (l := t.operators) h0 h1
            refine ⟨o, ho, ?_, ?_⟩
            · unfold open_Validate_l1
              rw [ho]
              simp only [Option.bind_some, operatorCode_eq c1.1 c1.2]
              by_cases e : oCode o t.facts = 0
              · rw [if_pos e, if_pos e]
              · rw [if_neg e, if_neg e]
            · unfold ref8_OpenFault_l1
              rw [ho]
              simp only [Option.bind_some, rIsSet_eq (n := t.facts) _ (show -9223372036854775808 < t.facts by omega) (show t.facts ≤ 9223372036854775807 by omega), in_eq, at_eq, dec_not]
              have hp : (if dec (¬ SetN o.pre t.facts) = true then some (5 : Int) else if dec (¬ (0 ≤ o.cost ∧ o.cost ≤ 100)) = true then some 3 else if dec (¬ (1 ≤ (o.outcomes.length : Int) ∧ (o.outcomes.length : Int) ≤ 4)) = true then some 9 else some 0) = some (oHead o t.facts) := by
                unfold oHead
                by_cases g1 : SetN o.pre t.facts
                · rw [ifNN g1, ifP g1]
                  by_cases g2 : 0 ≤ o.cost ∧ o.cost ≤ 100
                  · rw [ifNN g2, ifP g2]
                    by_cases g3 : 1 ≤ (o.outcomes.length : Int) ∧ (o.outcomes.length : Int) ≤ 4
                    · rw [ifNN g3, ifP g3]
                    · rw [ifP g3, ifN g3]
                  · rw [ifP g2, ifN g2]
                · rw [ifP g1, ifN g1]
              rw [hp]
              simp only [Option.bind_some]
              by_cases eh : oHead o t.facts = 0
              · have := oHead_zero.1 eh
                rw [of2 c1.1 c1.2 (by omega), if_pos eh]
                simp only [Option.bind_some, oCode, eh, if_true]
                split <;> rfl
              · have nl : Loop (ref8_OpenFault_l2 t o) (oHead o t.facts, 0) = some (oHead o t.facts) := by
                  rw [Loop_eq]
                  have : ref8_OpenFault_l2 t o (oHead o t.facts, 0) = some (.inr (oHead o t.facts)) := by
                    unfold ref8_OpenFault_l2
                    dsimp only
                    rw [if_neg (by simp [eh])]
                  rw [this]
                rw [nl]
                simp only [Option.bind_some, oCode, if_neg eh]
          have heq : rngX 0 (t.operators.length : Int) (open_Validate_l1 t) () = rngX 0 (t.operators.length : Int) (ref8_OpenFault_l1 t) () :=
            (rngX_eq (fun _ _ => True) (by omega) trivial (fun j s h0 h1 _ => by
              obtain ⟨o, _, e1, e2⟩ := hb j h0 h1
              exact ⟨by rw [e1, e2], by rw [e1]; simp, fun _ _ => trivial⟩)).1
          rcases rngX_test (body := ref8_OpenFault_l1 t) (n := (t.operators.length : Int)) (fun j => match ix t.operators j with | some o => if oCode o t.facts = 0 then none else some (⟨oCode o t.facts, j⟩ : TFault) | none => none) (by omega) (fun j h0 h1 _ => by
            obtain ⟨o, e0, _, e2⟩ := hb j h0 h1
            rw [e2, e0]
            dsimp only
            split <;> rfl) with ⟨h1, h2⟩ | ⟨j, f, h0, h1, h2, _, h4⟩
          · rw [heq, h1]
            refine ⟨⟨0, 0⟩, rfl, rfl, .inl ⟨rfl, c1.1, c1.2, c2, c3, by omega, fun o ho => ?_⟩⟩
            obtain ⟨j, g0, g1, g2⟩ := mem_ix ho
            have := h2 j g0 g1
            rw [g2] at this
            dsimp only at this
            split at this
            · rename_i e; exact oCode_ok e
            · cases this
          · rw [heq, h4]
            obtain ⟨o, e0, _, _⟩ := hb j h0 h1
            rw [e0] at h2
            dsimp only at h2
            split at h2
            · cases h2
            · rename_i e
              cases h2
              exact ⟨_, rfl, rfl, .inr ⟨e, fun h => e (oCode_of (h.op o (ix_mem e0)))⟩⟩
      · rw [ifP c3, ifP c3]
        exact ⟨_, rfl, rfl, .inr ⟨by simp, fun h => c3 h.goal⟩⟩
    · rw [ifP c2, ifP c2]
      exact ⟨_, rfl, rfl, .inr ⟨by simp, fun h => c2 h.init⟩⟩
  · rw [if_pos (by simp; omega), if_pos (dec_of c1)]
    exact ⟨_, rfl, rfl, .inr ⟨by simp, fun h => c1 ⟨h.n0, h.n1⟩⟩⟩
end Ab
end
section
namespace Ab
open Go
def noOO : TOpenOperator := ⟨[], [], 0⟩
def ooAt (t : TOpenTask) (op : Int) : TOpenOperator := (t.operators[op.toNat]?).getD noOO
theorem ix_oo {t : TOpenTask} {op : Int} (h0 : 0 ≤ op) (h1 : op < t.operators.length) : ix t.operators op = some (ooAt t op) := by
  obtain ⟨a, h2, h3⟩ := ix_of h0 h1
  rw [h2, ooAt, h3]; rfl
def oCan (t : TOpenTask) (s : List Int) (op : Int) : Prop := ∀ x ∈ (ooAt t op).pre, x ∈ s
noncomputable def efc (n : Int) (s : List Int) (x : TOutcome) : List Int := setOf (fun p => p ∈ x.add ∨ p ∈ s ∧ p ∉ x.del) n
theorem setN_efc (n : Int) (s : List Int) (x : TOutcome) : SetN (efc n s x) n := setN_setOf _ _
theorem OTaskOk.at {t : TOpenTask} (h : OTaskOk t) {op : Int} (h0 : 0 ≤ op) (h1 : op < t.operators.length) : OOk (ooAt t op) t.facts := h.op _ (ix_mem (ix_oo h0 h1))
theorem oCan_eq {t : TOpenTask} (ht : OTaskOk t) {op : Int} (h0 : 0 ≤ op) (h1 : op < t.operators.length) {s : List Int} (hs : SetN s t.facts) : open_Can t s op = some (dec (oCan t s op)) := by
  have := ht.n1; have := hs.len
  unfold open_Can
  rw [ix_oo h0 h1]
  simp only [Option.bind_some]
  rw [contains_eq hs.1 (ht.at h0 h1).pre.1 (by omega)]
  rfl
theorem oApplies_eq {t : TOpenTask} {op : Int} (h0 : 0 ≤ op) (h1 : op < t.operators.length) (s : List Int) : ref8_Applies t s op = some (dec (oCan t s op)) := by
  unfold ref8_Applies
  rw [ix_oo h0 h1]
  simp only [Option.bind_some, subset_eq]
  rfl
theorem effect_eq {t : TOpenTask} (ht : OTaskOk t) (s : List Int) (x : TOutcome) : ref8_Effect t s x = some (efc t.facts s x) := by
  have := ht.n1
  unfold ref8_Effect
  rw [if_pos (by omega)]
  rw [forR_setOf (b := 8) (fun p => p ∈ x.add ∨ p ∈ s ∧ p ∉ x.del) ht.n0 (by omega) (fun j c g0 g1 => by
    unfold ref8_Effect_l1
    simp only [Option.bind_some, has_eq, dec_not]
    have e : (if dec (j ∈ x.add) = true then some true else if dec (j ∈ s) = true then some (dec (j ∉ x.del)) else some false) = some (dec (j ∈ x.add ∨ j ∈ s ∧ j ∉ x.del)) := by
      by_cases c1 : j ∈ x.add
      · rw [if_pos (dec_of c1), dec_of (.inl c1)]
      · rw [if_neg (fun h => c1 (dec_true.1 h))]
        by_cases c2 : j ∈ s
        · rw [if_pos (dec_of c2)]
          exact congrArg some (dec_congr ⟨fun h => .inr ⟨c2, h⟩, fun h => (h.resolve_left c1).2⟩)
        · rw [if_neg (fun h => c2 (dec_true.1 h)), dec_no (fun h => c2 (h.resolve_left c1).1)]
    rw [e]
    simp only [Option.bind_some]
    refine ⟨fun hq => ?_, fun hq => ?_⟩
    · rw [if_pos (dec_of hq)]
      cases app 8 c [j] <;> rfl
    · rw [if_neg (fun h => hq (dec_true.1 h))]; rfl)]
  rfl
theorem oUpdate_eq {n : Int} (hn : n ≤ 24) {s : List Int} (hs : SetN s n) {x : TOutcome} (hx : xSets x n) : strips_Update s x.add x.del = some (efc n s x) := by
  have := hx.2.1.len
  rw [update_eq (n := n) (by omega) hx.2.1.1 (by omega) hs hx.1]
  exact congrArg some (setOf_congr fun _ _ _ => Or.comm)
/-! ### Policies -/
theorem ord_of_adj : ∀ {l : List (List Int)}, (∀ (k : Nat) a b, l[k]? = some a → l[k + 1]? = some b → llt a b) → Ord l
  | [], _ => .nil
  | [_], _ => by simp
  | a :: b :: l, h => by
    have ih : Ord (b :: l) := ord_of_adj fun k x y h1 h2 => h (k + 1) x y (by simpa using h1) (by simpa using h2)
    have hab : llt a b := h 0 a b rfl rfl
    refine List.pairwise_cons.2 ⟨fun c hc => ?_, ih⟩
    rcases List.mem_cons.1 hc with rfl | hc
    · exact hab
    · exact llt_trans hab ((List.pairwise_cons.1 ih).1 c hc)
structure PolOk (t : TOpenTask) (p : List TChoice) : Prop where
  len : p.length ≤ 200
  ord : Ord (p.map TChoice.state)
  set : ∀ c ∈ p, SetN c.state t.facts
  op : ∀ c ∈ p, 0 ≤ c.operator ∧ c.operator < t.operators.length
  can : ∀ c ∈ p, oCan t c.state c.operator
def pSet (t : TOpenTask) (p : List TChoice) (j : Int) (c : TChoice) : Prop := SetN c.state t.facts ∧ ∀ b, 0 < j → ix p (j - 1) = some b → llt b.state c.state
noncomputable def pCode (t : TOpenTask) (p : List TChoice) (j : Int) (c : TChoice) : Int := if dec (pSet t p j c) = true then if dec (0 ≤ c.operator ∧ c.operator < t.operators.length) = true then if dec (oCan t c.state c.operator) = true then 0 else 11 else 3 else 5
theorem pCode_zero {t : TOpenTask} {p : List TChoice} {j : Int} {c : TChoice} : pCode t p j c = 0 → pSet t p j c ∧ (0 ≤ c.operator ∧ c.operator < t.operators.length) ∧ oCan t c.state c.operator := by
  unfold pCode
  by_cases c1 : pSet t p j c
  · rw [ifP c1]
    by_cases c2 : 0 ≤ c.operator ∧ c.operator < t.operators.length
    · rw [ifP c2]
      by_cases c3 : oCan t c.state c.operator
      · rw [ifP c3]; exact fun _ => ⟨c1, c2, c3⟩
      · rw [ifN c3]; exact fun h => by omega
    · rw [ifN c2]; exact fun h => by omega
  · rw [ifN c1]; exact fun h => by omega
theorem pol1 {t : TOpenTask} (ht : OTaskOk t) {p : List TChoice} {j : Int} {c : TChoice} (hl : p.length ≤ 200) (hc : ix p j = some c) : open_ValidatePolicy_l1 t p j () = some (if pCode t p j c = 0 then .inl () else .inr ⟨pCode t p j c, -9 - j⟩) := by
  obtain ⟨j0, j1, _⟩ := ix_lo hc
  have hn := ht.n1
  unfold open_ValidatePolicy_l1
  rw [hc]
  simp only [Option.bind_some, isSet_eq, dec_not]
  have key : (if dec (¬ SetN c.state t.facts) = true then some true else if 0 < j then Option.bind (ix p (j - 1)) fun a40 => Option.bind (slices_Compare_int_int a40.state c.state) fun a45 => some (decide (0 ≤ a45)) else some false) = some (dec (¬ pSet t p j c)) := by
    by_cases g1 : SetN c.state t.facts
    · rw [ifNN g1]
      by_cases g2 : 0 < j
      · rw [if_pos g2]
        obtain ⟨b, hb, _⟩ := ix_of (l := p) (i := j - 1) (by omega) (by omega)
        rw [hb]
        simp only [Option.bind_some, compare_eq, decide_dec]
        refine congrArg some (dec_congr ?_)
        rw [cmpL_ge]
        exact ⟨fun h g => h (g.2 b g2 hb), fun h g => h ⟨g1, fun b' _ hb' => by rw [hb] at hb'; cases hb'; exact g⟩⟩
      · rw [if_neg g2, dec_no]
        exact fun h => h ⟨g1, fun _ g => absurd g g2⟩
    · rw [ifP g1, dec_of (fun h => g1 h.1)]
  rw [key]
  simp only [Option.bind_some]
  rw [w64_of (by omega) (by omega)]
  unfold pCode
  by_cases g1 : pSet t p j c
  · rw [ifNN g1, ifP g1]
    by_cases g2 : 0 ≤ c.operator ∧ c.operator < t.operators.length
    · rw [if_neg (show ¬ ((decide (c.operator < 0)) || (decide ((t.operators.length : Int) ≤ c.operator))) = true by rw [Bool.or_eq_true, decide_eq_true_eq, decide_eq_true_eq]; omega), ifP g2, oCan_eq ht g2.1 g2.2 g1.1]
      simp only [Option.bind_some, dec_not]
      by_cases g3 : oCan t c.state c.operator
      · rw [ifNN g3, ifP g3]; rfl
      · rw [ifP g3, ifN g3]; rfl
    · rw [if_pos (show ((decide (c.operator < 0)) || (decide ((t.operators.length : Int) ≤ c.operator))) = true by rw [Bool.or_eq_true, decide_eq_true_eq, decide_eq_true_eq]; omega), ifN g2]; rfl
  · rw [ifP g1, ifN g1]; rfl
theorem pol2 {t : TOpenTask} (ht : OTaskOk t) {p : List TChoice} {j : Int} {c : TChoice} (hl : p.length ≤ 200) (hw : 0 < j → ∀ b, ix p (j - 1) = some b → b.state.length ≤ 1000000) (hc : ix p j = some c) : ref8_PolicyFault_l1 t p j () = some (if pCode t p j c = 0 then .inl () else .inr ⟨pCode t p j c, -9 - j⟩) := by
  obtain ⟨j0, j1, _⟩ := ix_lo hc
  have hn := ht.n1; have hn0 := ht.n0; have ho := ht.ops
  unfold ref8_PolicyFault_l1
  rw [hc]
  simp only [Option.bind_some, rIsSet_eq (n := t.facts) _ (show -9223372036854775808 < t.facts by omega) (show t.facts ≤ 9223372036854775807 by omega), in_eq, at_eq, dec_not]
  have key : (if dec (¬ SetN c.state t.facts) = true then some true else if 0 < j then Option.bind (ix p (j - 1)) fun a39 => Option.bind (ref7_Before a39.state c.state) fun a47 => some (!a47) else some false) = some (dec (¬ pSet t p j c)) := by
    by_cases g1 : SetN c.state t.facts
    · rw [ifNN g1]
      by_cases g2 : 0 < j
      · rw [if_pos g2]
        obtain ⟨b, hb, _⟩ := ix_of (l := p) (i := j - 1) (by omega) (by omega)
        rw [hb]
        simp only [Option.bind_some, before_eq (hw g2 b hb), dec_not]
        refine congrArg some (dec_congr ?_)
        exact ⟨fun h g => h (g.2 b g2 hb), fun h g => h ⟨g1, fun b' _ hb' => by rw [hb] at hb'; cases hb'; exact g⟩⟩
      · rw [if_neg g2, dec_no]
        exact fun h => h ⟨g1, fun _ g => absurd g g2⟩
    · rw [ifP g1, dec_of (fun h => g1 h.1)]
  rw [key]
  simp only [Option.bind_some]
  rw [w64_of (n := -9 - j) (by omega) (by omega), w64_of (n := (t.operators.length : Int) - 1) (by omega) (by omega)]
  unfold pCode
  by_cases g1 : pSet t p j c
  · rw [ifNN g1, ifP g1]
    by_cases g2 : 0 ≤ c.operator ∧ c.operator < t.operators.length
    · rw [ifN (show ¬ ¬ (0 ≤ c.operator ∧ c.operator ≤ (t.operators.length : Int) - 1) by omega), ifP g2, oApplies_eq g2.1 g2.2]
      simp only [Option.bind_some, dec_not]
      by_cases g3 : oCan t c.state c.operator
      · rw [ifNN g3, ifP g3]; rfl
      · rw [ifP g3, ifN g3]; rfl
    · rw [ifP (show ¬ (0 ≤ c.operator ∧ c.operator ≤ (t.operators.length : Int) - 1) by omega), ifN g2]; rfl
  · rw [ifP g1, ifN g1]; rfl
theorem policy_eq (t : TOpenTask) (p : List TChoice) : ∃ f, open_ValidatePolicy t p = some f ∧ ref8_PolicyFault t p = some f ∧ ((f = ⟨0, 0⟩ ∧ OTaskOk t ∧ PolOk t p) ∨ f.code ≠ 0) := by
  obtain ⟨f, h1, h2, h3⟩ := oValidate_eq t
  unfold open_ValidatePolicy ref8_PolicyFault
  rw [h1, h2]
  simp only [Option.bind_some]
  rcases h3 with ⟨rfl, ht⟩ | ⟨hc, _⟩
  · rw [if_neg (by simp), if_pos rfl]
    by_cases c1 : 200 < (p.length : Int)
    · rw [if_pos c1, if_pos c1, at_eq]
      exact ⟨_, rfl, rfl, .inr (by simp)⟩
    · rw [if_neg c1, if_neg c1]
      have hn := ht.n1
      have hset : ∀ j : Int, (∀ i, 0 ≤ i → i < j → (match ix p i with | some c => if pCode t p i c = 0 then none else some (⟨pCode t p i c, -9 - i⟩ : TFault) | none => none) = none) → 0 < j → ∀ b, ix p (j - 1) = some b → b.state.length ≤ 1000000 := fun j hj j0 b hb => by
        have := hj (j - 1) (by omega) (by omega)
        rw [hb] at this
        dsimp only at this
        split at this
        · rename_i e
          have := (pCode_zero e).1.1.len
          omega
        · cases this
      rcases rngX_test (body := open_ValidatePolicy_l1 t p) (n := (p.length : Int)) (fun j => match ix p j with | some c => if pCode t p j c = 0 then none else some (⟨pCode t p j c, -9 - j⟩ : TFault) | none => none) (by omega) (fun j h0 h1 _ => by
        obtain ⟨c, e0, _⟩ := ix_of (l := p) h0 h1
        rw [pol1 ht (by omega) e0, e0]
        dsimp only
        split <;> rfl) with ⟨a1, a2⟩ | ⟨j, f, a0, a1, a2, a3, a4⟩
      · rcases rngX_test (body := ref8_PolicyFault_l1 t p) (n := (p.length : Int)) (fun j => match ix p j with | some c => if pCode t p j c = 0 then none else some (⟨pCode t p j c, -9 - j⟩ : TFault) | none => none) (by omega) (fun j h0 h1 hj => by
          obtain ⟨c, e0, _⟩ := ix_of (l := p) h0 h1
          rw [pol2 ht (by omega) (hset j hj) e0, e0]
          dsimp only
          split <;> rfl) with ⟨b1, b2⟩ | ⟨j', f', b0, b1, b2, b3, b4⟩
        · rw [a1, b1]
          have all : ∀ j c, ix p j = some c → pSet t p j c ∧ (0 ≤ c.operator ∧ c.operator < t.operators.length) ∧ oCan t c.state c.operator := fun j c hc => by
            have := a2 j (ix_lo hc).1 (ix_lo hc).2.1
            rw [hc] at this
            dsimp only at this
            split at this
            · rename_i e; exact pCode_zero e
            · cases this
          have all' : ∀ c ∈ p, SetN c.state t.facts ∧ (0 ≤ c.operator ∧ c.operator < t.operators.length) ∧ oCan t c.state c.operator := fun c hc => by
            obtain ⟨j, _, _, hj⟩ := mem_ix hc
            obtain ⟨g1, g2, g3⟩ := all j c hj
            exact ⟨g1.1, g2, g3⟩
          refine ⟨_, rfl, rfl, .inl ⟨rfl, ht, by omega, ord_of_adj fun k a b ha hb => ?_, fun c hc => (all' c hc).1, fun c hc => (all' c hc).2.1, fun c hc => (all' c hc).2.2⟩⟩
          rw [List.getElem?_map] at ha hb
          cases ha' : p[k]? with
          | none => rw [ha'] at ha; cases ha
          | some a' =>
            cases hb' : p[k + 1]? with
            | none => rw [hb'] at hb; cases hb
            | some b' =>
              rw [ha'] at ha; rw [hb'] at hb; cases ha; cases hb
              refine (all ((k + 1 : Nat) : Int) b' (by rw [ix_nat, hb'])).1.2 a' (by omega) ?_
              rw [show ((k + 1 : Nat) : Int) - 1 = (k : Nat) by omega, ix_nat, ha']
        · rw [a2 j' b0 b1] at b2; cases b2
      · rcases rngX_test (body := ref8_PolicyFault_l1 t p) (n := (p.length : Int)) (fun j => match ix p j with | some c => if pCode t p j c = 0 then none else some (⟨pCode t p j c, -9 - j⟩ : TFault) | none => none) (by omega) (fun j h0 h1 hj => by
          obtain ⟨c, e0, _⟩ := ix_of (l := p) h0 h1
          rw [pol2 ht (by omega) (hset j hj) e0, e0]
          dsimp only
          split <;> rfl) with ⟨b1, b2⟩ | ⟨j', f', b0, b1, b2, b3, b4⟩
        · rw [b2 j a0 a1] at a2; cases a2
        · have ej : j = j' := by
            rcases Int.lt_trichotomy j j' with h | h | h
            · rw [b3 j a0 h] at a2; cases a2
            · exact h
            · rw [a3 j' b0 h] at b2; cases b2
          subst ej
          rw [a2] at b2
          cases b2
          rw [a4, b4]
          refine ⟨_, rfl, rfl, .inr ?_⟩
          obtain ⟨c, e0, _⟩ := ix_of (l := p) a0 a1
          rw [e0] at a2
          dsimp only at a2
          split at a2
          · cases a2
          · rename_i e; cases a2; exact e
  · rw [if_pos (fault_no hc), if_neg hc]
    exact ⟨f, rfl, rfl, .inr hc⟩
/-! ### What a policy chooses -/
theorem rChosen_eq (p : List TChoice) (s : List Int) : ∃ r, ref8_Chosen p s = some r ∧ ((r = -1 ∧ ∀ c ∈ p, c.state ≠ s) ∨ ∃ c, c ∈ p ∧ c.state = s ∧ r = c.operator) := by
  unfold ref8_Chosen
  rcases rngX_test (body := ref8_Chosen_l1 p s) (n := (p.length : Int)) (fun j => match ix p j with | some c => if dec (c.state = s) = true then some c.operator else none | none => none) (by omega) (fun j h0 h1 _ => by
    obtain ⟨x, hx, _⟩ := ix_of (l := p) h0 h1
    unfold ref8_Chosen_l1
    simp only [hx, Option.bind_some, ints_eq]
    by_cases e : x.state = s
    · rw [ifP e, ifP e]
    · rw [ifN e, ifN e]) with ⟨h1, h2⟩ | ⟨j, o, h0, h1, h2, h3, h4⟩
  · rw [h1]
    refine ⟨-1, rfl, .inl ⟨rfl, fun c hc he => ?_⟩⟩
    obtain ⟨i, i0, i1, hi⟩ := mem_ix hc
    have := h2 i i0 i1
    rw [hi] at this
    dsimp only at this
    rw [ifP he] at this
    cases this
  · rw [h4]
    obtain ⟨c, hc, _⟩ := ix_of (l := p) h0 h1
    rw [hc] at h2
    dsimp only at h2
    split at h2
    · rename_i e
      cases h2
      exact ⟨_, rfl, .inr ⟨c, ix_mem hc, dec_true.1 e, rfl⟩⟩
    · cases h2
theorem chosen_eq {t : TOpenTask} {p : List TChoice} (hp : PolOk t p) (s : List Int) : ∃ r, open_Chosen p s = some r ∧ ref8_Chosen p s = some r ∧ (r = -1 ∨ (0 ≤ r ∧ r < t.operators.length ∧ oCan t s r)) := by
  obtain ⟨r, h1, h2⟩ := rChosen_eq p s
  refine ⟨r, ?_, h1, ?_⟩
  · unfold open_Chosen
    obtain ⟨i, g1, g2, g3⟩ := bsf_eq (key := TChoice.state) (xs := p) (t := s) (cmp := open_Chosen_1) hp.ord (by have := hp.len; omega) (fun a => by unfold open_Chosen_1; rw [compare_eq]; rfl)
    have : slices_BinarySearchFunc_api_Choice_api_Choice_int p s open_Chosen_1 = bsf p s open_Chosen_1 := rfl
    rw [this, g1]
    simp only [Option.bind_some, dec_not]
    rcases h2 with ⟨rfl, h⟩ | ⟨c, hc, he, rfl⟩
    · rw [ifP]
      rintro ⟨a, ha, e⟩; exact h a ha e
    · rw [ifNN ⟨c, hc, he⟩]
      obtain ⟨k, _, _, hk⟩ := mem_ix hc
      have := g3 k c hk he
      subst this
      rw [hk]; rfl
  · rcases h2 with ⟨rfl, h⟩ | ⟨c, hc, he, rfl⟩
    · exact .inl rfl
    · have := hp.op c hc
      exact .inr ⟨this.1, this.2, he ▸ hp.can c hc⟩
end Ab
end
section
namespace Ab
open Go
theorem ix_map {α β : Type} {f : α → β} {l : List α} {i : Int} : ix (l.map f) i = (ix l i).map f := by
  simp only [ix]
  split
  · rw [List.getElem?_map]
  · rfl
theorem Ord.one {l m : List (List Int)} (hl : Ord l) (hm : Ord m) {p : List Int → Prop} (h1 : ∀ y, y ∈ l ↔ p y) (h2 : ∀ y, y ∈ m ↔ p y) : l = m := Ord.ext hl hm fun y => (h1 y).trans (h2 y).symm
theorem cloneLL_eq {s : List (List Int)} (h : s.length ≤ 1000000) : slices_Clone_Lint_int s = some s := by
  rw [slices_Clone_Lint_int, app, if_pos (by simp; omega)]; rfl
theorem results1 {t : TOpenTask} {o : TOpenOperator} (ho : OOk o t.facts) (hn : t.facts ≤ 24) {s : List Int} (hs : SetN s t.facts) : forR 0 (o.outcomes.length : Int) (open_Results_l1 s o) [] = some (o.outcomes.map (efc t.facts s)) := by
  have hl := ho.l1
  obtain ⟨c, h1, h2⟩ := forR_inv (body := open_Results_l1 s o) (n := (o.outcomes.length : Int)) (s := []) (fun j c => c = (o.outcomes.take j.toNat).map (efc t.facts s)) (by omega) (by simp) (fun j c j0 j1 hP => by
    obtain ⟨x, hx, gx⟩ := ix_of (l := o.outcomes) j0 j1
    unfold open_Results_l1
    rw [hx]
    simp only [Option.bind_some]
    rw [oUpdate_eq hn hs (ho.xs x (ix_mem hx)).1]
    simp only [Option.bind_some]
    have hlen : c.length ≤ 4 := by rw [hP, List.length_map, List.length_take]; omega
    rw [app, if_pos (by simp; omega)]
    refine ⟨_, rfl, ?_⟩
    rw [show (j + 1).toNat = j.toNat + 1 by omega, List.take_add_one, gx, hP, List.map_append]; rfl)
  rw [h1, h2]
  simp
theorem oResults_eq {t : TOpenTask} (ht : OTaskOk t) {op : Int} (h0 : 0 ≤ op) (h1 : op < t.operators.length) {s : List Int} (hs : SetN s t.facts) : ∃ st w, open_Results t s op = some (st, w) ∧ Ord st ∧ (∀ y, y ∈ st ↔ ∃ x ∈ (ooAt t op).outcomes, efc t.facts s x = y) ∧ st.length ≤ 4 ∧ w.length = st.length ∧ forR 0 ((ooAt t op).outcomes.length : Int) (open_Results_l2 ((ooAt t op).outcomes.map (efc t.facts s)) st (ooAt t op)) (List.replicate st.length 0) = some w := by
  have ho := ht.at h0 h1
  have hl := ho.l1
  unfold open_Results
  rw [ix_oo h0 h1]
  simp only [Option.bind_some]
  rw [results1 ho ht.n1 hs]
  simp only [Option.bind_some]
  rw [cloneLL_eq (by simp; omega)]
  simp only [Option.bind_some]
  obtain ⟨st, n1, n2, n3, n4⟩ := normal_eq (l := (ooAt t op).outcomes.map (efc t.facts s)) (by simp; omega)
  have n4' : st.length ≤ 4 := by rw [List.length_map] at n4; omega
  have hm : mkL 8 (st.length : Int) (0 : Int) = some (List.replicate st.length 0) := by
    rw [mkL, if_pos (by omega)]; simp
  obtain ⟨w, w1, w2⟩ := forR_inv (body := open_Results_l2 ((ooAt t op).outcomes.map (efc t.facts s)) st (ooAt t op)) (n := ((ooAt t op).outcomes.length : Int)) (s := List.replicate st.length 0) (fun j c => c.length = st.length) (by omega) (by simp) (fun j c j0 j1 hP => by
    obtain ⟨x, hx, gx⟩ := ix_of (l := (ooAt t op).outcomes) j0 j1
    have hmem : efc t.facts s x ∈ st := (n3 _).2 (List.mem_map.2 ⟨x, ix_mem hx, rfl⟩)
    obtain ⟨i, e1, e2, e3⟩ := bsets_eq (t := efc t.facts s x) n2 (by omega)
    obtain ⟨k, k0, k1, hk⟩ := mem_ix hmem
    have := e3 k hk
    subst this
    obtain ⟨z, hz, gz⟩ := ix_of (l := c) (i := k) k0 (by omega)
    unfold open_Results_l2
    rw [hx, ix_map, hx]
    simp only [Option.bind_some, Option.map_some, e1, hz]
    exact ⟨_, rfl, by rw [List.length_set]; exact hP⟩)
  rw [n1]
  simp only [Option.bind_some, hm, w1]
  exact ⟨st, w, rfl, n2, fun y => by rw [n3, List.mem_map], n4', w2, w1⟩
theorem outcomes_ok {t : TOpenTask} (ht : OTaskOk t) (s : List Int) (op : Int) : open_Outcomes t s op = if dec (SetN s t.facts) = true then if dec (0 ≤ op ∧ op < t.operators.length) = true then if dec (oCan t s op) = true then (open_Results t s op).bind fun r => some (r.1, r.2, ⟨0, 0⟩) else some ([], [], ⟨11, op⟩) else some ([], [], ⟨3, -6⟩) else some ([], [], ⟨5, -4⟩) := by
  obtain ⟨f, h1, _, h3⟩ := oValidate_eq t
  rcases h3 with ⟨rfl, _⟩ | ⟨_, hn⟩
  · unfold open_Outcomes
    rw [h1]
    simp only [Option.bind_some, isSet_eq, dec_not]
    rw [if_neg (by simp)]
    by_cases c1 : SetN s t.facts
    · rw [ifNN c1, ifP c1]
      by_cases c2 : 0 ≤ op ∧ op < t.operators.length
      · rw [if_neg (show ¬ ((decide (op < 0)) || (decide ((t.operators.length : Int) ≤ op))) = true by rw [Bool.or_eq_true, decide_eq_true_eq, decide_eq_true_eq]; omega), ifP c2, oCan_eq ht c2.1 c2.2 c1]
        simp only [Option.bind_some, dec_not]
        by_cases c3 : oCan t s op
        · rw [ifNN c3, ifP c3]
        · rw [ifP c3, ifN c3]
      · rw [if_pos (show ((decide (op < 0)) || (decide ((t.operators.length : Int) ≤ op))) = true by rw [Bool.or_eq_true, decide_eq_true_eq, decide_eq_true_eq]; omega), ifN c2]
    · rw [ifP c1, ifN c1]
  · exact absurd ht hn
/-! ### The coin -/
def coinX : TOutcome := ⟨[0], [], 1⟩
def coinY : TOutcome := ⟨[], [], 2⟩
def coinO : TOpenOperator := ⟨[], [coinX, coinY], 1⟩
def coinT : TOpenTask := ⟨1, [], [0], [coinO]⟩
theorem coin_ok : OTaskOk coinT where
  n0 := by decide
  n1 := by decide
  init := setN_nil _
  goal := setN1 0 (by decide) (by decide)
  ops := by decide
  op o ho := by
    simp only [coinT, List.mem_singleton] at ho
    subst ho
    refine ⟨setN_nil _, by decide, by decide, by decide, by decide, fun x hx => ?_⟩
    simp only [coinO, List.mem_cons, List.not_mem_nil, or_false] at hx
    rcases hx with rfl | rfl
    · exact ⟨⟨setN1 0 (by decide) (by decide), setN_nil _, by simp [coinX]⟩, by decide, by decide⟩
    · exact ⟨⟨setN_nil _, setN_nil _, by simp [coinY]⟩, by decide, by decide⟩
theorem coin_X : efc 1 [] coinX = [0] := by
  refine ((setN1 0 (by decide) (by decide) : SetN [0] 1).eq_of (p := fun p => p ∈ coinX.add ∨ p ∈ [] ∧ p ∉ coinX.del) fun x h0 h1 => ?_).symm
  simp [coinX]
theorem coin_Y : efc 1 [] coinY = [] := by
  refine ((setN_nil 1).eq_of (p := fun p => p ∈ coinY.add ∨ p ∈ [] ∧ p ∉ coinY.del) fun x h0 h1 => ?_).symm
  simp [coinY]
theorem tossed_eq : law8_tossed = some true := by
  have hat : ooAt coinT 0 = coinO := rfl
  obtain ⟨st, w, r1, r2, r3, r4, r5, r6⟩ := oResults_eq coin_ok (op := 0) (by decide) (by decide) (s := []) (setN_nil _)
  rw [hat] at r3 r6
  have hst : st = [[], [0]] := by
    refine Ord.ext r2 (by simp [llt]) fun y => ?_
    rw [r3]
    simp only [coinO, List.mem_cons, List.not_mem_nil, or_false, show coinT.facts = 1 from rfl]
    constructor
    · rintro ⟨x, rfl | rfl, rfl⟩
      · exact .inr coin_X
      · exact .inl coin_Y
    · rintro (rfl | rfl)
      · exact ⟨coinY, .inr rfl, coin_Y⟩
      · exact ⟨coinX, .inl rfl, coin_X⟩
  subst hst
  have hw : w = [2, 1] := by
    obtain ⟨i, e1, e2, e3⟩ := bsets_eq (xs := [[], [0]]) (t := [0]) (by simp [llt]) (by decide)
    have := e3 1 rfl
    subst this
    obtain ⟨i, f1, f2, f3⟩ := bsets_eq (xs := [[], [0]]) (t := []) (by simp [llt]) (by decide)
    have := f3 0 rfl
    subst this
    have hr : (coinO.outcomes.map (efc coinT.facts [])) = [[0], []] := by
      simp only [coinO, List.map_cons, List.map_nil, show coinT.facts = 1 from rfl, coin_X, coin_Y]
    rw [hr] at r6
    have b0 : open_Results_l2 [[0], []] [[], [0]] coinO 0 [0, 0] = some [0, 1] := by
      unfold open_Results_l2
      simp only [show ix coinO.outcomes 0 = some coinX from rfl, show ix [[(0 : Int)], []] 0 = some [0] from rfl, Option.bind_some, e1]
      rfl
    have b1 : open_Results_l2 [[0], []] [[], [0]] coinO 1 [0, 1] = some [2, 1] := by
      unfold open_Results_l2
      simp only [show ix coinO.outcomes 1 = some coinY from rfl, show ix [[(0 : Int)], []] 1 = some [] from rfl, Option.bind_some, f1]
      rfl
    have hl : ((coinO.outcomes.length : Int) - 0).toNat = 2 := rfl
    have hrep : List.replicate ([[], [(0 : Int)]] : List (List Int)).length (0 : Int) = [0, 0] := rfl
    rw [hrep] at r6
    unfold forR at r6
    rw [hl] at r6
    simp only [forN, b0, Option.bind_some, show (0 : Int) + 1 = 1 from rfl, b1] at r6
    exact (Option.some.inj r6).symm
  subst hw
  unfold law8_tossed
  rw [show law8_coin = some coinT from rfl]
  simp only [Option.bind_some]
  rw [outcomes_ok coin_ok, ifP (setN_nil _), ifP ⟨by decide, by decide⟩, ifP (by intro x hx; cases hx), r1]
  simp only [Option.bind_some, if_true, sets_eq, numbers_eq, dec_true]
  rw [dec_of trivial]
end Ab
end
section
namespace Ab
open Go
noncomputable def chO (p : List TChoice) (s : List Int) : Int := (ref8_Chosen p s).getD (-1)
theorem rChosen_chO (p : List TChoice) (s : List Int) : ref8_Chosen p s = some (chO p s) := by
  obtain ⟨r, h, _⟩ := rChosen_eq p s
  rw [chO, h]; rfl
theorem chosen_chO {t : TOpenTask} {p : List TChoice} (hp : PolOk t p) (s : List Int) : open_Chosen p s = some (chO p s) ∧ (chO p s = -1 ∨ (0 ≤ chO p s ∧ chO p s < t.operators.length ∧ oCan t s (chO p s))) := by
  obtain ⟨r, h1, h2, h3⟩ := chosen_eq hp s
  have : chO p s = r := by rw [chO, h2]; rfl
  rw [this]
  exact ⟨h1, h3⟩
def noX : TOutcome := ⟨[], [], 0⟩
def xAt (o : TOpenOperator) (i : Int) : TOutcome := (o.outcomes[i.toNat]?).getD noX
theorem ix_x {o : TOpenOperator} {i : Int} (h0 : 0 ≤ i) (h1 : i < o.outcomes.length) : ix o.outcomes i = some (xAt o i) := by
  obtain ⟨a, h2, h3⟩ := ix_of h0 h1
  rw [h2, xAt, h3]; rfl
/-- What a policy meets. -/
noncomputable def fol (t : TOpenTask) (p : List TChoice) : List Int → Int → List (List Int) → List Int → List (List Int) × TFault
  | [], _, c, _ => (c, ⟨0, 0⟩)
  | i :: r, j, c, s => if dec (chO p s < 0 ∨ ∀ x ∈ t.goal, x ∈ s) = true then (c, ⟨0, 0⟩) else
    if dec (0 ≤ i ∧ i < (ooAt t (chO p s)).outcomes.length) = true then fol t p r (j + 1) (c ++ [efc t.facts s (xAt (ooAt t (chO p s)) i)]) (efc t.facts s (xAt (ooAt t (chO p s)) i)) else ([], ⟨3, j⟩)
theorem drop_ix {l : List Int} {j : Int} {a : Int} (h : ix l j = some a) : l.drop j.toNat = a :: l.drop (j + 1).toNat := by
  obtain ⟨j0, _, g⟩ := ix_lo h
  obtain ⟨hlt, rfl⟩ := List.getElem?_eq_some_iff.1 g
  rw [show (j + 1).toNat = j.toNat + 1 by omega]
  exact List.drop_eq_getElem_cons hlt
theorem ifOr {a b : Prop} : (if dec a = true then some true else some (dec b)) = some (dec (a ∨ b)) := by
  by_cases h : a
  · rw [ifP h, dec_of (.inl h)]
  · rw [ifN h]; exact congrArg some (dec_congr ⟨.inr, fun g => g.resolve_left h⟩)
theorem follow_eq {t : TOpenTask} (ht : OTaskOk t) {p : List TChoice} (hp : PolOk t p) {outs : List Int} (hl : outs.length ≤ 60) : (Option.bind (Loop (open_Follow_l1 t p outs) ([t.init], t.init, 0)) fun | .inl c9 => some (c9, (⟨0, 0⟩ : TFault)) | .inr x => some x) = some (fol t p outs 0 [t.init] t.init) := by
  obtain ⟨r, r1, r2⟩ := Loop_inv (body := open_Follow_l1 t p outs) (fun q => 0 ≤ q.2.2 ∧ q.2.2 ≤ outs.length ∧ SetN q.2.1 t.facts ∧ q.1.length = q.2.2.toNat + 1 ∧ fol t p outs 0 [t.init] t.init = fol t p (outs.drop q.2.2.toNat) q.2.2 q.1 q.2.1) (fun r => (match r with | .inl c9 => some (c9, (⟨0, 0⟩ : TFault)) | .inr x => some x) = some (fol t p outs 0 [t.init] t.init)) (fun q => (outs.length - q.2.2).toNat) (s := ([t.init], t.init, 0)) ⟨by simp, by simp, ht.init, by simp, by simp⟩ (fun ⟨c, s, j⟩ ⟨g0, g1, g2, g3, g4⟩ => by
    dsimp only at g0 g1 g2 g3 g4 ⊢
    have hn := ht.n1
    have := g2.len
    unfold open_Follow_l1
    dsimp only
    by_cases cj : j < outs.length
    · obtain ⟨i, hi, _⟩ := ix_of (l := outs) g0 cj
      rw [drop_ix hi, fol] at g4
      obtain ⟨e1, e2⟩ := chosen_chO hp s
      rw [if_pos cj, hi]
      simp only [Option.bind_some, e1, contains_eq g2.1 ht.goal.1 (by omega)]
      have key : (if chO p s < 0 then some true else some (dec (∀ x ∈ t.goal, x ∈ s))) = some (dec (chO p s < 0 ∨ ∀ x ∈ t.goal, x ∈ s)) := by
        rw [← ifOr]
        by_cases h : chO p s < 0
        · rw [if_pos h, ifP h]
        · rw [if_neg h, ifN h]
      rw [key]
      simp only [Option.bind_some]
      by_cases cs : chO p s < 0 ∨ ∀ x ∈ t.goal, x ∈ s
      · rw [ifP cs] at g4 ⊢
        exact .inr ⟨_, rfl, by dsimp only; rw [g4]⟩
      · rw [ifN cs] at g4 ⊢
        have e3 : 0 ≤ chO p s ∧ chO p s < t.operators.length := by
          rcases e2 with e | e
          · exact absurd (.inl (by omega)) cs
          · exact ⟨e.1, e.2.1⟩
        rw [ix_oo e3.1 e3.2]
        simp only [Option.bind_some]
        by_cases ci : 0 ≤ i ∧ i < (ooAt t (chO p s)).outcomes.length
        · rw [ifP ci] at g4
          rw [if_neg (show ¬ ((decide (i < 0)) || (decide (((ooAt t (chO p s)).outcomes.length : Int) ≤ i))) = true by rw [Bool.or_eq_true, decide_eq_true_eq, decide_eq_true_eq]; omega), ix_x ci.1 ci.2]
          simp only [Option.bind_some]
          rw [oUpdate_eq hn g2 ((ht.at e3.1 e3.2).xs _ (ix_mem (ix_x ci.1 ci.2))).1]
          simp only [Option.bind_some]
          rw [app, if_pos (by simp; omega)]
          simp only [Option.bind_some]
          rw [w64_of (by omega) (by omega)]
          refine .inl ⟨_, rfl, ⟨by dsimp only; omega, by dsimp only; omega, setN_efc _ _ _, by simp; omega, g4⟩, by dsimp only; omega⟩
        · rw [ifN ci] at g4
          rw [if_pos (show ((decide (i < 0)) || (decide (((ooAt t (chO p s)).outcomes.length : Int) ≤ i))) = true by rw [Bool.or_eq_true, decide_eq_true_eq, decide_eq_true_eq]; omega)]
          exact .inr ⟨_, rfl, by dsimp only; rw [g4]⟩
    · rw [if_neg cj]
      rw [List.drop_of_length_le (by omega), fol] at g4
      exact .inr ⟨_, rfl, by dsimp only; rw [g4]⟩)
  rw [r1]
  simp only [Option.bind_some]
  exact r2
theorem rFollow_eq {t : TOpenTask} (ht : OTaskOk t) {p : List TChoice} (hp : PolOk t p) {outs : List Int} (hl : outs.length ≤ 60) : ref8_Follow t p outs = some (fol t p outs 0 [t.init] t.init) := by
  unfold ref8_Follow
  rw [if_neg (by omega)]
  rcases rngX_inv (body := ref8_Follow_l1 t p outs) (n := (outs.length : Int)) (s := [t.init]) (fun j c => ∃ s, ix c j = some s ∧ c.length = j.toNat + 1 ∧ fol t p outs 0 [t.init] t.init = fol t p (outs.drop j.toNat) j c s) (fun o => o = fol t p outs 0 [t.init] t.init) (by omega) ⟨t.init, rfl, by simp, by simp⟩ (fun j c j0 j1 ⟨s, k1, k2, k3⟩ => by
    obtain ⟨i, hi, _⟩ := ix_of (l := outs) j0 j1
    rw [drop_ix hi, fol] at k3
    unfold ref8_Follow_l1
    rw [k1]
    simp only [Option.bind_some, rChosen_chO]
    have key : (if chO p s < 0 then some true else Option.bind (ref8_Goal t s) fun a37 => some a37) = some (dec (chO p s < 0 ∨ ∀ x ∈ t.goal, x ∈ s)) := by
      unfold ref8_Goal
      rw [subset_eq, ← ifOr]
      simp only [Option.bind_some]
      by_cases h : chO p s < 0
      · rw [if_pos h, ifP h]
      · rw [if_neg h, ifN h]
    rw [key]
    simp only [Option.bind_some]
    obtain ⟨_, e2⟩ := chosen_chO hp s
    by_cases cs : chO p s < 0 ∨ ∀ x ∈ t.goal, x ∈ s
    · rw [ifP cs] at k3 ⊢
      exact .inr ⟨_, rfl, k3.symm⟩
    · rw [ifN cs] at k3 ⊢
      have e3 : 0 ≤ chO p s ∧ chO p s < t.operators.length := by
        rcases e2 with e | e
        · exact absurd (.inl (by omega)) cs
        · exact ⟨e.1, e.2.1⟩
      have hlen := (ht.at e3.1 e3.2).l1
      rw [ix_oo e3.1 e3.2, hi]
      simp only [Option.bind_some, in_eq, at_eq, dec_not]
      rw [w64_of (by omega) (by omega)]
      by_cases ci : 0 ≤ i ∧ i < (ooAt t (chO p s)).outcomes.length
      · rw [ifP ci] at k3
        rw [ifN (show ¬ ¬ (0 ≤ i ∧ i ≤ ((ooAt t (chO p s)).outcomes.length : Int) - 1) by omega), ix_x ci.1 ci.2]
        simp only [Option.bind_some, effect_eq ht]
        rw [app, if_pos (by simp; omega)]
        refine .inl ⟨_, rfl, efc t.facts s (xAt (ooAt t (chO p s)) i), ?_, by simp; omega, k3⟩
        rw [show j + 1 = ((c.length : Nat) : Int) by omega, ix_nat]
        simp
      · rw [ifN ci] at k3
        rw [ifP (show ¬ (0 ≤ i ∧ i ≤ ((ooAt t (chO p s)).outcomes.length : Int) - 1) by omega)]
        exact .inr ⟨_, rfl, k3.symm⟩) with ⟨c, r1, s, r2, r3, r4⟩ | ⟨o, r1, rfl⟩
  · rw [r1, r4, List.drop_of_length_le (by omega)]; rfl
  · rw [r1]; rfl
theorem oFollow_eq {t : TOpenTask} {p : List TChoice} {f : TFault} (hv : open_ValidatePolicy t p = some f) (outs : List Int) : open_Follow t p outs = if f.code ≠ 0 ∨ f.index ≠ 0 then some ([], f) else if 60 < (outs.length : Int) then some ([], ⟨2, -5⟩) else (Option.bind (slices_Clone_int_int t.init) fun a28 => Option.bind (slices_Clone_int_int a28) fun a30 => Option.bind (Loop (open_Follow_l1 t p outs) ([a30], a28, 0)) fun | .inl c9 => some (c9, (⟨0, 0⟩ : TFault)) | .inr x => some x) := by
  unfold open_Follow
  rw [hv]
  simp only [Option.bind_some]
  by_cases c : f.code ≠ 0 ∨ f.index ≠ 0
  · rw [if_pos c, if_pos]
    simp only [Bool.not_eq_true', Bool.and_eq_false_iff, decide_eq_false_iff_not]; exact c
  · rw [if_neg c, if_neg (show ¬ (!((decide (f.code = 0)) && (decide (f.index = 0)))) = true by
      simp only [Bool.not_eq_true', Bool.and_eq_false_iff, decide_eq_false_iff_not]; exact c)]
    rfl
/-- What Follow answers. -/
theorem follow_all (t : TOpenTask) (p : List TChoice) (outs : List Int) : ∃ f, open_ValidatePolicy t p = some f ∧ ref8_PolicyFault t p = some f ∧ ((f.code ≠ 0 ∧ open_Follow t p outs = some ([], f)) ∨ (f = ⟨0, 0⟩ ∧ OTaskOk t ∧ PolOk t p ∧ ((60 < outs.length ∧ open_Follow t p outs = some ([], ⟨2, -5⟩) ∧ ref8_Follow t p outs = some ([], ⟨2, -5⟩)) ∨ (outs.length ≤ 60 ∧ open_Follow t p outs = some (fol t p outs 0 [t.init] t.init) ∧ ref8_Follow t p outs = some (fol t p outs 0 [t.init] t.init))))) := by
  obtain ⟨f, h1, h2, h3⟩ := policy_eq t p
  refine ⟨f, h1, h2, ?_⟩
  rcases h3 with ⟨rfl, ht, hp⟩ | hc
  · refine .inr ⟨rfl, ht, hp, ?_⟩
    rw [oFollow_eq h1, if_neg (by simp)]
    by_cases c : 60 < outs.length
    · refine .inl ⟨c, by rw [if_pos (by omega)], ?_⟩
      unfold ref8_Follow
      rw [if_pos (by omega), at_eq]; rfl
    · have := ht.init.len
      have := ht.n1
      refine .inr ⟨by omega, ?_, rFollow_eq ht hp (by omega)⟩
      rw [if_neg (by omega), clone_eq (by omega)]
      simp only [Option.bind_some]
      rw [clone_eq (by omega)]
      simp only [Option.bind_some]
      exact follow_eq ht hp (by omega)
  · exact .inl ⟨hc, by rw [oFollow_eq h1, if_pos (.inl hc)]⟩
/-- Two states, one of which follows the other. -/
def Fol2 (t : TOpenTask) (p : List TChoice) (a b : List Int) : Prop := SetN a t.facts ∧ (0 ≤ chO p a ∧ chO p a < t.operators.length) ∧ oCan t a (chO p a) ∧ ∃ x ∈ (ooAt t (chO p a)).outcomes, efc t.facts a x = b
theorem fol_chain {t : TOpenTask} {p : List TChoice} (hp : PolOk t p) : ∀ {r : List Int} {j : Int} {c : List (List Int)} {s : List Int}, SetN s t.facts → ix c (c.length - 1) = some s → (∀ k a b, ix c k = some a → ix c (k + 1) = some b → Fol2 t p a b) → ∀ k a b, ix (fol t p r j c s).1 k = some a → ix (fol t p r j c s).1 (k + 1) = some b → Fol2 t p a b
  | [], j, c, s, _, _, h, k, a, b, ha, hb => h k a b ha hb
  | i :: r, j, c, s, hs, hc, h, k, a, b, ha, hb => by
    rw [fol] at ha hb
    by_cases c1 : chO p s < 0 ∨ ∀ x ∈ t.goal, x ∈ s
    · rw [ifP c1] at ha hb; exact h k a b ha hb
    · rw [ifN c1] at ha hb
      by_cases c2 : 0 ≤ i ∧ i < (ooAt t (chO p s)).outcomes.length
      · rw [ifP c2] at ha hb
        refine fol_chain hp (setN_efc _ _ _) ?_ (fun k a b ha hb => ?_) k a b ha hb
        · rw [List.length_append, show ((c.length + [efc t.facts s (xAt (ooAt t (chO p s)) i)].length : Nat) : Int) - 1 = (c.length : Nat) by simp, ix_nat]
          simp
        · have kk := (ix_lo hb).2.1
          have k0 := (ix_lo ha).1
          rw [List.length_append] at kk
          simp only [List.length_singleton] at kk
          have pre : ∀ m : Int, m < c.length → ix (c ++ [efc t.facts s (xAt (ooAt t (chO p s)) i)]) m = ix c m := fun m hm => by
            simp only [ix]
            split
            · rw [List.getElem?_append_left (by omega)]
            · rfl
          rw [pre k (by omega)] at ha
          by_cases c3 : k + 1 < c.length
          · rw [pre _ c3] at hb
            exact h k a b ha hb
          · have : k = (c.length : Int) - 1 := by omega
            subst this
            rw [hc] at ha
            cases ha
            rw [show (c.length : Int) - 1 + 1 = (c.length : Nat) by omega, ix_nat] at hb
            simp at hb
            subst hb
            obtain ⟨_, e2⟩ := chosen_chO hp s
            rcases e2 with e | e
            · exact absurd (.inl (by omega)) c1
            · exact ⟨hs, ⟨e.1, e.2.1⟩, e.2.2, _, ix_mem (ix_x c2.1 c2.2), rfl⟩
      · rw [ifN c2] at ha
        have := (ix_lo ha).2.1
        have := (ix_lo ha).1
        simp at *; omega
theorem fol_len {t : TOpenTask} {p : List TChoice} : ∀ {r : List Int} {j : Int} {c : List (List Int)} {s : List Int}, (fol t p r j c s).1.length ≤ c.length + r.length
  | [], j, c, s => by simp [fol]
  | i :: r, j, c, s => by
    rw [fol]
    split
    · simp
    · split
      · refine Nat.le_trans fol_len ?_
        simp; omega
      · simp
/-- Each state that a policy meets is an outcome of the chosen operator. -/
theorem OpenFollowsOutcomes_true (t : TOpenTask) (p : List TChoice) (outs : List Int) (i : Int) : law8_OpenFollowsOutcomes t p outs i = some true := by
  obtain ⟨f, h1, h2, h3⟩ := follow_all t p outs
  unfold law8_OpenFollowsOutcomes
  rcases h3 with ⟨hc, e1⟩ | ⟨rfl, ht, hp, ⟨c, e1, e2⟩ | ⟨c, e1, e2⟩⟩
  · rw [e1]
    simp [hc, tossed_eq]
  · rw [e1]
    simp [tossed_eq]
  · rw [e1]
    simp only [Option.bind_some, tossed_eq, in_eq, dec_not]
    have chain := fol_chain (t := t) (p := p) hp (r := outs) (j := 0) (c := [t.init]) (s := t.init) ht.init rfl (fun k a b ha hb => by
      have := (ix_lo ha).1; have := (ix_lo hb).2.1
      simp at this; omega)
    have flen := fol_len (t := t) (p := p) (r := outs) (j := 0) (c := [t.init]) (s := t.init)
    simp only [List.length_singleton] at flen
    generalize fol t p outs 0 [t.init] t.init = q at chain flen
    by_cases cq : q.2.code = 0
    · rw [if_neg (by simpa using cq)]
      simp only [Option.bind_some]
      by_cases ci : 0 ≤ i ∧ i ≤ (q.1.length : Int) - 2
      · rw [ifNN ci]
        obtain ⟨a, ha, _⟩ := ix_of (l := q.1) (i := i) ci.1 (by omega)
        obtain ⟨b, hb, _⟩ := ix_of (l := q.1) (i := i + 1) (by omega) (by omega)
        obtain ⟨k1, k2, k3, x, k4, k5⟩ := chain i a b ha hb
        obtain ⟨st, w, r1, r2, r3, r4, r5, r6⟩ := oResults_eq ht k2.1 k2.2 k1
        rw [ha]
        simp only [Option.bind_some, rChosen_chO]
        rw [outcomes_ok ht, ifP k1, ifP k2, ifP k3, r1]
        simp only [Option.bind_some, if_true]
        rw [w64_of (by omega) (by omega), hb]
        simp only [Option.bind_some]
        obtain ⟨z, z1, z2⟩ := place_eq st b
        rw [z1]
        rcases z2 with ⟨_, hz⟩ | ⟨hz, _⟩
        · exact absurd ((r3 b).2 ⟨x, k4, k5⟩) hz
        · simp [hz]
      · rw [ifP ci]
    · rw [if_pos (by simpa using cq)]
      simp
end Ab
end
