/-
  Texts that the proof stands on.
-/
import Derived.Test.YtkfjghcojgmemaaDoorKRwOpenSpec5
set_option linter.all false
section
namespace Ab
open Go
theorem ix_map {α β : Type} {f : α → β} {l : List α} {i : Int} : ix (l.map f) i = (ix l i).map f := by
  simp only [ix]
  split
  · rw [List.getElem?_map]
  · rfl
theorem Ord.one {l m : List (List Int)} (hl : Ord l) (hm : Ord m) {p : List Int → Prop} (h1 : ∀ y, y ∈ l ↔ p y) (h2 : ∀ y, y ∈ m ↔ p y) : l = m := Ord.ext hl hm fun y => (h1 y).trans (h2 y).symm
theorem cloneLL_eq {s : List (List Int)} (h : s.length ≤ 1000000) : slices_Clone_Lint_int s = some s := by
  rw [slices_Clone_Lint_int, app, if_pos (by simp; omega)]; rfl
theorem results1 {t : TOpenTask} {o : TOpenOperator} (ho : OOk o t.facts) (hn : t.facts ≤ 24) {s : List Int} (hs : SetN s t.facts) : forR 0 (o.outcomes.length : Int) (open_Results_l1 s o) [] = some (o.outcomes.map (efc t.facts s)) := by
  have hl := ho.l1
  obtain ⟨c, h1, h2⟩ := forR_inv (body := open_Results_l1 s o) (n := (o.outcomes.length : Int)) (s := []) (fun j c => c = (o.outcomes.take j.toNat).map (efc t.facts s)) (by omega) (by simp) (fun j c j0 j1 hP => by
    obtain ⟨x, hx, gx⟩ := ix_of (l := o.outcomes) j0 j1
    unfold open_Results_l1
    rw [hx]
    simp only [Option.bind_some]
    rw [oUpdate_eq hn hs (ho.xs x (ix_mem hx)).1]
    simp only [Option.bind_some]
    have hlen : c.length ≤ 4 := by rw [hP, List.length_map, List.length_take]; omega
    rw [app, if_pos (by simp; omega)]
    refine ⟨_, rfl, ?_⟩
    rw [show (j + 1).toNat = j.toNat + 1 by omega, List.take_add_one, gx, hP, List.map_append]; rfl)
  rw [h1, h2]
  simp
theorem oResults_eq {t : TOpenTask} (ht : OTaskOk t) {op : Int} (h0 : 0 ≤ op) (h1 : op < t.operators.length) {s : List Int} (hs : SetN s t.facts) : ∃ st w, open_Results t s op = some (st, w) ∧ Ord st ∧ (∀ y, y ∈ st ↔ ∃ x ∈ (ooAt t op).outcomes, efc t.facts s x = y) ∧ st.length ≤ 4 ∧ w.length = st.length ∧ forR 0 ((ooAt t op).outcomes.length : Int) (open_Results_l2 ((ooAt t op).outcomes.map (efc t.facts s)) st (ooAt t op)) (List.replicate st.length 0) = some w := by
  have ho := ht.at h0 h1
  have hl := ho.l1
  unfold open_Results
  rw [ix_oo h0 h1]
  simp only [Option.bind_some]
  rw [results1 ho ht.n1 hs]
  simp only [Option.bind_some]
  rw [cloneLL_eq (by simp; omega)]
  simp only [Option.bind_some]
  obtain ⟨st, n1, n2, n3, n4⟩ := normal_eq (l := (ooAt t op).outcomes.map (efc t.facts s)) (by simp; omega)
  have n4' : st.length ≤ 4 := by rw [List.length_map] at n4; omega
  have hm : mkL 8 (st.length : Int) (0 : Int) = some (List.replicate st.length 0) := by
    rw [mkL, if_pos (by omega)]; simp
  obtain ⟨w, w1, w2⟩ := forR_inv (body := open_Results_l2 ((ooAt t op).outcomes.map (efc t.facts s)) st (ooAt t op)) (n := ((ooAt t op).outcomes.length : Int)) (s := List.replicate st.length 0) (fun j c => c.length = st.length) (by omega) (by simp) (fun j c j0 j1 hP => by
    obtain ⟨x, hx, gx⟩ := ix_of (l := (ooAt t op).outcomes) j0 j1
    have hmem : efc t.facts s x ∈ st := (n3 _).2 (List.mem_map.2 ⟨x, ix_mem hx, rfl⟩)
    obtain ⟨i, e1, e2, e3⟩ := bsets_eq (t := efc t.facts s x) n2 (by omega)
    obtain ⟨k, k0, k1, hk⟩ := mem_ix hmem
    have := e3 k hk
    subst this
    obtain ⟨z, hz, gz⟩ := ix_of (l := c) (i := k) k0 (by omega)
    unfold open_Results_l2
    rw [hx, ix_map, hx]
    simp only [Option.bind_some, Option.map_some, e1, hz]
    exact ⟨_, rfl, by rw [List.length_set]; exact hP⟩)
  rw [n1]
  simp only [Option.bind_some, hm, w1]
  exact ⟨st, w, rfl, n2, fun y => by rw [n3, List.mem_map], n4', w2, w1⟩
theorem outcomes_ok {t : TOpenTask} (ht : OTaskOk t) (s : List Int) (op : Int) : open_Outcomes t s op = if dec (SetN s t.facts) = true then if dec (0 ≤ op ∧ op < t.operators.length) = true then if dec (oCan t s op) = true then (open_Results t s op).bind fun r => some (r.1, r.2, ⟨0, 0⟩) else some ([], [], ⟨11, op⟩) else some ([], [], ⟨3, -6⟩) else some ([], [], ⟨5, -4⟩) := by
  obtain ⟨f, h1, _, h3⟩ := oValidate_eq t
  rcases h3 with ⟨rfl, _⟩ | ⟨_, hn⟩
  · unfold open_Outcomes
    rw [h1]
    simp only [Option.bind_some, isSet_eq, dec_not]
    rw [if_neg (by simp)]
    by_cases c1 : SetN s t.facts
    · rw [ifNN c1, ifP c1]
      by_cases c2 : 0 ≤ op ∧ op < t.operators.length
      · rw [if_neg (show ¬ ((decide (op < 0)) || (decide ((t.operators.length : Int) ≤ op))) = true by rw [Bool.or_eq_true, decide_eq_true_eq, decide_eq_true_eq]; omega), ifP c2, oCan_eq ht c2.1 c2.2 c1]
        simp only [Option.bind_some, dec_not]
        by_cases c3 : oCan t s op
        · rw [ifNN c3, ifP c3]
        · rw [ifP c3, ifN c3]
      · rw [if_pos (show ((decide (op < 0)) || (decide ((t.operators.length : Int) ≤ op))) = true by rw [Bool.or_eq_true, decide_eq_true_eq, decide_eq_true_eq]; omega), ifN c2]
    · rw [ifP c1, ifN c1]
  · exact absurd ht hn
theorem outcomes_bad {t : TOpenTask} {f : TFault} (hv : open_Validate t = some f) (hc : f.code ≠ 0) (s : List Int) (op : Int) : open_Outcomes t s op = some ([], [], f) := by
  unfold open_Outcomes
  rw [hv]
  simp only [Option.bind_some]
  rw [if_pos (fault_no hc)]
/-- Outcomes answer, and where they answer without a fault, everything is in order. -/
theorem outcomes_eq (t : TOpenTask) (s : List Int) (op : Int) : ∃ st w f, open_Outcomes t s op = some (st, w, f) ∧ ((f = ⟨0, 0⟩ ∧ OTaskOk t ∧ SetN s t.facts ∧ (0 ≤ op ∧ op < t.operators.length) ∧ oCan t s op ∧ open_Results t s op = some (st, w)) ∨ (f.code ≠ 0 ∧ st = [] ∧ w = [])) := by
  obtain ⟨f, h1, _, h3⟩ := oValidate_eq t
  rcases h3 with ⟨rfl, ht⟩ | ⟨hc, hn⟩
  · rw [outcomes_ok ht]
    by_cases c1 : SetN s t.facts
    · rw [ifP c1]
      by_cases c2 : 0 ≤ op ∧ op < t.operators.length
      · rw [ifP c2]
        by_cases c3 : oCan t s op
        · rw [ifP c3]
          obtain ⟨st, w, r1, _⟩ := oResults_eq ht c2.1 c2.2 c1
          rw [r1]
          exact ⟨st, w, _, rfl, .inl ⟨rfl, ht, c1, c2, c3, rfl⟩⟩
        · rw [ifN c3]
          exact ⟨_, _, _, rfl, .inr ⟨by simp, rfl, rfl⟩⟩
      · rw [ifN c2]
        exact ⟨_, _, _, rfl, .inr ⟨by simp, rfl, rfl⟩⟩
    · rw [ifN c1]
      exact ⟨_, _, _, rfl, .inr ⟨by simp, rfl, rfl⟩⟩
  · rw [outcomes_bad h1 hc]
    exact ⟨_, _, _, rfl, .inr ⟨hc, rfl, rfl⟩⟩
/-! ### The coin -/
def coinX : TOutcome := ⟨[0], [], 1⟩
def coinY : TOutcome := ⟨[], [], 2⟩
def coinO : TOpenOperator := ⟨[], [coinX, coinY], 1⟩
def coinT : TOpenTask := ⟨1, [], [0], [coinO]⟩
theorem coin_ok : OTaskOk coinT where
  n0 := by decide
  n1 := by decide
  init := setN_nil _
  goal := setN1 0 (by decide) (by decide)
  ops := by decide
  op o ho := by
    simp only [coinT, List.mem_singleton] at ho
    subst ho
    refine ⟨setN_nil _, by decide, by decide, by decide, by decide, fun x hx => ?_⟩
    simp only [coinO, List.mem_cons, List.not_mem_nil, or_false] at hx
    rcases hx with rfl | rfl
    · exact ⟨⟨setN1 0 (by decide) (by decide), setN_nil _, by simp [coinX]⟩, by decide, by decide⟩
    · exact ⟨⟨setN_nil _, setN_nil _, by simp [coinY]⟩, by decide, by decide⟩
theorem coin_X : efc 1 [] coinX = [0] := by
  refine ((setN1 0 (by decide) (by decide) : SetN [0] 1).eq_of (p := fun p => p ∈ coinX.add ∨ p ∈ [] ∧ p ∉ coinX.del) fun x h0 h1 => ?_).symm
  simp [coinX]
theorem coin_Y : efc 1 [] coinY = [] := by
  refine ((setN_nil 1).eq_of (p := fun p => p ∈ coinY.add ∨ p ∈ [] ∧ p ∉ coinY.del) fun x h0 h1 => ?_).symm
  simp [coinY]
theorem tossed_eq : law8_tossed = some true := by
  have hat : ooAt coinT 0 = coinO := rfl
  obtain ⟨st, w, r1, r2, r3, r4, r5, r6⟩ := oResults_eq coin_ok (op := 0) (by decide) (by decide) (s := []) (setN_nil _)
  rw [hat] at r3 r6
  have hst : st = [[], [0]] := by
    refine Ord.ext r2 (by simp [llt]) fun y => ?_
    rw [r3]
    simp only [coinO, List.mem_cons, List.not_mem_nil, or_false, show coinT.facts = 1 from rfl]
    constructor
    · rintro ⟨x, rfl | rfl, rfl⟩
      · exact .inr coin_X
      · exact .inl coin_Y
    · rintro (rfl | rfl)
      · exact ⟨coinY, .inr rfl, coin_Y⟩
      · exact ⟨coinX, .inl rfl, coin_X⟩
  subst hst
  have hw : w = [2, 1] := by
    obtain ⟨i, e1, e2, e3⟩ := bsets_eq (xs := [[], [0]]) (t := [0]) (by simp [llt]) (by decide)
    have := e3 1 rfl
    subst this
    obtain ⟨i, f1, f2, f3⟩ := bsets_eq (xs := [[], [0]]) (t := []) (by simp [llt]) (by decide)
    have := f3 0 rfl
    subst this
    have hr : (coinO.outcomes.map (efc coinT.facts [])) = [[0], []] := by
      simp only [coinO, List.map_cons, List.map_nil, show coinT.facts = 1 from rfl, coin_X, coin_Y]
    rw [hr] at r6
    have b0 : open_Results_l2 [[0], []] [[], [0]] coinO 0 [0, 0] = some [0, 1] := by
      unfold open_Results_l2
      simp only [show ix coinO.outcomes 0 = some coinX from rfl, show ix [[(0 : Int)], []] 0 = some [0] from rfl, Option.bind_some, e1]
      rfl
    have b1 : open_Results_l2 [[0], []] [[], [0]] coinO 1 [0, 1] = some [2, 1] := by
      unfold open_Results_l2
      simp only [show ix coinO.outcomes 1 = some coinY from rfl, show ix [[(0 : Int)], []] 1 = some [] from rfl, Option.bind_some, f1]
      rfl
    have hl : ((coinO.outcomes.length : Int) - 0).toNat = 2 := rfl
    have hrep : List.replicate ([[], [(0 : Int)]] : List (List Int)).length (0 : Int) = [0, 0] := rfl
    rw [hrep] at r6
    unfold forR at r6
    rw [hl] at r6
    simp only [forN, b0, Option.bind_some, show (0 : Int) + 1 = 1 from rfl, b1] at r6
    exact (Option.some.inj r6).symm
  subst hw
  unfold law8_tossed
  rw [show law8_coin = some coinT from rfl]
  simp only [Option.bind_some]
  rw [outcomes_ok coin_ok, ifP (setN_nil _), ifP ⟨by decide, by decide⟩, ifP (by intro x hx; cases hx), r1]
  simp only [Option.bind_some, if_true, sets_eq, numbers_eq, dec_true]
  rw [dec_of trivial]
end Ab
end
section
namespace Ab
open Go
end Ab
end
section
namespace Ab
open Go
/-- An operator for one outcome. -/
def dzO (o : TOpenOperator) (x : TOutcome) : TOperator := ⟨o.pre, x.add, x.del, o.cost⟩
structure Dz (t : TOpenTask) (a k : Int) (c : List (Int × Int)) (d : List TOperator) : Prop where
  len : c.length = d.length
  most : (c.length : Int) ≤ 4 * a + k
  each : ∀ i p, ix c i = some p → (0 ≤ p.1 ∧ p.1 < t.operators.length) ∧ ∃ x ∈ (ooAt t p.1).outcomes, ix d i = some (dzO (ooAt t p.1) x)
  all : ∀ (b m : Int) (x : TOutcome), 0 ≤ b → b < t.operators.length → ix (ooAt t b).outcomes m = some x → (b < a ∨ b = a ∧ m < k) → ∃ i, ix c i = some (b, m) ∧ ix d i = some (dzO (ooAt t b) x)
theorem dz2 {t : TOpenTask} (ht : OTaskOk t) {a : Int} (h0 : 0 ≤ a) (h1 : a < t.operators.length) {k : Int} {x : TOutcome} (hx : ix (ooAt t a).outcomes k = some x) (c : List (Int × Int)) (d : List TOperator) : open_Determinize_l2 a (ooAt t a) k (c, d) = Option.bind (app 80 d [dzO (ooAt t a) x]) fun a59 => Option.bind (app 16 c [(a, k)]) fun a66 => some (a66, a59) := by
  have ho := ht.at h0 h1
  have hn := ht.n1
  have := ho.pre.len; have := (ho.xs x (ix_mem hx)).1.1.len; have := (ho.xs x (ix_mem hx)).1.2.1.len
  unfold open_Determinize_l2
  dsimp only
  rw [hx]
  simp only [Option.bind_some]
  rw [clone_eq (by omega), clone_eq (by omega), clone_eq (by omega)]
  rfl
theorem dz_put {t : TOpenTask} {a k : Int} {x : TOutcome} (h0 : 0 ≤ a) (h1 : a < t.operators.length) (hx : ix (ooAt t a).outcomes k = some x) {c : List (Int × Int)} {d : List TOperator} (h : Dz t a k c d) : Dz t a (k + 1) (c ++ [(a, k)]) (d ++ [dzO (ooAt t a) x]) := by
  have old : ∀ {α : Type} {l : List α} {y z : α} {i : Int}, ix l i = some y → ix (l ++ [z]) i = some y := fun {α l y z i} hi => by
    obtain ⟨i0, i1, g⟩ := ix_lo hi
    rw [ix, if_pos i0, List.getElem?_append_left (by omega), g]
  have new : ∀ {α : Type} {l : List α} {z : α}, ix (l ++ [z]) (l.length : Int) = some z := fun {α l z} => by rw [ix_nat]; simp
  refine ⟨by simp [h.len], by have := h.most; simp; omega, fun i p hi => ?_, fun b m y b0 b1 hy hlt => ?_⟩
  · have ilo := (ix_lo hi)
    by_cases e : i < c.length
    · have : ix c i = some p := by
        obtain ⟨i0, i1, g⟩ := ilo
        rw [List.getElem?_append_left (by omega)] at g
        rw [ix, if_pos i0, g]
      obtain ⟨g1, y, g2, g3⟩ := h.each i p this
      exact ⟨g1, y, g2, old g3⟩
    · have : i = (c.length : Int) := by have := ilo.2.1; simp at this; omega
      subst this
      rw [new] at hi
      cases hi
      exact ⟨⟨h0, h1⟩, x, ix_mem hx, by rw [h.len]; exact new⟩
  · by_cases e : b = a ∧ m = k
    · obtain ⟨rfl, rfl⟩ := e
      rw [hx] at hy; cases hy
      exact ⟨(c.length : Int), new, by rw [h.len]; exact new⟩
    · obtain ⟨i, g1, g2⟩ := h.all b m y b0 b1 hy (by omega)
      exact ⟨i, old g1, old g2⟩
theorem dz_all {t : TOpenTask} (ht : OTaskOk t) : ∃ c d, forR 0 (t.operators.length : Int) (open_Determinize_l1 t) ([], []) = some (c, d) ∧ Dz t t.operators.length 0 c d := by
  have hops := ht.ops
  obtain ⟨⟨c, d⟩, r1, r2⟩ := forR_inv (body := open_Determinize_l1 t) (n := (t.operators.length : Int)) (s := ([], [])) (fun a q => Dz t a 0 q.1 q.2) (by omega) ⟨rfl, by simp, fun i p hi => by simp [ix] at hi, fun b m x b0 _ hx hlt => by have := (ix_lo hx).1; omega⟩ (fun a ⟨c, d⟩ h0 h1 hP => by
    dsimp only at hP
    have ho := ht.at h0 h1
    have hl := ho.l1
    unfold open_Determinize_l1
    dsimp only
    rw [ix_oo h0 h1]
    simp only [Option.bind_some]
    obtain ⟨⟨c', d'⟩, q1, q2⟩ := forR_inv (body := open_Determinize_l2 a (ooAt t a)) (n := ((ooAt t a).outcomes.length : Int)) (s := (c, d)) (fun k q => Dz t a k q.1 q.2) (by omega) hP (fun k ⟨c, d⟩ k0 k1 hP => by
      dsimp only at hP
      obtain ⟨x, hx, _⟩ := ix_of (l := (ooAt t a).outcomes) k0 k1
      rw [dz2 ht h0 h1 hx]
      have := hP.most; have := hP.len
      rw [app, if_pos (by simp; omega)]
      simp only [Option.bind_some]
      rw [app, if_pos (by simp; omega)]
      exact ⟨_, rfl, dz_put h0 h1 hx hP⟩)
    rw [q1]
    refine ⟨_, rfl, ?_⟩
    dsimp only at q2 ⊢
    refine ⟨q2.len, by have := q2.most; omega, q2.each, fun b m x b0 b1 hx hlt => q2.all b m x b0 b1 hx ?_⟩
    by_cases e : b = a
    · subst e; exact .inr ⟨rfl, (ix_lo hx).2.1⟩
    · have := (ix_lo hx).1
      exact .inl (by omega))
  exact ⟨c, d, r1, r2⟩
/-- What Determinize answers. -/
theorem determinize_ok {t : TOpenTask} (ht : OTaskOk t) : ∃ c d, forR 0 (t.operators.length : Int) (open_Determinize_l1 t) ([], []) = some (c, d) ∧ Dz t t.operators.length 0 c d ∧ open_Determinize t = if 40 < (c.length : Int) then some (⟨0, [], [], []⟩, [], ⟨10, -1⟩) else some (⟨t.facts, t.init, t.goal, d⟩, c, ⟨0, 0⟩) := by
  obtain ⟨f, h1, _, h3⟩ := oValidate_eq t
  rcases h3 with ⟨rfl, _⟩ | ⟨_, hn⟩
  · obtain ⟨c, d, r1, r2⟩ := dz_all ht
    refine ⟨c, d, r1, r2, ?_⟩
    have := ht.init.len; have := ht.goal.len; have := ht.n1
    unfold open_Determinize
    rw [h1]
    simp only [Option.bind_some]
    rw [if_neg (by simp), clone_eq (by omega), clone_eq (by omega), r1]
    rfl
  · exact absurd ht hn
theorem determinize_bad {t : TOpenTask} {f : TFault} (hv : open_Validate t = some f) (hc : f.code ≠ 0) : open_Determinize t = some (⟨0, [], [], []⟩, [], f) := by
  unfold open_Determinize
  rw [hv]
  simp only [Option.bind_some]
  rw [if_pos (fault_no hc)]
end Ab
end
section
namespace Ab
open Go
/-- A number under 100 in decimal digits. -/
def dg (x : Int) : List Int := if x < 10 then [48 + x] else [48 + x / 10, 48 + x % 10]
def encS (s : List Int) : List Int := s.flatMap (fun x => dg x ++ [44]) ++ [59]
def encK (l : List (List Int)) : List Int := l.flatMap encS
def small (s : List Int) : Prop := ∀ x ∈ s, 0 ≤ x ∧ x < 100
theorem dg_split {x y : Int} (hx : 0 ≤ x ∧ x < 100) (hy : 0 ≤ y ∧ y < 100) {r r' : List Int} (h : dg x ++ 44 :: r = dg y ++ 44 :: r') : x = y ∧ r = r' := by
  unfold dg at h
  split at h <;> split at h <;> simp only [List.cons_append, List.nil_append, List.cons.injEq] at h
  · exact ⟨by omega, h.2.2⟩
  · exfalso; omega
  · exfalso; omega
  · exact ⟨by omega, h.2.2.2⟩
theorem dg_head {x : Int} (hx : 0 ≤ x ∧ x < 100) : ∃ a l, dg x = a :: l ∧ 48 ≤ a ∧ a < 58 := by
  unfold dg
  split
  · exact ⟨_, _, rfl, by omega, by omega⟩
  · exact ⟨_, _, rfl, by omega, by omega⟩
theorem encS_cons (x : Int) (s : List Int) : encS (x :: s) = dg x ++ 44 :: encS s := by simp [encS]
theorem encS_inj : ∀ {s s' r r' : List Int}, small s → small s' → encS s ++ r = encS s' ++ r' → s = s' ∧ r = r'
  | [], [], r, r', _, _, h => by simp [encS] at h; exact ⟨rfl, h⟩
  | [], y :: s', r, r', _, h2, h => by
    obtain ⟨a, l, ha, h3, h4⟩ := dg_head (h2 y (by simp))
    rw [encS_cons, ha] at h
    simp only [encS, List.flatMap_nil, List.nil_append, List.cons_append, List.cons.injEq] at h
    omega
  | x :: s, [], r, r', h1, _, h => by
    obtain ⟨a, l, ha, h3, h4⟩ := dg_head (h1 x (by simp))
    rw [encS_cons, ha] at h
    simp only [encS, List.flatMap_nil, List.nil_append, List.cons_append, List.cons.injEq] at h
    omega
  | x :: s, y :: s', r, r', h1, h2, h => by
    rw [encS_cons, encS_cons, List.append_assoc, List.append_assoc, List.cons_append, List.cons_append] at h
    obtain ⟨rfl, g⟩ := dg_split (h1 x (by simp)) (h2 y (by simp)) h
    obtain ⟨e1, e2⟩ := encS_inj (s := s) (s' := s') (fun z hz => h1 z (List.mem_cons_of_mem _ hz)) (fun z hz => h2 z (List.mem_cons_of_mem _ hz)) g
    exact ⟨by rw [e1], e2⟩
theorem encK_inj : ∀ {l l' : List (List Int)}, (∀ s ∈ l, small s) → (∀ s ∈ l', small s) → encK l = encK l' → l = l'
  | [], [], _, _, _ => rfl
  | [], s :: l', _, _, h => by
    have h := congrArg List.length h
    simp only [encK, encS, List.flatMap_nil, List.flatMap_cons, List.length_append, List.length_nil, List.length_cons] at h
    omega
  | s :: l, [], _, _, h => by
    have h := congrArg List.length h
    simp only [encK, encS, List.flatMap_nil, List.flatMap_cons, List.length_append, List.length_nil, List.length_cons] at h
    omega
  | s :: l, s' :: l', h1, h2, h => by
    have h : encS s ++ encK l = encS s' ++ encK l' := h
    obtain ⟨e1, e2⟩ := encS_inj (h1 s (List.mem_cons_self ..)) (h2 s' (List.mem_cons_self ..)) h
    have e3 := encK_inj (l := l) (l' := l') (fun z hz => h1 z (List.mem_cons_of_mem _ hz)) (fun z hz => h2 z (List.mem_cons_of_mem _ hz)) e2
    rw [e1, e3]
theorem dg_byte {x : Int} (hx : 0 ≤ x ∧ x < 100) : ∀ a ∈ dg x, 0 ≤ a ∧ a < 256 := by
  intro a ha
  unfold dg at ha
  split at ha <;> simp at ha <;> omega
theorem encS_byte {s : List Int} (h : small s) : ∀ a ∈ encS s, 0 ≤ a ∧ a < 256 := by
  intro a ha
  simp only [encS, List.mem_append, List.mem_flatMap, List.mem_singleton] at ha
  rcases ha with ⟨x, hx, h1 | h1⟩ | h1
  · exact dg_byte (h x hx) a h1
  · omega
  · omega
theorem encK_byte {l : List (List Int)} (h : ∀ s ∈ l, small s) : ∀ a ∈ encK l, 0 ≤ a ∧ a < 256 := by
  intro a ha
  simp only [encK, List.mem_flatMap] at ha
  obtain ⟨s, hs, h1⟩ := ha
  exact encS_byte (h s hs) a h1
theorem strB_inj {l l' : List Int} (h1 : ∀ a ∈ l, 0 ≤ a ∧ a < 256) (h2 : ∀ a ∈ l', 0 ≤ a ∧ a < 256) (h : strB l = strB l') : l = l' := by
  have h3 : l.map (fun n => UInt8.ofNat n.toNat) = l'.map (fun n => UInt8.ofNat n.toNat) := by
    have := congrArg ByteArray.data h
    simpa [strB] using this
  have back : ∀ {m : List Int}, (∀ a ∈ m, 0 ≤ a ∧ a < 256) → (m.map (fun n => UInt8.ofNat n.toNat)).map (fun b => (b.toNat : Int)) = m := by
    intro m hm
    rw [List.map_map]
    conv => rhs; rw [← List.map_id m]
    apply List.map_congr_left
    intro a ha
    have := hm a ha
    simp only [Function.comp_apply, id_eq, UInt8.toNat_ofNat']
    omega
  rw [← back h1, ← back h2, h3]
/-- The key of a list of sets. -/
def keyK (l : List (List Int)) : ByteArray := strB (encK l)
theorem keyK_inj {l l' : List (List Int)} (h1 : ∀ s ∈ l, small s) (h2 : ∀ s ∈ l', small s) (h : keyK l = keyK l') : l = l' := encK_inj h1 h2 (strB_inj (encK_byte h1) (encK_byte h2) h)
/-! ### Maps -/
theorem mget_mset {K V : Type} [DecidableEq K] (k k' : K) (v : V) : ∀ m : List (K × V), mget (mset m k v) k' = if k' = k then some v else mget m k'
  | [] => by
    simp only [mset, mget]
  | p :: r => by
    simp only [mset]
    by_cases h : k = p.1
    · rw [if_pos h]
      simp only [mget]
      by_cases h2 : k' = k
      · rw [if_pos h2, if_pos h2]
      · rw [if_neg h2, if_neg h2, if_neg (by rw [← h]; exact h2)]
    · rw [if_neg h]
      simp only [mget]
      rw [mget_mset k k' v r]
      by_cases h2 : k' = p.1
      · rw [if_pos h2, if_pos h2, if_neg (fun e => h (e.symm.trans h2))]
      · rw [if_neg h2, if_neg h2]
end Ab
end
section
namespace Ab
open Go
/-- A list made by appending a piece for each element. -/
theorem forR_flatMap {α β : Type} {l : List α} {body : Int → List β → Option (List β)} (g : α → List β) (N : Nat) (c0 : List β)
    (hb : ∀ j a c, ix l j = some a → c.length + (g a).length ≤ N → body j c = some (c ++ g a)) (hN : c0.length + (l.flatMap g).length ≤ N) :
    forR 0 (l.length : Int) body c0 = some (c0 ++ l.flatMap g) := by
  obtain ⟨s', h1, h2⟩ := forR_inv (body := body) (n := (l.length : Int)) (s := c0) (fun j c => c = c0 ++ (l.take j.toNat).flatMap g) (by omega) (by simp) (fun j c h0 h1 hP => by
    obtain ⟨a, g1, g2⟩ := ix_of h0 h1
    have e : (j + 1).toNat = j.toNat + 1 := by omega
    have ht : l.take (j + 1).toNat = l.take j.toNat ++ [a] := by rw [e, List.take_add_one, g2]; rfl
    refine ⟨c ++ g a, hb j a c g1 ?_, ?_⟩
    · have hs : l = l.take j.toNat ++ [a] ++ l.drop (j + 1).toNat := by rw [← ht, List.take_append_drop]
      have hl : (l.flatMap g).length = ((l.take j.toNat).flatMap g).length + (g a).length + ((l.drop (j + 1).toNat).flatMap g).length := by
        conv => lhs; rw [hs]
        simp [List.flatMap_append]; omega
      rw [hP, List.length_append]; omega
    · rw [ht, List.flatMap_append, hP]; simp)
  rw [h1, h2]
  simp
theorem small_eq : ∀ n : Fin 100, (internal_strconv_small (n : Nat)).map strL = some (dg (n : Nat)) := by decide +kernel
theorem appendInt_eq {x : Int} (hx : 0 ≤ x ∧ x < 100) {l : List Int} (hl : l.length ≤ 1000000) : strconv_AppendInt_w1 x 10 l = some (l ++ dg x) := by
  have h := small_eq ⟨x.toNat, by omega⟩
  rw [show (((⟨x.toNat, by omega⟩ : Fin 100) : Nat) : Int) = x by simp; omega] at h
  obtain ⟨b, h1, h2⟩ := Option.map_eq_some_iff.1 h
  unfold strconv_AppendInt_w1 internal_strconv_AppendInt_w2 internal_strconv_AppendUint_w3
  rw [if_neg (by omega), IntKind.wrap_u64, Int.emod_eq_of_lt (by omega) (by omega)]
  simp only [Option.bind_some, if_true]
  rw [if_pos hx.2, w64_of (by omega) (by omega), h1]
  simp only [Option.bind_some, h2]
  have : (dg x).length ≤ 2 := by unfold dg; split <;> simp
  rw [app, if_pos (by omega)]
  rfl
theorem dg_len (x : Int) : (dg x).length ≤ 2 := by unfold dg; split <;> simp
theorem key_eq {l : List (List Int)} (hs : ∀ s ∈ l, small s) (hN : (encK l).length ≤ 900000) : belief_Key l = some (keyK l) := by
  unfold belief_Key
  rw [forR_flatMap encS 900000 [] (fun j s c hj hc => by
    unfold belief_Key_l1
    rw [hj]
    simp only [Option.bind_some]
    have hlen : (encS s).length = (s.flatMap fun x => dg x ++ [44]).length + 1 := by simp [encS]
    rw [forR_flatMap (fun x => dg x ++ [44]) 900000 c (fun i x c' hi hc' => by
      unfold belief_Key_l2
      rw [hi]
      simp only [List.length_append, List.length_singleton] at hc'
      simp only [Option.bind_some, appendInt_eq (hs s (ix_mem hj) x (ix_mem hi)) (l := c') (by omega)]
      rw [app, if_pos (by simp; omega)]
      simp) (by omega)]
    simp only [Option.bind_some]
    rw [app, if_pos (by rw [List.length_append]; simp only [List.length_singleton]; omega)]
    simp [encS]) (by simpa [encK] using hN)]
  rfl
theorem encS_len : ∀ s : List Int, (encS s).length ≤ 3 * s.length + 1
  | [] => by simp [encS]
  | x :: s => by
    have := encS_len s
    have := dg_len x
    rw [encS_cons]
    simp only [List.length_append, List.length_cons]
    omega
end Ab
end
section
namespace Ab
open Go
/-! ### Loops side by side -/
theorem rngN_sim {S1 S2 O1 O2 : Type} {b1 : Int → S1 → Option (S1 ⊕ O1)} {b2 : Int → S2 → Option (S2 ⊕ O2)} (R : Int → S1 → S2 → Prop) (Q : O1 → O2 → Prop) : ∀ (k : Nat) (i : Int) (s1 : S1) (s2 : S2), R i s1 s2 →
    (∀ j s1 s2, i ≤ j → j < i + k → R j s1 s2 → (∃ t1 t2, b1 j s1 = some (.inl t1) ∧ b2 j s2 = some (.inl t2) ∧ R (j + 1) t1 t2) ∨ ∃ o1 o2, b1 j s1 = some (.inr o1) ∧ b2 j s2 = some (.inr o2) ∧ Q o1 o2) →
    (∃ t1 t2, rngN b1 k i s1 = some (.inl t1) ∧ rngN b2 k i s2 = some (.inl t2) ∧ R (i + k) t1 t2) ∨ ∃ o1 o2, rngN b1 k i s1 = some (.inr o1) ∧ rngN b2 k i s2 = some (.inr o2) ∧ Q o1 o2
  | 0, i, s1, s2, h, _ => .inl ⟨s1, s2, rfl, rfl, by simpa using h⟩
  | k + 1, i, s1, s2, h, hb => by
    rcases hb i s1 s2 (Int.le_refl _) (by omega) h with ⟨t1, t2, h1, h2, h3⟩ | ⟨o1, o2, h1, h2, h3⟩
    · rcases rngN_sim R Q k (i + 1) t1 t2 h3 (fun j s1 s2 g1 g2 => hb j s1 s2 (by omega) (by omega)) with ⟨u1, u2, g1, g2, g3⟩ | ⟨o1, o2, g1, g2, g3⟩
      · exact .inl ⟨u1, u2, by simp only [rngN, h1]; exact g1, by simp only [rngN, h2]; exact g2, by rw [show i + ((k + 1 : Nat) : Int) = i + 1 + k by omega]; exact g3⟩
      · exact .inr ⟨o1, o2, by simp only [rngN, h1]; exact g1, by simp only [rngN, h2]; exact g2, g3⟩
    · exact .inr ⟨o1, o2, by simp only [rngN, h1], by simp only [rngN, h2], h3⟩
theorem rngX_sim {S1 S2 O1 O2 : Type} {b1 : Int → S1 → Option (S1 ⊕ O1)} {b2 : Int → S2 → Option (S2 ⊕ O2)} {n : Int} (R : Int → S1 → S2 → Prop) (Q : O1 → O2 → Prop) {s1 : S1} {s2 : S2} (hn : 0 ≤ n) (h0 : R 0 s1 s2)
    (hb : ∀ j s1 s2, 0 ≤ j → j < n → R j s1 s2 → (∃ t1 t2, b1 j s1 = some (.inl t1) ∧ b2 j s2 = some (.inl t2) ∧ R (j + 1) t1 t2) ∨ ∃ o1 o2, b1 j s1 = some (.inr o1) ∧ b2 j s2 = some (.inr o2) ∧ Q o1 o2) :
    (∃ t1 t2, rngX 0 n b1 s1 = some (.inl t1) ∧ rngX 0 n b2 s2 = some (.inl t2) ∧ R n t1 t2) ∨ ∃ o1 o2, rngX 0 n b1 s1 = some (.inr o1) ∧ rngX 0 n b2 s2 = some (.inr o2) ∧ Q o1 o2 := by
  rcases rngN_sim R Q (n - 0).toNat 0 s1 s2 h0 (fun j s1 s2 g1 g2 => hb j s1 s2 g1 (by omega)) with ⟨t1, t2, h1, h2, h3⟩ | h
  · exact .inl ⟨t1, t2, h1, h2, by rwa [show (0 : Int) + ((n - 0).toNat : Int) = n by omega] at h3⟩
  · exact .inr h
theorem Loop_sim {S1 S2 O1 O2 : Type} {b1 : S1 → Option (S1 ⊕ O1)} {b2 : S2 → Option (S2 ⊕ O2)} (R : S1 → S2 → Prop) (Q : O1 → O2 → Prop) (μ : S1 → Nat)
    (hb : ∀ s1 s2, R s1 s2 → (∃ t1 t2, b1 s1 = some (.inl t1) ∧ b2 s2 = some (.inl t2) ∧ R t1 t2 ∧ μ t1 < μ s1) ∨ ∃ o1 o2, b1 s1 = some (.inr o1) ∧ b2 s2 = some (.inr o2) ∧ Q o1 o2) :
    ∀ (k : Nat) (s1 : S1) (s2 : S2), μ s1 < k → R s1 s2 → ∃ o1 o2, Loop b1 s1 = some o1 ∧ Loop b2 s2 = some o2 ∧ Q o1 o2
  | 0, _, _, h, _ => by omega
  | k + 1, s1, s2, h, hs => by
    rcases hb s1 s2 hs with ⟨t1, t2, h1, h2, h3, h4⟩ | ⟨o1, o2, h1, h2, h3⟩
    · obtain ⟨o1, o2, g1, g2, g3⟩ := Loop_sim R Q μ hb k t1 t2 (by omega) h3
      exact ⟨o1, o2, by rw [Loop_eq, h1]; exact g1, by rw [Loop_eq, h2]; exact g2, g3⟩
    · exact ⟨o1, o2, by rw [Loop_eq, h1], by rw [Loop_eq, h2], h3⟩
/-! ### States as' numbers -/
def wsN : List Int → Nat
  | [] => 0
  | a :: l => 2 ^ a.toNat + wsN l
theorem wsN_append : ∀ {l m : List Int}, wsN (l ++ m) = wsN l + wsN m
  | [], m => by simp [wsN]
  | a :: l, m => by simp only [List.cons_append, wsN, wsN_append (l := l)]; omega
theorem wsN_le : ∀ {l : List Int}, (∀ x ∈ l, x < 24) → wsN l ≤ l.length * 16777216
  | [], _ => by simp [wsN]
  | a :: l, h => by
    have h1 := wsN_le (l := l) fun x hx => h x (List.mem_cons_of_mem _ hx)
    have h2 : 2 ^ a.toNat ≤ 2 ^ 24 := Nat.pow_le_pow_right (by decide) (by have := h a (by simp); omega)
    simp only [wsN, List.length_cons]
    omega
theorem wsN_dvd {k : Nat} : ∀ {l : List Int}, (∀ x ∈ l, k ≤ x.toNat) → 2 ^ k ∣ wsN l
  | [], _ => ⟨0, rfl⟩
  | a :: l, h => Nat.dvd_add (Nat.pow_dvd_pow 2 (h a (by simp))) (wsN_dvd fun x hx => h x (List.mem_cons_of_mem _ hx))
theorem two_pow_no {k : Nat} (h : 2 ^ (k + 1) ∣ 2 ^ k) : False := by
  have h1 := Nat.le_of_dvd (Nat.two_pow_pos k) h
  have h2 := Nat.two_pow_pos k
  rw [Nat.pow_succ] at h1
  omega
theorem wsN_ne {a : Int} {l m : List Int} (ha : 0 ≤ a) (hl : ∀ x ∈ l, a < x) (hm : ∀ x ∈ m, a < x) : wsN (a :: l) ≠ wsN m := fun h => by
  have d1 : 2 ^ (a.toNat + 1) ∣ wsN l := wsN_dvd fun x hx => by have := hl x hx; omega
  have d2 : 2 ^ (a.toNat + 1) ∣ wsN m := wsN_dvd fun x hx => by have := hm x hx; omega
  rw [← h, wsN] at d2
  exact two_pow_no ((Nat.dvd_add_left d1).1 d2)
theorem wsN_inj : ∀ {l m : List Int}, Inc l → Inc m → (∀ x ∈ l, 0 ≤ x) → (∀ x ∈ m, 0 ≤ x) → wsN l = wsN m → l = m
  | [], [], _, _, _, _, _ => rfl
  | [], b :: m, _, _, _, _, h => by
    have := Nat.two_pow_pos b.toNat
    simp only [wsN] at h; omega
  | a :: l, [], _, _, _, _, h => by
    have := Nat.two_pow_pos a.toNat
    simp only [wsN] at h; omega
  | a :: l, b :: m, h1, h2, h3, h4, h => by
    obtain ⟨l1, l2⟩ := List.pairwise_cons.1 h1
    obtain ⟨m1, m2⟩ := List.pairwise_cons.1 h2
    rcases Int.lt_trichotomy a b with c | c | c
    · exact absurd h (wsN_ne (h3 a (by simp)) l1 fun x hx => by
        rcases List.mem_cons.1 hx with rfl | hx
        · exact c
        · have := m1 x hx; omega)
    · subst c
      simp only [wsN] at h
      rw [wsN_inj l2 m2 (fun x hx => h3 x (List.mem_cons_of_mem _ hx)) (fun x hx => h4 x (List.mem_cons_of_mem _ hx)) (by omega)]
    · exact absurd h.symm (wsN_ne (h4 b (by simp)) m1 fun x hx => by
        rcases List.mem_cons.1 hx with rfl | hx
        · exact c
        · have := l1 x hx; omega)
theorem SetN.word_inj {s s' : List Int} {n : Int} (h : SetN s n) (h' : SetN s' n) (e : wsN s = wsN s') : s = s' :=
  wsN_inj h.1 h'.1 (fun x hx => (h.2 x hx).1) (fun x hx => (h'.2 x hx).1) e
theorem word_eq {s : List Int} {n : Int} (hs : SetN s n) (hn : n ≤ 24) : ref1_Word s = some (wsN s : Int) := by
  have hl := hs.len
  unfold ref1_Word
  obtain ⟨w, h1, h2⟩ := forR_inv (body := ref1_Word_l1 s) (n := (s.length : Int)) (s := 0) (fun j w => w = (wsN (s.take j.toNat) : Int)) (by omega) (by simp [wsN]) (fun j w j0 j1 hP => by
    obtain ⟨a, ha, ga⟩ := ix_of (l := s) j0 j1
    have hb := hs.2 a (ix_mem ha)
    have ht : s.take (j + 1).toNat = s.take j.toNat ++ [a] := by rw [show (j + 1).toNat = j.toNat + 1 by omega, List.take_add_one, ga]; rfl
    have b1 : wsN (s.take j.toNat) ≤ (s.take j.toNat).length * 16777216 := wsN_le fun x hx => by have := hs.2 x (List.mem_of_mem_take hx); omega
    have b2 : (s.take j.toNat).length ≤ 24 := by rw [List.length_take]; omega
    have b4 : (s.take j.toNat).length * 16777216 ≤ 24 * 16777216 := Nat.mul_le_mul_right _ b2
    obtain ⟨q, hq⟩ : ∃ q : Nat, q = 2 ^ a.toNat := ⟨_, rfl⟩
    have b3 : q ≤ 16777216 := by rw [hq]; exact (Nat.pow_le_pow_right (by decide) (by omega) : 2 ^ a.toNat ≤ 2 ^ 24)
    have ep : (2 : Int) ^ a.toNat = (q : Int) := by rw [hq]; push_cast; rfl
    unfold ref1_Word_l1
    rw [ha]
    simp only [Option.bind_some]
    rw [IntKind.wrap_u64, Int.emod_eq_of_lt (by omega) (by omega), chk0, if_neg (by omega)]
    simp only [Option.bind_some]
    have es : shlW .i64 1 a = (q : Int) := by
      unfold shlW
      rw [show min a.toNat (IntKind.i64).bits = a.toNat by simp only [IntKind.bits]; omega, Int.one_mul, ep]
      exact w64_of (by omega) (by omega)
    rw [es, w64_of (by omega) (by omega), ht, wsN_append, hP]
    refine ⟨_, rfl, ?_⟩
    simp only [wsN, ← hq]
    omega)
  rw [h1, h2, Int.toNat_natCast, List.take_length]
  rfl
theorem SetN.small {s : List Int} {n : Int} (h : SetN s n) (hn : n ≤ 24) : small s := fun x hx => by have := h.2 x hx; omega
theorem key1_eq {s : List Int} (hs : small s) (h1 : s.length ≤ 1000) : belief_Key [s] = some (keyK [s]) := by
  refine key_eq (by simpa using hs) ?_
  have := encS_len s
  simp only [encK, List.flatMap_cons, List.flatMap_nil, List.length_append, List.append_nil]
  omega
theorem SetN.key_inj {s s' : List Int} {n : Int} (hn : n ≤ 24) (h : SetN s n) (h' : SetN s' n) (e : keyK [s] = keyK [s']) : s = s' := by
  have := keyK_inj (l := [s]) (l' := [s']) (by simpa using h.small hn) (by simpa using h'.small hn) e
  simpa using this
theorem oAfter_eq {t : TOpenTask} (ht : OTaskOk t) {op : Int} (h0 : 0 ≤ op) (h1 : op < t.operators.length) {s : List Int} (hs : SetN s t.facts) : ref8_After t s op = open_Results t s op := by
  obtain ⟨st, w, r1, r2, r3, r4, r5, r6⟩ := oResults_eq ht h0 h1 hs
  have ho := ht.at h0 h1
  have hl := ho.l1
  have hn := ht.n1
  rw [r1]
  unfold ref8_After
  rw [ix_oo h0 h1]
  simp only [Option.bind_some]
  obtain ⟨l, a1, a2, a3, a4, a5⟩ := forR_inv (body := ref8_After_l1 t s (ooAt t op)) (n := ((ooAt t op).outcomes.length : Int)) (s := []) (fun j l => Ord l ∧ (l.length : Int) ≤ j ∧ (∀ y ∈ l, y.length ≤ 24) ∧ ∀ y, y ∈ l ↔ ∃ k x, k < j ∧ ix (ooAt t op).outcomes k = some x ∧ efc t.facts s x = y) (by omega) ⟨.nil, by simp, by simp, fun y => ⟨fun h => by (cases h), fun ⟨k, x, k1, k2, _⟩ => by have := (ix_lo k2).1; omega⟩⟩ (fun j l j0 j1 ⟨p1, p2, p3, p4⟩ => by
    obtain ⟨x, hx, _⟩ := ix_of (l := (ooAt t op).outcomes) j0 j1
    unfold ref8_After_l1
    rw [hx]
    simp only [Option.bind_some, effect_eq ht]
    obtain ⟨l', m1, m2, m3, m4⟩ := insert_eq p1 (by omega) (fun y hy => by have := p3 y hy; omega) (efc t.facts s x)
    rw [m1]
    have e24 := (setN_efc t.facts s x).len
    refine ⟨l', rfl, m2, by omega, fun y hy => ?_, fun y => ?_⟩
    · rcases (m3 y).1 hy with rfl | h
      · omega
      · exact p3 y h
    · rw [m3, p4]
      constructor
      · rintro (rfl | ⟨k, x', k1, k2⟩)
        · exact ⟨j, x, by omega, hx, rfl⟩
        · exact ⟨k, x', by omega, k2⟩
      · rintro ⟨k, x', k1, k2, k3⟩
        by_cases ek : k = j
        · subst ek
          rw [hx] at k2; cases k2
          exact .inl k3.symm
        · exact .inr ⟨k, x', by omega, k2, k3⟩)
  have hst : l = st := Ord.ext a2 r2 fun y => by
    rw [a5, r3]
    constructor
    · rintro ⟨k, x, _, k2, k3⟩; exact ⟨x, ix_mem k2, k3⟩
    · rintro ⟨x, hx, k3⟩
      obtain ⟨k, k0, k1, k2⟩ := mem_ix hx
      exact ⟨k, x, k1, k2, k3⟩
  subst hst
  have hm : mkL 8 (l.length : Int) (0 : Int) = some (List.replicate l.length 0) := by
    rw [mkL, if_pos (by omega)]; simp
  rw [a1]
  simp only [Option.bind_some, hm]
  have e : forR 0 ((ooAt t op).outcomes.length : Int) (ref8_After_l2 t s (ooAt t op) l) (List.replicate l.length 0) = some w := by
    rw [← r6]
    refine forR_congr fun j c j0 j1 => ?_
    obtain ⟨x, hx, _⟩ := ix_of (l := (ooAt t op).outcomes) j0 j1
    obtain ⟨i, e1, e2, e3⟩ := bsets_eq (t := efc t.facts s x) r2 (by omega)
    obtain ⟨r, g1, g2⟩ := place_eq l (efc t.facts s x)
    unfold ref8_After_l2 open_Results_l2
    rw [hx, ix_map, hx]
    simp only [Option.bind_some, Option.map_some, effect_eq ht, e1, g1]
    rcases g2 with ⟨_, h⟩ | ⟨_, _, h, _⟩
    · exact absurd ((r3 _).2 ⟨x, ix_mem hx, rfl⟩) h
    · rw [e3 r h]
  rw [e]
  rfl
end Ab
end
section
namespace Ab
open Go
def Ext (a b : List (List Int)) : Prop := ∀ k y, ix a k = some y → ix b k = some y
theorem Ext.refl (a : List (List Int)) : Ext a a := fun _ _ h => h
theorem Ext.mem {a b : List (List Int)} (h : Ext a b) {y : List Int} (hy : y ∈ a) : y ∈ b := by
  obtain ⟨k, _, _, hk⟩ := mem_ix hy
  exact ix_mem (h k y hk)
theorem Ext.snoc {a b : List (List Int)} (h : Ext a b) (z : List Int) : Ext a (b ++ [z]) := fun k y hk => by
  obtain ⟨i0, i1, g⟩ := ix_lo (h k y hk)
  rw [ix, if_pos i0, List.getElem?_append_left (by omega), g]
theorem Ext.len {a b : List (List Int)} (h : Ext a b) : a.length ≤ b.length := by
  by_cases c : a.length = 0
  · omega
  · obtain ⟨y, hy, _⟩ := ix_of (l := a) (i := (a.length : Int) - 1) (by omega) (by omega)
    have := (ix_lo (h _ y hy)).2.1
    omega
structure Rc (t : TOpenTask) (l : List (List Int)) (m : List (ByteArray × Int)) (ws : List Int) : Prop where
  set : ∀ s ∈ l, SetN s t.facts
  len : l.length ≤ 2000
  map : ∀ s, SetN s t.facts → (0 < Option.getD (mget m (keyK [s])) 0 ↔ s ∈ l)
  wrd : ws = l.map fun s => (wsN s : Int)
theorem Rc.has {t : TOpenTask} {l : List (List Int)} {m : List (ByteArray × Int)} {ws : List Int} (h : Rc t l m ws) {s : List Int} (hs : SetN s t.facts) : (wsN s : Int) ∈ ws ↔ s ∈ l := by
  rw [h.wrd, List.mem_map]
  constructor
  · rintro ⟨a, ha, e⟩
    have : a = s := (h.set a ha).word_inj hs (by omega)
    exact this ▸ ha
  · intro hm; exact ⟨s, hm, rfl⟩
theorem Rc.put {t : TOpenTask} (hn : t.facts ≤ 24) {l : List (List Int)} {m : List (ByteArray × Int)} {ws : List Int} (h : Rc t l m ws) {s : List Int} (hs : SetN s t.facts) (hl : l.length < 2000) : Rc t (l ++ [s]) (mset m (keyK [s]) 1) (ws ++ [(wsN s : Int)]) := by
  refine ⟨fun y hy => ?_, by simp; omega, fun y hy => ?_, by rw [h.wrd]; simp⟩
  · rcases List.mem_append.1 hy with g | g
    · exact h.set y g
    · simp only [List.mem_singleton] at g; subst g; exact hs
  · rw [mget_mset, List.mem_append, List.mem_singleton]
    by_cases e : keyK [y] = keyK [s]
    · have := SetN.key_inj hn hy hs e
      subst this
      rw [if_pos rfl]
      simp
    · rw [if_neg e, h.map y hy]
      constructor
      · exact .inl
      · rintro (g | g)
        · exact g
        · exact absurd (by rw [g]) e
theorem reach4 {t : TOpenTask} (ht : OTaskOk t) {st : List (List Int)} {w : List Int} (hst : ∀ y ∈ st, SetN y t.facts) {l0 : List (List Int)} {m0 : List (ByteArray × Int)} {ws0 : List Int} (h0 : Rc t l0 m0 ws0) :
    (∃ p q, rngX 0 (st.length : Int) (open_Reach_l4 (st, w)) (l0, m0) = some (.inl p) ∧ rngX 0 (st.length : Int) (ref8_Reached_l4 2000 (st, w)) (l0, ws0) = some (.inl q) ∧ q.1 = p.1 ∧ Rc t p.1 p.2 q.2 ∧ Ext l0 p.1 ∧ ∀ y ∈ st, y ∈ p.1) ∨ ∃ o1 o2, rngX 0 (st.length : Int) (open_Reach_l4 (st, w)) (l0, m0) = some (.inr o1) ∧ rngX 0 (st.length : Int) (ref8_Reached_l4 2000 (st, w)) (l0, ws0) = some (.inr o2) ∧ o1 = ([], false) ∧ o2 = ([], false) := by
  have hn := ht.n1
  rcases rngX_sim (b1 := open_Reach_l4 (st, w)) (b2 := ref8_Reached_l4 2000 (st, w)) (n := (st.length : Int)) (s1 := (l0, m0)) (s2 := (l0, ws0)) (fun j p q => q.1 = p.1 ∧ Rc t p.1 p.2 q.2 ∧ Ext l0 p.1 ∧ ∀ k y, k < j → ix st k = some y → y ∈ p.1) (fun o1 o2 => o1 = ([], false) ∧ o2 = ([], false)) (by omega) ⟨rfl, h0, .refl _, fun k y k0 hk => by have := (ix_lo hk).1; omega⟩ (fun j ⟨l, m⟩ ⟨l', ws⟩ j0 j1 ⟨e, g1, g2, g3⟩ => by
    dsimp only at e g1 g2 g3
    subst e
    obtain ⟨y, hy, _⟩ := ix_of (l := st) j0 j1
    have hs := hst y (ix_mem hy)
    have hyl := hs.len
    unfold open_Reach_l4 ref8_Reached_l4
    dsimp only
    rw [hy]
    simp only [Option.bind_some]
    rw [key1_eq (hs.small hn) (by omega), word_eq hs hn]
    simp only [Option.bind_some, has_eq]
    have mono : ∀ {l2 : List (List Int)}, Ext l' l2 → y ∈ l2 → ∀ k z, k < j + 1 → ix st k = some z → z ∈ l2 := fun h1 h2 k z hk hz => by
      by_cases ek : k = j
      · subst ek; rw [hy] at hz; cases hz; exact h2
      · exact h1.mem (g3 k z (by omega) hz)
    by_cases c : y ∈ l'
    · rw [if_pos ((g1.map y hs).2 c), ifP ((g1.has hs).2 c)]
      exact .inl ⟨_, _, rfl, rfl, rfl, g1, g2, mono (.refl _) c⟩
    · rw [if_neg (fun h => c ((g1.map y hs).1 h)), ifN (fun h => c ((g1.has hs).1 h))]
      have hlen := g1.len
      by_cases c2 : (l'.length : Int) = 2000
      · rw [if_pos c2, if_pos (by omega)]
        exact .inr ⟨_, _, rfl, rfl, rfl, rfl⟩
      · rw [if_neg c2, if_neg (by omega), app, if_pos (by simp; omega)]
        simp only [Option.bind_some]
        rw [app, if_pos (by rw [g1.wrd]; simp; omega)]
        exact .inl ⟨_, _, rfl, rfl, rfl, g1.put hn hs (by omega), g2.snoc _, mono ((Ext.refl _).snoc _) (by simp)⟩) with ⟨p, q, h1, h2, h3, h4, h5, h6⟩ | h
  · refine .inl ⟨p, q, h1, h2, h3, h4, h5, fun y hy => ?_⟩
    obtain ⟨k, _, k1, hk⟩ := mem_ix hy
    exact h6 k y k1 hk
  · exact .inr h
/-- What follows a state lies in a list, for the first operators. -/
def ClS (t : TOpenTask) (l : List (List Int)) (s : List Int) (n : Int) : Prop := ∀ op : Int, 0 ≤ op → op < n → oCan t s op → ∀ x ∈ (ooAt t op).outcomes, efc t.facts s x ∈ l
theorem ClS.ext {t : TOpenTask} {l l' : List (List Int)} {s : List Int} {n : Int} (h : ClS t l s n) (e : Ext l l') : ClS t l' s n := fun op h0 h1 hc x hx => e.mem (h op h0 h1 hc x hx)
theorem reach2 {t : TOpenTask} (ht : OTaskOk t) {l0 : List (List Int)} {m0 : List (ByteArray × Int)} {ws0 : List Int} (h0 : Rc t l0 m0 ws0) {at_ : Int} {s : List Int} (hs : ix l0 at_ = some s) :
    (∃ p q, rngX 0 (t.operators.length : Int) (open_Reach_l2 t at_) (l0, m0) = some (.inl p) ∧ rngX 0 (t.operators.length : Int) (ref8_Reached_l2 t 2000 at_) (l0, ws0) = some (.inl q) ∧ q.1 = p.1 ∧ Rc t p.1 p.2 q.2 ∧ Ext l0 p.1 ∧ ClS t p.1 s t.operators.length) ∨ ∃ o1 o2, rngX 0 (t.operators.length : Int) (open_Reach_l2 t at_) (l0, m0) = some (.inr o1) ∧ rngX 0 (t.operators.length : Int) (ref8_Reached_l2 t 2000 at_) (l0, ws0) = some (.inr o2) ∧ o1 = ([], false) ∧ o2 = ([], false) := by
  have hset := h0.set s (ix_mem hs)
  exact rngX_sim (b1 := open_Reach_l2 t at_) (b2 := ref8_Reached_l2 t 2000 at_) (n := (t.operators.length : Int)) (s1 := (l0, m0)) (s2 := (l0, ws0)) (fun j p q => q.1 = p.1 ∧ Rc t p.1 p.2 q.2 ∧ Ext l0 p.1 ∧ ClS t p.1 s j) (fun o1 o2 => o1 = ([], false) ∧ o2 = ([], false)) (by omega) ⟨rfl, h0, .refl _, fun op a b => by omega⟩ (fun j ⟨l, m⟩ ⟨l', ws⟩ j0 j1 ⟨e, g1, g2, g3⟩ => by
    dsimp only at e g1 g2 g3
    subst e
    unfold open_Reach_l2 ref8_Reached_l2
    dsimp only
    rw [g2 _ _ hs]
    simp only [Option.bind_some]
    rw [oCan_eq ht j0 j1 hset, oApplies_eq j0 j1]
    simp only [Option.bind_some, dec_not]
    have step : ∀ {l2 : List (List Int)}, Ext l' l2 → (oCan t s j → ∀ x ∈ (ooAt t j).outcomes, efc t.facts s x ∈ l2) → ClS t l2 s (j + 1) := fun h1 h2 op a b hc x hx => by
      by_cases eo : op = j
      · subst eo; exact h2 hc x hx
      · exact h1.mem (g3 op a (by omega) hc x hx)
    by_cases c : oCan t s j
    · rw [ifNN c, ifNN c, oAfter_eq ht j0 j1 hset]
      obtain ⟨st, w, r1, r2, r3, _⟩ := oResults_eq ht j0 j1 hset
      rw [r1]
      simp only [Option.bind_some]
      rcases reach4 ht (st := st) (w := w) (fun y hy => by
        obtain ⟨x, _, rfl⟩ := (r3 y).1 hy
        exact setN_efc _ _ _) g1 with ⟨p, q, h1, h2, h3, h4, h5, h6⟩ | ⟨o1, o2, h1, h2, h3, h4⟩
      · rw [h1, h2]
        refine .inl ⟨p, q, rfl, rfl, h3, h4, fun k y hk => h5 k y (g2 k y hk), step h5 fun _ x hx => h6 _ ((r3 _).2 ⟨x, hx, rfl⟩)⟩
      · rw [h1, h2]
        exact .inr ⟨o1, o2, rfl, rfl, h3, h4⟩
    · rw [ifP c, ifP c]
      exact .inl ⟨_, _, rfl, rfl, rfl, g1, g2, step (.refl _) fun h => absurd h c⟩)
/-- What is known of the states that are reached. -/
structure Cl (t : TOpenTask) (l : List (List Int)) : Prop where
  len : l.length ≤ 2000
  set : ∀ s ∈ l, SetN s t.facts
  init : t.init ∈ l
  closed : ∀ s ∈ l, ClS t l s t.operators.length
theorem reach_eq {t : TOpenTask} (ht : OTaskOk t) : (∃ out, open_Reach t = some (out, true) ∧ ref8_Reached t 2000 = some (out, true) ∧ Cl t out) ∨ (open_Reach t = some ([], false) ∧ ref8_Reached t 2000 = some ([], false)) := by
  have hn := ht.n1
  have hi := ht.init
  have hil := hi.len
  unfold open_Reach ref8_Reached
  rw [clone_eq (by omega)]
  simp only [Option.bind_some]
  rw [key1_eq (hi.small hn) (by omega), word_eq hi hn]
  simp only [Option.bind_some]
  rw [app, if_pos (by simp)]
  simp only [Option.bind_some, List.nil_append]
  have r0 : Rc t [t.init] (mset ([] : List (ByteArray × Int)) (keyK [t.init]) 1) [(wsN t.init : Int)] := by
    refine ⟨by simpa using hi, by simp, fun s hs => ?_, rfl⟩
    rw [mget_mset]
    by_cases e : keyK [s] = keyK [t.init]
    · rw [if_pos e, SetN.key_inj hn hs hi e]; simp
    · rw [if_neg e]
      simp only [mget, List.mem_singleton, Option.getD_none]
      exact ⟨fun h => by omega, fun h => absurd (by rw [h]) e⟩
  obtain ⟨o1, o2, q1, q2, q3⟩ := Loop_sim (b1 := open_Reach_l1 t) (b2 := ref8_Reached_l1 t 2000) (fun p q => q.1 = p.1 ∧ q.2.2 = p.2.2 ∧ Rc t p.1 p.2.1 q.2.1 ∧ 0 ≤ p.2.2 ∧ p.2.2 ≤ p.1.length ∧ t.init ∈ p.1 ∧ ∀ i s, i < p.2.2 → ix p.1 i = some s → ClS t p.1 s t.operators.length) (fun o1 o2 => (∃ l, o1 = .inl l ∧ o2 = .inl l ∧ Cl t l) ∨ (o1 = .inr ([], false) ∧ o2 = .inr ([], false))) (fun p => (2000 - p.2.2).toNat) (fun ⟨l, m, a⟩ ⟨l', ws, a'⟩ ⟨e1, e2, g1, g2, g3, g4, g5⟩ => by
    dsimp only at e1 e2 g1 g2 g3 g4 g5
    subst e1 e2
    have hlen := g1.len
    unfold open_Reach_l1 ref8_Reached_l1
    dsimp only
    by_cases c : a' < l'.length
    · rw [if_pos c, if_pos c]
      obtain ⟨s, hs, _⟩ := ix_of (l := l') g2 c
      rcases reach2 ht g1 hs with ⟨p, q, h1, h2, h3, h4, h5, h6⟩ | ⟨o1, o2, h1, h2, h3, h4⟩
      · rw [h1, h2]
        have := h5.len
        have := h4.len
        simp only [Option.bind_some]
        rw [w64_of (by omega) (by omega)]
        refine .inl ⟨_, _, rfl, rfl, ⟨h3, rfl, h4, by dsimp only; omega, by dsimp only; omega, h5.mem g4, fun i s' hi' hs' => ?_⟩, by dsimp only; omega⟩
        dsimp only at hi' hs' ⊢
        by_cases ei : i = a'
        · subst ei
          rw [h5 _ _ hs] at hs'; cases hs'
          exact h6
        · obtain ⟨y, hy, _⟩ := ix_of (l := l') (i := i) (ix_lo hs').1 (by omega)
          have hy2 := h5 _ _ hy
          rw [hs'] at hy2
          cases hy2
          exact (g5 i s' (by omega) hy).ext h5
      · rw [h1, h2]
        refine .inr ⟨_, _, rfl, rfl, .inr ⟨by rw [h3], by rw [h4]⟩⟩
    · rw [if_neg c, if_neg c]
      refine .inr ⟨_, _, rfl, rfl, .inl ⟨l', rfl, rfl, g1.len, g1.set, g4, fun s hs => ?_⟩⟩
      obtain ⟨i, i0, i1, hi⟩ := mem_ix hs
      exact g5 i s (by omega) hi) _ ([t.init], mset ([] : List (ByteArray × Int)) (keyK [t.init]) 1, 0) ([t.init], [(wsN t.init : Int)], 0) (Nat.lt_succ_self _) ⟨rfl, rfl, r0, by simp, by simp, by simp, fun i s hi hs => by have := (ix_lo hs).1; dsimp only at hi; omega⟩
  rw [q1, q2]
  rcases q3 with ⟨l, rfl, rfl, hc⟩ | ⟨rfl, rfl⟩
  · left
    simp only [Option.bind_some]
    have hcl := hc.len
    obtain ⟨r, n1, n2, n3, n4⟩ := normal_eq (l := l) (by omega)
    rw [n1]
    obtain ⟨l', a1, a2, a3, a4, a5⟩ := forR_inv (body := ref8_Reached_l6 l) (n := (l.length : Int)) (s := []) (fun j l' => Ord l' ∧ (l'.length : Int) ≤ j ∧ (∀ y ∈ l', y.length ≤ 24) ∧ ∀ y, y ∈ l' ↔ ∃ k, k < j ∧ ix l k = some y) (by omega) ⟨.nil, by simp, by simp, fun y => ⟨fun h => by (cases h), fun ⟨k, k1, k2⟩ => by have := (ix_lo k2).1; omega⟩⟩ (fun j l' j0 j1 ⟨p1, p2, p3, p4⟩ => by
      obtain ⟨s, hs, _⟩ := ix_of (l := l) j0 j1
      unfold ref8_Reached_l6
      rw [hs]
      simp only [Option.bind_some]
      obtain ⟨l2, m1, m2, m3, m4⟩ := insert_eq p1 (by omega) (fun y hy => by have := p3 y hy; omega) s
      rw [m1]
      have e24 := (hc.set s (ix_mem hs)).len
      refine ⟨l2, rfl, m2, by omega, fun y hy => ?_, fun y => ?_⟩
      · rcases (m3 y).1 hy with rfl | h
        · omega
        · exact p3 y h
      · rw [m3, p4]
        constructor
        · rintro (rfl | ⟨k, k1, k2⟩)
          · exact ⟨j, by omega, hs⟩
          · exact ⟨k, by omega, k2⟩
        · rintro ⟨k, k1, k2⟩
          by_cases ek : k = j
          · subst ek
            rw [hs] at k2; cases k2
            exact .inl rfl
          · exact .inr ⟨k, by omega, k2⟩)
    rw [a1]
    have : l' = r := Ord.ext a2 n2 fun y => by
      rw [a5, n3]
      constructor
      · rintro ⟨k, _, k2⟩; exact ix_mem k2
      · intro hy
        obtain ⟨k, _, k1, hk⟩ := mem_ix hy
        exact ⟨k, k1, hk⟩
    subst this
    refine ⟨l', rfl, rfl, by omega, fun s hs => hc.set s ((n3 s).1 hs), (n3 _).2 hc.init, fun s hs op h0 h1 hcan x hx => (n3 _).2 (hc.closed s ((n3 s).1 hs) op h0 h1 hcan x hx)⟩
  · right
    exact ⟨rfl, rfl⟩
theorem explore_ok {t : TOpenTask} (ht : OTaskOk t) : open_Explore t = (open_Reach t).bind fun r => if r.2 = true then some (r.1, ⟨0, 0⟩) else some ([], ⟨10, -7⟩) := by
  obtain ⟨f, h1, _, h3⟩ := oValidate_eq t
  rcases h3 with ⟨rfl, _⟩ | ⟨_, hn⟩
  · unfold open_Explore
    rw [h1]
    simp only [Option.bind_some]
    rw [if_neg (by simp)]
    congr 1
    funext r
    cases r.2 <;> rfl
  · exact absurd ht hn
theorem explore_bad {t : TOpenTask} {f : TFault} (hv : open_Validate t = some f) (hc : f.code ≠ 0) : open_Explore t = some ([], f) := by
  unfold open_Explore
  rw [hv]
  simp only [Option.bind_some]
  rw [if_pos (fault_no hc)]
theorem planning_self (t : TTask) : equal_Planning t t = some true := by
  unfold equal_Planning
  simp only [numbers_eq, dec_of, Option.bind_some, decide_true, Bool.not_true, Bool.false_eq_true, if_false]
  rw [rngX_all (by omega) fun j j0 j1 => by
    obtain ⟨o, ho, _⟩ := ix_of (l := t.operators) j0 j1
    unfold equal_Planning_l1
    rw [ho]
    simp only [numbers_eq, dec_of, Option.bind_some, decide_true, Bool.not_true, Bool.false_eq_true, if_false]]
  rfl
theorem specDz {t : TOpenTask} (ht : OTaskOk t) : forR 0 (t.operators.length : Int) (law8_OpenMatchesSpec_l2 t) ([], []) = forR 0 (t.operators.length : Int) (open_Determinize_l1 t) ([], []) := by
  refine forR_congr fun a ⟨c, d⟩ h0 h1 => ?_
  unfold law8_OpenMatchesSpec_l2 open_Determinize_l1
  dsimp only
  rw [ix_oo h0 h1]
  simp only [Option.bind_some]
  rw [forR_congr (b1 := law8_OpenMatchesSpec_l3 a (ooAt t a)) (b2 := open_Determinize_l2 a (ooAt t a)) fun k ⟨c, d⟩ k0 k1 => by
    obtain ⟨x, hx, _⟩ := ix_of (l := (ooAt t a).outcomes) k0 k1
    rw [dz2 ht h0 h1 hx]
    unfold law8_OpenMatchesSpec_l3
    dsimp only
    rw [hx]
    rfl]
theorem spec4 {t : TOpenTask} (ht : OTaskOk t) (s : List Int) (op : Int) (hop : -9223372036854775808 ≤ op ∧ op ≤ 9223372036854775807) {st : List (List Int)} {w : List Int} {f : TFault} (ho : open_Outcomes t s op = some (st, w, f)) : law8_OpenMatchesSpec_j4 t s op (st, w, f) () = some true := by
  have hn := ht.n1; have hn0 := ht.n0; have hops := ht.ops
  rw [outcomes_ok ht] at ho
  unfold law8_OpenMatchesSpec_j4
  simp only [rIsSet_eq (n := t.facts) _ (show -9223372036854775808 < t.facts by omega) (show t.facts ≤ 9223372036854775807 by omega), Option.bind_some, in_eq, at_eq, dec_not, tossed_eq]
  by_cases c1 : SetN s t.facts
  · rw [ifP c1] at ho
    rw [ifNN c1]
    by_cases c2 : 0 ≤ op ∧ op < t.operators.length
    · rw [ifP c2] at ho
      rw [ifN (show ¬ ¬ (0 ≤ op ∧ op ≤ (t.operators.length : Int) - 1) by omega), oApplies_eq c2.1 c2.2]
      simp only [Option.bind_some, dec_not]
      by_cases c3 : oCan t s op
      · rw [ifP c3] at ho
        rw [ifNN c3]
        obtain ⟨st', w', q1, _⟩ := oResults_eq ht c2.1 c2.2 c1
        rw [q1] at ho
        cases ho
        simp only [Option.bind_some, if_true]
        rw [oAfter_eq ht c2.1 c2.2 c1, q1]
        simp [sets_eq, numbers_eq]
      · rw [ifN c3] at ho
        cases ho
        rw [ifP c3]
        simp
        exact w64_of (by decide) (by decide)
    · rw [ifN c2] at ho
      cases ho
      rw [ifP (show ¬ (0 ≤ op ∧ op ≤ (t.operators.length : Int) - 1) by omega)]
      simp
      exact w64_of (by decide) (by decide)
  · rw [ifN c1] at ho
    cases ho
    rw [ifP c1]
    simp
    exact w64_of (by decide) (by decide)
theorem spec1 {t : TOpenTask} (ht : OTaskOk t) (s : List Int) (op : Int) (hop : -9223372036854775808 ≤ op ∧ op ≤ 9223372036854775807) {st : List (List Int)} {w : List Int} {f : TFault} (ho : open_Outcomes t s op = some (st, w, f)) {d : TTask × List (Int × Int) × TFault} (hd : open_Determinize t = some d) : law8_OpenMatchesSpec_j1 t s op (st, w, f) d () = some true := by
  unfold law8_OpenMatchesSpec_j1
  obtain ⟨c, e, r1, r2, r3⟩ := determinize_ok ht
  rw [specDz ht, r1]
  simp only [Option.bind_some, at_eq]
  rw [r3] at hd
  by_cases c40 : 40 < (c.length : Int)
  · rw [if_pos c40] at hd
    cases hd
    rw [if_pos c40, if_neg (by simp)]
    exact spec4 ht s op hop ho
  · rw [if_neg c40] at hd
    cases hd
    rw [if_neg c40]
    simp only [planning_self, twoInts_eq, dec_of, Option.bind_some, decide_true, Bool.not_true, Bool.false_eq_true, if_false]
    exact spec4 ht s op hop ho
/-- For all open tasks, Validate, Outcomes, Determinize and Explore return what is specified. -/
theorem OpenMatchesSpec_true (t : TOpenTask) (s : List Int) (op : Int) (hop : -9223372036854775808 ≤ op ∧ op ≤ 9223372036854775807) : law8_OpenMatchesSpec t s op = some true := by
  unfold law8_OpenMatchesSpec
  obtain ⟨f, h1, h2, h3⟩ := oValidate_eq t
  rcases h3 with ⟨rfl, ht⟩ | ⟨hc, hn⟩
  · obtain ⟨st, w, g, o1, _⟩ := outcomes_eq t s op
    obtain ⟨c, e, _, _, r3⟩ := determinize_ok ht
    have hd : ∃ d, open_Determinize t = some d := by rw [r3]; split <;> exact ⟨_, rfl⟩
    obtain ⟨d, hd⟩ := hd
    have fin := spec1 ht s op hop o1 hd
    rw [o1, hd, h1, h2, explore_ok ht]
    rcases reach_eq ht with ⟨out, q1, q2, hcl⟩ | ⟨q1, q2⟩
    · rw [q1, q2]
      simp only [Option.bind_some, if_true, sets_eq, dec_of, decide_true, Bool.and_true, Bool.not_true, Bool.false_eq_true, if_false]
      exact fin
    · rw [q1, q2]
      simp only [Option.bind_some, if_true, at_eq, decide_true, Bool.and_true, Bool.not_true, Bool.false_eq_true, if_false, Bool.not_false, List.length_nil, Bool.false_or]
      rw [if_neg (by simp)]
      exact fin
  · rw [outcomes_bad h1 hc, determinize_bad h1 hc, explore_bad h1 hc, h1, h2]
    simp only [Option.bind_some]
    rw [if_neg (by simp), if_neg hc]
    simp [planning_self, tossed_eq]
    decide
end Ab
end
