/-
  Texts that the proof stands on.
-/
import Derived.Test.YtpcodegibndgeaaGreatDoorKRwStrongChk5
set_option linter.all false
section
namespace Ab
open Go
def noOO : TOpenOperator := ⟨[], [], 0⟩
def ooAt (t : TOpenTask) (op : Int) : TOpenOperator := (t.operators[op.toNat]?).getD noOO
theorem ix_oo {t : TOpenTask} {op : Int} (h0 : 0 ≤ op) (h1 : op < t.operators.length) : ix t.operators op = some (ooAt t op) := by
  obtain ⟨a, h2, h3⟩ := ix_of h0 h1
  rw [h2, ooAt, h3]; rfl
def oCan (t : TOpenTask) (s : List Int) (op : Int) : Prop := ∀ x ∈ (ooAt t op).pre, x ∈ s
noncomputable def efc (n : Int) (s : List Int) (x : TOutcome) : List Int := setOf (fun p => p ∈ x.add ∨ p ∈ s ∧ p ∉ x.del) n
theorem setN_efc (n : Int) (s : List Int) (x : TOutcome) : SetN (efc n s x) n := setN_setOf _ _
theorem OTaskOk.at {t : TOpenTask} (h : OTaskOk t) {op : Int} (h0 : 0 ≤ op) (h1 : op < t.operators.length) : OOk (ooAt t op) t.facts := h.op _ (ix_mem (ix_oo h0 h1))
theorem oCan_eq {t : TOpenTask} (ht : OTaskOk t) {op : Int} (h0 : 0 ≤ op) (h1 : op < t.operators.length) {s : List Int} (hs : SetN s t.facts) : open_Can t s op = some (dec (oCan t s op)) := by
  have := ht.n1; have := hs.len
  unfold open_Can
  rw [ix_oo h0 h1]
  simp only [Option.bind_some]
  rw [contains_eq hs.1 (ht.at h0 h1).pre.1 (by omega)]
  rfl
theorem oApplies_eq {t : TOpenTask} {op : Int} (h0 : 0 ≤ op) (h1 : op < t.operators.length) (s : List Int) : ref8_Applies t s op = some (dec (oCan t s op)) := by
  unfold ref8_Applies
  rw [ix_oo h0 h1]
  simp only [Option.bind_some, subset_eq]
  rfl
theorem effect_eq {t : TOpenTask} (ht : OTaskOk t) (s : List Int) (x : TOutcome) : ref8_Effect t s x = some (efc t.facts s x) := by
  have := ht.n1
  unfold ref8_Effect
  rw [if_pos (by omega)]
  rw [forR_setOf (b := 8) (fun p => p ∈ x.add ∨ p ∈ s ∧ p ∉ x.del) ht.n0 (by omega) (fun j c g0 g1 => by
    unfold ref8_Effect_l1
    simp only [Option.bind_some, has_eq, dec_not]
    have e : (if dec (j ∈ x.add) = true then some true else if dec (j ∈ s) = true then some (dec (j ∉ x.del)) else some false) = some (dec (j ∈ x.add ∨ j ∈ s ∧ j ∉ x.del)) := by
      by_cases c1 : j ∈ x.add
      · rw [if_pos (dec_of c1), dec_of (.inl c1)]
      · rw [if_neg (fun h => c1 (dec_true.1 h))]
        by_cases c2 : j ∈ s
        · rw [if_pos (dec_of c2)]
          exact congrArg some (dec_congr ⟨fun h => .inr ⟨c2, h⟩, fun h => (h.resolve_left c1).2⟩)
        · rw [if_neg (fun h => c2 (dec_true.1 h)), dec_no (fun h => c2 (h.resolve_left c1).1)]
    rw [e]
    simp only [Option.bind_some]
    refine ⟨fun hq => ?_, fun hq => ?_⟩
    · rw [if_pos (dec_of hq)]
      cases app 8 c [j] <;> rfl
    · rw [if_neg (fun h => hq (dec_true.1 h))]; rfl)]
  rfl
theorem oUpdate_eq {n : Int} (hn : n ≤ 24) {s : List Int} (hs : SetN s n) {x : TOutcome} (hx : xSets x n) : strips_Update s x.add x.del = some (efc n s x) := by
  have := hx.2.1.len
  rw [update_eq (n := n) (by omega) hx.2.1.1 (by omega) hs hx.1]
  exact congrArg some (setOf_congr fun _ _ _ => Or.comm)
/-! ### Policies -/
theorem ord_of_adj : ∀ {l : List (List Int)}, (∀ (k : Nat) a b, l[k]? = some a → l[k + 1]? = some b → llt a b) → Ord l
  | [], _ => .nil
  | [_], _ => by simp
  | a :: b :: l, h => by
    have ih : Ord (b :: l) := ord_of_adj fun k x y h1 h2 => h (k + 1) x y (by simpa using h1) (by simpa using h2)
    have hab : llt a b := h 0 a b rfl rfl
    refine List.pairwise_cons.2 ⟨fun c hc => ?_, ih⟩
    rcases List.mem_cons.1 hc with rfl | hc
    · exact hab
    · exact llt_trans hab ((List.pairwise_cons.1 ih).1 c hc)
structure PolOk (t : TOpenTask) (p : List TChoice) : Prop where
  len : p.length ≤ 200
  ord : Ord (p.map TChoice.state)
  set : ∀ c ∈ p, SetN c.state t.facts
  op : ∀ c ∈ p, 0 ≤ c.operator ∧ c.operator < t.operators.length
  can : ∀ c ∈ p, oCan t c.state c.operator
def pSet (t : TOpenTask) (p : List TChoice) (j : Int) (c : TChoice) : Prop := SetN c.state t.facts ∧ ∀ b, 0 < j → ix p (j - 1) = some b → llt b.state c.state
noncomputable def pCode (t : TOpenTask) (p : List TChoice) (j : Int) (c : TChoice) : Int := if dec (pSet t p j c) = true then if dec (0 ≤ c.operator ∧ c.operator < t.operators.length) = true then if dec (oCan t c.state c.operator) = true then 0 else 11 else 3 else 5
theorem pCode_zero {t : TOpenTask} {p : List TChoice} {j : Int} {c : TChoice} : pCode t p j c = 0 → pSet t p j c ∧ (0 ≤ c.operator ∧ c.operator < t.operators.length) ∧ oCan t c.state c.operator := by
  unfold pCode
  by_cases c1 : pSet t p j c
  · rw [ifP c1]
    by_cases c2 : 0 ≤ c.operator ∧ c.operator < t.operators.length
    · rw [ifP c2]
      by_cases c3 : oCan t c.state c.operator
      · rw [ifP c3]; exact fun _ => ⟨c1, c2, c3⟩
      · rw [ifN c3]; exact fun h => by omega
    · rw [ifN c2]; exact fun h => by omega
  · rw [ifN c1]; exact fun h => by omega
theorem pCode_of {t : TOpenTask} {p : List TChoice} (hp : PolOk t p) {j : Int} {c : TChoice} (hc : ix p j = some c) : pCode t p j c = 0 := by
  have hm := ix_mem hc
  unfold pCode
  rw [ifP ⟨hp.set c hm, fun b _ hb => ordMap_get hp.ord hb hc (by omega)⟩, ifP (hp.op c hm), ifP (hp.can c hm)]
theorem pol1 {t : TOpenTask} (ht : OTaskOk t) {p : List TChoice} {j : Int} {c : TChoice} (hl : p.length ≤ 200) (hc : ix p j = some c) : open_ValidatePolicy_l1 t p j () = some (if pCode t p j c = 0 then .inl () else .inr ⟨pCode t p j c, -9 - j⟩) := by
  obtain ⟨j0, j1, _⟩ := ix_lo hc
  have hn := ht.n1
  unfold open_ValidatePolicy_l1
  rw [hc]
  simp only [Option.bind_some, isSet_eq, dec_not]
  have key : (if dec (¬ SetN c.state t.facts) = true then some true else if 0 < j then Option.bind (ix p (j - 1)) fun a40 => Option.bind (slices_Compare_int_int a40.state c.state) fun a45 => some (decide (0 ≤ a45)) else some false) = some (dec (¬ pSet t p j c)) := by
    by_cases g1 : SetN c.state t.facts
    · rw [ifNN g1]
      by_cases g2 : 0 < j
      · rw [if_pos g2]
        obtain ⟨b, hb, _⟩ := ix_of (l := p) (i := j - 1) (by omega) (by omega)
        rw [hb]
        simp only [Option.bind_some, compare_eq, decide_dec]
        refine congrArg some (dec_congr ?_)
        rw [cmpL_ge]
        exact ⟨fun h g => h (g.2 b g2 hb), fun h g => h ⟨g1, fun b' _ hb' => by rw [hb] at hb'; cases hb'; exact g⟩⟩
      · rw [if_neg g2, dec_no]
        exact fun h => h ⟨g1, fun _ g => absurd g g2⟩
    · rw [ifP g1, dec_of (fun h => g1 h.1)]
  rw [key]
  simp only [Option.bind_some]
  rw [w64_of (by omega) (by omega)]
  unfold pCode
  by_cases g1 : pSet t p j c
  · rw [ifNN g1, ifP g1]
    by_cases g2 : 0 ≤ c.operator ∧ c.operator < t.operators.length
    · rw [if_neg (show ¬ ((decide (c.operator < 0)) || (decide ((t.operators.length : Int) ≤ c.operator))) = true by rw [Bool.or_eq_true, decide_eq_true_eq, decide_eq_true_eq]; omega), ifP g2, oCan_eq ht g2.1 g2.2 g1.1]
      simp only [Option.bind_some, dec_not]
      by_cases g3 : oCan t c.state c.operator
      · rw [ifNN g3, ifP g3]; rfl
      · rw [ifP g3, ifN g3]; rfl
    · rw [if_pos (show ((decide (c.operator < 0)) || (decide ((t.operators.length : Int) ≤ c.operator))) = true by rw [Bool.or_eq_true, decide_eq_true_eq, decide_eq_true_eq]; omega), ifN g2]; rfl
  · rw [ifP g1, ifN g1]; rfl
theorem pol2 {t : TOpenTask} (ht : OTaskOk t) {p : List TChoice} {j : Int} {c : TChoice} (hl : p.length ≤ 200) (hw : 0 < j → ∀ b, ix p (j - 1) = some b → b.state.length ≤ 1000000) (hc : ix p j = some c) : ref8_PolicyFault_l1 t p j () = some (if pCode t p j c = 0 then .inl () else .inr ⟨pCode t p j c, -9 - j⟩) := by
  obtain ⟨j0, j1, _⟩ := ix_lo hc
  have hn := ht.n1; have hn0 := ht.n0; have ho := ht.ops
  unfold ref8_PolicyFault_l1
  rw [hc]
  simp only [Option.bind_some, rIsSet_eq (n := t.facts) _ (show -9223372036854775808 < t.facts by omega) (show t.facts ≤ 9223372036854775807 by omega), in_eq, at_eq, dec_not]
  have key : (if dec (¬ SetN c.state t.facts) = true then some true else if 0 < j then Option.bind (ix p (j - 1)) fun a39 => Option.bind (ref7_Before a39.state c.state) fun a47 => some (!a47) else some false) = some (dec (¬ pSet t p j c)) := by
    by_cases g1 : SetN c.state t.facts
    · rw [ifNN g1]
      by_cases g2 : 0 < j
      · rw [if_pos g2]
        obtain ⟨b, hb, _⟩ := ix_of (l := p) (i := j - 1) (by omega) (by omega)
        rw [hb]
        simp only [Option.bind_some, before_eq (hw g2 b hb), dec_not]
        refine congrArg some (dec_congr ?_)
        exact ⟨fun h g => h (g.2 b g2 hb), fun h g => h ⟨g1, fun b' _ hb' => by rw [hb] at hb'; cases hb'; exact g⟩⟩
      · rw [if_neg g2, dec_no]
        exact fun h => h ⟨g1, fun _ g => absurd g g2⟩
    · rw [ifP g1, dec_of (fun h => g1 h.1)]
  rw [key]
  simp only [Option.bind_some]
  rw [w64_of (n := -9 - j) (by omega) (by omega), w64_of (n := (t.operators.length : Int) - 1) (by omega) (by omega)]
  unfold pCode
  by_cases g1 : pSet t p j c
  · rw [ifNN g1, ifP g1]
    by_cases g2 : 0 ≤ c.operator ∧ c.operator < t.operators.length
    · rw [ifN (show ¬ ¬ (0 ≤ c.operator ∧ c.operator ≤ (t.operators.length : Int) - 1) by omega), ifP g2, oApplies_eq g2.1 g2.2]
      simp only [Option.bind_some, dec_not]
      by_cases g3 : oCan t c.state c.operator
      · rw [ifNN g3, ifP g3]; rfl
      · rw [ifP g3, ifN g3]; rfl
    · rw [ifP (show ¬ (0 ≤ c.operator ∧ c.operator ≤ (t.operators.length : Int) - 1) by omega), ifN g2]; rfl
  · rw [ifP g1, ifN g1]; rfl
theorem policy_eq (t : TOpenTask) (p : List TChoice) : ∃ f, open_ValidatePolicy t p = some f ∧ ref8_PolicyFault t p = some f ∧ ((f = ⟨0, 0⟩ ∧ OTaskOk t ∧ PolOk t p) ∨ (f.code ≠ 0 ∧ ¬ (OTaskOk t ∧ PolOk t p))) := by
  obtain ⟨f, h1, h2, h3⟩ := oValidate_eq t
  unfold open_ValidatePolicy ref8_PolicyFault
  rw [h1, h2]
  simp only [Option.bind_some]
  rcases h3 with ⟨rfl, ht⟩ | ⟨hc, hnt⟩
  · rw [if_neg (by simp), if_pos rfl]
    by_cases c1 : 200 < (p.length : Int)
    · rw [if_pos c1, if_pos c1, at_eq]
      exact ⟨_, rfl, rfl, .inr ⟨by simp, fun h => by have := h.2.len; omega⟩⟩
    · rw [if_neg c1, if_neg c1]
      have hn := ht.n1
      have hset : ∀ j : Int, (∀ i, 0 ≤ i → i < j → (match ix p i with | some c => if pCode t p i c = 0 then none else some (⟨pCode t p i c, -9 - i⟩ : TFault) | none => none) = none) → 0 < j → ∀ b, ix p (j - 1) = some b → b.state.length ≤ 1000000 := fun j hj j0 b hb => by
        have := hj (j - 1) (by omega) (by omega)
        rw [hb] at this
        dsimp only at this
        split at this
        · rename_i e
          have := (pCode_zero e).1.1.len
          omega
        · cases this
      rcases rngX_test (body := open_ValidatePolicy_l1 t p) (n := (p.length : Int)) (fun j => match ix p j with | some c => if pCode t p j c = 0 then none else some (⟨pCode t p j c, -9 - j⟩ : TFault) | none => none) (by omega) (fun j h0 h1 _ => by
        obtain ⟨c, e0, _⟩ := ix_of (l := p) h0 h1
        rw [pol1 ht (by omega) e0, e0]
        dsimp only
        split <;> rfl) with ⟨a1, a2⟩ | ⟨j, f, a0, a1, a2, a3, a4⟩
      · rcases rngX_test (body := ref8_PolicyFault_l1 t p) (n := (p.length : Int)) (fun j => match ix p j with | some c => if pCode t p j c = 0 then none else some (⟨pCode t p j c, -9 - j⟩ : TFault) | none => none) (by omega) (fun j h0 h1 hj => by
          obtain ⟨c, e0, _⟩ := ix_of (l := p) h0 h1
          rw [pol2 ht (by omega) (hset j hj) e0, e0]
          dsimp only
          split <;> rfl) with ⟨b1, b2⟩ | ⟨j', f', b0, b1, b2, b3, b4⟩
        · rw [a1, b1]
          have all : ∀ j c, ix p j = some c → pSet t p j c ∧ (0 ≤ c.operator ∧ c.operator < t.operators.length) ∧ oCan t c.state c.operator := fun j c hc => by
            have := a2 j (ix_lo hc).1 (ix_lo hc).2.1
            rw [hc] at this
            dsimp only at this
            split at this
            · rename_i e; exact pCode_zero e
            · cases this
          have all' : ∀ c ∈ p, SetN c.state t.facts ∧ (0 ≤ c.operator ∧ c.operator < t.operators.length) ∧ oCan t c.state c.operator := fun c hc => by
            obtain ⟨j, _, _, hj⟩ := mem_ix hc
            obtain ⟨g1, g2, g3⟩ := all j c hj
            exact ⟨g1.1, g2, g3⟩
          refine ⟨_, rfl, rfl, .inl ⟨rfl, ht, by omega, ord_of_adj fun k a b ha hb => ?_, fun c hc => (all' c hc).1, fun c hc => (all' c hc).2.1, fun c hc => (all' c hc).2.2⟩⟩
          rw [List.getElem?_map] at ha hb
          cases ha' : p[k]? with
          | none => rw [ha'] at ha; cases ha
          | some a' =>
            cases hb' : p[k + 1]? with
            | none => rw [hb'] at hb; cases hb
            | some b' =>
              rw [ha'] at ha; rw [hb'] at hb; cases ha; cases hb
              refine (all ((k + 1 : Nat) : Int) b' (by rw [ix_nat, hb'])).1.2 a' (by omega) ?_
              rw [show ((k + 1 : Nat) : Int) - 1 = (k : Nat) by omega, ix_nat, ha']
        · rw [a2 j' b0 b1] at b2; cases b2
      · rcases rngX_test (body := ref8_PolicyFault_l1 t p) (n := (p.length : Int)) (fun j => match ix p j with | some c => if pCode t p j c = 0 then none else some (⟨pCode t p j c, -9 - j⟩ : TFault) | none => none) (by omega) (fun j h0 h1 hj => by
          obtain ⟨c, e0, _⟩ := ix_of (l := p) h0 h1
          rw [pol2 ht (by omega) (hset j hj) e0, e0]
          dsimp only
          split <;> rfl) with ⟨b1, b2⟩ | ⟨j', f', b0, b1, b2, b3, b4⟩
        · rw [b2 j a0 a1] at a2; cases a2
        · have ej : j = j' := by
            rcases Int.lt_trichotomy j j' with h | h | h
            · rw [b3 j a0 h] at a2; cases a2
            · exact h
            · rw [a3 j' b0 h] at b2; cases b2
          subst ej
          rw [a2] at b2
          cases b2
          rw [a4, b4]
          refine ⟨_, rfl, rfl, .inr ?_⟩
          obtain ⟨c, e0, _⟩ := ix_of (l := p) a0 a1
          rw [e0] at a2
          dsimp only at a2
          split at a2
          · cases a2
          · rename_i e; cases a2; exact ⟨e, fun h => e (pCode_of h.2 e0)⟩
  · rw [if_pos (fault_no hc), if_neg hc]
    exact ⟨f, rfl, rfl, .inr ⟨hc, fun h => hnt h.1⟩⟩
/-! ### What a policy chooses -/
theorem rChosen_eq (p : List TChoice) (s : List Int) : ∃ r, ref8_Chosen p s = some r ∧ ((r = -1 ∧ ∀ c ∈ p, c.state ≠ s) ∨ ∃ c, c ∈ p ∧ c.state = s ∧ r = c.operator) := by
  unfold ref8_Chosen
  rcases rngX_test (body := ref8_Chosen_l1 p s) (n := (p.length : Int)) (fun j => match ix p j with | some c => if dec (c.state = s) = true then some c.operator else none | none => none) (by omega) (fun j h0 h1 _ => by
    obtain ⟨x, hx, _⟩ := ix_of (l := p) h0 h1
    unfold ref8_Chosen_l1
    simp only [hx, Option.bind_some, ints_eq]
    by_cases e : x.state = s
    · rw [ifP e, ifP e]
    · rw [ifN e, ifN e]) with ⟨h1, h2⟩ | ⟨j, o, h0, h1, h2, h3, h4⟩
  · rw [h1]
    refine ⟨-1, rfl, .inl ⟨rfl, fun c hc he => ?_⟩⟩
    obtain ⟨i, i0, i1, hi⟩ := mem_ix hc
    have := h2 i i0 i1
    rw [hi] at this
    dsimp only at this
    rw [ifP he] at this
    cases this
  · rw [h4]
    obtain ⟨c, hc, _⟩ := ix_of (l := p) h0 h1
    rw [hc] at h2
    dsimp only at h2
    split at h2
    · rename_i e
      cases h2
      exact ⟨_, rfl, .inr ⟨c, ix_mem hc, dec_true.1 e, rfl⟩⟩
    · cases h2
theorem chosen_eq {t : TOpenTask} {p : List TChoice} (hp : PolOk t p) (s : List Int) : ∃ r, open_Chosen p s = some r ∧ ref8_Chosen p s = some r ∧ (r = -1 ∨ (0 ≤ r ∧ r < t.operators.length ∧ oCan t s r)) := by
  obtain ⟨r, h1, h2⟩ := rChosen_eq p s
  refine ⟨r, ?_, h1, ?_⟩
  · unfold open_Chosen
    obtain ⟨i, g1, g2, g3⟩ := bsf_eq (key := TChoice.state) (xs := p) (t := s) (cmp := open_Chosen_1) hp.ord (by have := hp.len; omega) (fun a => by unfold open_Chosen_1; rw [compare_eq]; rfl)
    have : slices_BinarySearchFunc_api_Choice_api_Choice_int p s open_Chosen_1 = bsf p s open_Chosen_1 := rfl
    rw [this, g1]
    simp only [Option.bind_some, dec_not]
    rcases h2 with ⟨rfl, h⟩ | ⟨c, hc, he, rfl⟩
    · rw [ifP]
      rintro ⟨a, ha, e⟩; exact h a ha e
    · rw [ifNN ⟨c, hc, he⟩]
      obtain ⟨k, _, _, hk⟩ := mem_ix hc
      have := g3 k c hk he
      subst this
      rw [hk]; rfl
  · rcases h2 with ⟨rfl, h⟩ | ⟨c, hc, he, rfl⟩
    · exact .inl rfl
    · have := hp.op c hc
      exact .inr ⟨this.1, this.2, he ▸ hp.can c hc⟩
end Ab
end
section
namespace Ab
open Go
theorem ix_map {α β : Type} {f : α → β} {l : List α} {i : Int} : ix (l.map f) i = (ix l i).map f := by
  simp only [ix]
  split
  · rw [List.getElem?_map]
  · rfl
theorem Ord.one {l m : List (List Int)} (hl : Ord l) (hm : Ord m) {p : List Int → Prop} (h1 : ∀ y, y ∈ l ↔ p y) (h2 : ∀ y, y ∈ m ↔ p y) : l = m := Ord.ext hl hm fun y => (h1 y).trans (h2 y).symm
theorem cloneLL_eq {s : List (List Int)} (h : s.length ≤ 1000000) : slices_Clone_Lint_int s = some s := by
  rw [slices_Clone_Lint_int, app, if_pos (by simp; omega)]; rfl
theorem results1 {t : TOpenTask} {o : TOpenOperator} (ho : OOk o t.facts) (hn : t.facts ≤ 24) {s : List Int} (hs : SetN s t.facts) : forR 0 (o.outcomes.length : Int) (open_Results_l1 s o) [] = some (o.outcomes.map (efc t.facts s)) := by
  have hl := ho.l1
  obtain ⟨c, h1, h2⟩ := forR_inv (body := open_Results_l1 s o) (n := (o.outcomes.length : Int)) (s := []) (fun j c => c = (o.outcomes.take j.toNat).map (efc t.facts s)) (by omega) (by simp) (fun j c j0 j1 hP => by
    obtain ⟨x, hx, gx⟩ := ix_of (l := o.outcomes) j0 j1
    unfold open_Results_l1
    rw [hx]
    simp only [Option.bind_some]
    rw [oUpdate_eq hn hs (ho.xs x (ix_mem hx)).1]
    simp only [Option.bind_some]
    have hlen : c.length ≤ 4 := by rw [hP, List.length_map, List.length_take]; omega
    rw [app, if_pos (by simp; omega)]
    refine ⟨_, rfl, ?_⟩
    rw [show (j + 1).toNat = j.toNat + 1 by omega, List.take_add_one, gx, hP, List.map_append]; rfl)
  rw [h1, h2]
  simp
theorem oResults_eq {t : TOpenTask} (ht : OTaskOk t) {op : Int} (h0 : 0 ≤ op) (h1 : op < t.operators.length) {s : List Int} (hs : SetN s t.facts) : ∃ st w, open_Results t s op = some (st, w) ∧ Ord st ∧ (∀ y, y ∈ st ↔ ∃ x ∈ (ooAt t op).outcomes, efc t.facts s x = y) ∧ st.length ≤ 4 ∧ w.length = st.length ∧ forR 0 ((ooAt t op).outcomes.length : Int) (open_Results_l2 ((ooAt t op).outcomes.map (efc t.facts s)) st (ooAt t op)) (List.replicate st.length 0) = some w := by
  have ho := ht.at h0 h1
  have hl := ho.l1
  unfold open_Results
  rw [ix_oo h0 h1]
  simp only [Option.bind_some]
  rw [results1 ho ht.n1 hs]
  simp only [Option.bind_some]
  rw [cloneLL_eq (by simp; omega)]
  simp only [Option.bind_some]
  obtain ⟨st, n1, n2, n3, n4⟩ := normal_eq (l := (ooAt t op).outcomes.map (efc t.facts s)) (by simp; omega)
  have n4' : st.length ≤ 4 := by rw [List.length_map] at n4; omega
  have hm : mkL 8 (st.length : Int) (0 : Int) = some (List.replicate st.length 0) := by
    rw [mkL, if_pos (by omega)]; simp
  obtain ⟨w, w1, w2⟩ := forR_inv (body := open_Results_l2 ((ooAt t op).outcomes.map (efc t.facts s)) st (ooAt t op)) (n := ((ooAt t op).outcomes.length : Int)) (s := List.replicate st.length 0) (fun j c => c.length = st.length) (by omega) (by simp) (fun j c j0 j1 hP => by
    obtain ⟨x, hx, gx⟩ := ix_of (l := (ooAt t op).outcomes) j0 j1
    have hmem : efc t.facts s x ∈ st := (n3 _).2 (List.mem_map.2 ⟨x, ix_mem hx, rfl⟩)
    obtain ⟨i, e1, e2, e3⟩ := bsets_eq (t := efc t.facts s x) n2 (by omega)
    obtain ⟨k, k0, k1, hk⟩ := mem_ix hmem
    have := e3 k hk
    subst this
    obtain ⟨z, hz, gz⟩ := ix_of (l := c) (i := k) k0 (by omega)
    unfold open_Results_l2
    rw [hx, ix_map, hx]
    simp only [Option.bind_some, Option.map_some, e1, hz]
    exact ⟨_, rfl, by rw [List.length_set]; exact hP⟩)
  rw [n1]
  simp only [Option.bind_some, hm, w1]
  exact ⟨st, w, rfl, n2, fun y => by rw [n3, List.mem_map], n4', w2, w1⟩
/-! ### The coin -/
end Ab
end
section
namespace Ab
open Go
noncomputable def chO (p : List TChoice) (s : List Int) : Int := (ref8_Chosen p s).getD (-1)
theorem rChosen_chO (p : List TChoice) (s : List Int) : ref8_Chosen p s = some (chO p s) := by
  obtain ⟨r, h, _⟩ := rChosen_eq p s
  rw [chO, h]; rfl
theorem chosen_chO {t : TOpenTask} {p : List TChoice} (hp : PolOk t p) (s : List Int) : open_Chosen p s = some (chO p s) ∧ (chO p s = -1 ∨ (0 ≤ chO p s ∧ chO p s < t.operators.length ∧ oCan t s (chO p s))) := by
  obtain ⟨r, h1, h2, h3⟩ := chosen_eq hp s
  have : chO p s = r := by rw [chO, h2]; rfl
  rw [this]
  exact ⟨h1, h3⟩
theorem ifOr {a b : Prop} : (if dec a = true then some true else some (dec b)) = some (dec (a ∨ b)) := by
  by_cases h : a
  · rw [ifP h, dec_of (.inl h)]
  · rw [ifN h]; exact congrArg some (dec_congr ⟨.inr, fun g => g.resolve_left h⟩)
end Ab
end
section
namespace Ab
open Go
end Ab
end
section
namespace Ab
open Go
/-- A number under 100 in decimal digits. -/
def dg (x : Int) : List Int := if x < 10 then [48 + x] else [48 + x / 10, 48 + x % 10]
def encS (s : List Int) : List Int := s.flatMap (fun x => dg x ++ [44]) ++ [59]
def encK (l : List (List Int)) : List Int := l.flatMap encS
def small (s : List Int) : Prop := ∀ x ∈ s, 0 ≤ x ∧ x < 100
theorem dg_split {x y : Int} (hx : 0 ≤ x ∧ x < 100) (hy : 0 ≤ y ∧ y < 100) {r r' : List Int} (h : dg x ++ 44 :: r = dg y ++ 44 :: r') : x = y ∧ r = r' := by
  unfold dg at h
  split at h <;> split at h <;> simp only [List.cons_append, List.nil_append, List.cons.injEq] at h
  · exact ⟨by omega, h.2.2⟩
  · exfalso; omega
  · exfalso; omega
  · exact ⟨by omega, h.2.2.2⟩
theorem dg_head {x : Int} (hx : 0 ≤ x ∧ x < 100) : ∃ a l, dg x = a :: l ∧ 48 ≤ a ∧ a < 58 := by
  unfold dg
  split
  · exact ⟨_, _, rfl, by omega, by omega⟩
  · exact ⟨_, _, rfl, by omega, by omega⟩
theorem encS_cons (x : Int) (s : List Int) : encS (x :: s) = dg x ++ 44 :: encS s := by simp [encS]
theorem encS_inj : ∀ {s s' r r' : List Int}, small s → small s' → encS s ++ r = encS s' ++ r' → s = s' ∧ r = r'
  | [], [], r, r', _, _, h => by simp [encS] at h; exact ⟨rfl, h⟩
  | [], y :: s', r, r', _, h2, h => by
    obtain ⟨a, l, ha, h3, h4⟩ := dg_head (h2 y (by simp))
    rw [encS_cons, ha] at h
    simp only [encS, List.flatMap_nil, List.nil_append, List.cons_append, List.cons.injEq] at h
    omega
  | x :: s, [], r, r', h1, _, h => by
    obtain ⟨a, l, ha, h3, h4⟩ := dg_head (h1 x (by simp))
    rw [encS_cons, ha] at h
    simp only [encS, List.flatMap_nil, List.nil_append, List.cons_append, List.cons.injEq] at h
    omega
  | x :: s, y :: s', r, r', h1, h2, h => by
    rw [encS_cons, encS_cons, List.append_assoc, List.append_assoc, List.cons_append, List.cons_append] at h
    obtain ⟨rfl, g⟩ := dg_split (h1 x (by simp)) (h2 y (by simp)) h
    obtain ⟨e1, e2⟩ := encS_inj (s := s) (s' := s') (fun z hz => h1 z (List.mem_cons_of_mem _ hz)) (fun z hz => h2 z (List.mem_cons_of_mem _ hz)) g
    exact ⟨by rw [e1], e2⟩
theorem encK_inj : ∀ {l l' : List (List Int)}, (∀ s ∈ l, small s) → (∀ s ∈ l', small s) → encK l = encK l' → l = l'
  | [], [], _, _, _ => rfl
  | [], s :: l', _, _, h => by
    have h := congrArg List.length h
    simp only [encK, encS, List.flatMap_nil, List.flatMap_cons, List.length_append, List.length_nil, List.length_cons] at h
    omega
  | s :: l, [], _, _, h => by
    have h := congrArg List.length h
    simp only [encK, encS, List.flatMap_nil, List.flatMap_cons, List.length_append, List.length_nil, List.length_cons] at h
    omega
  | s :: l, s' :: l', h1, h2, h => by
    have h : encS s ++ encK l = encS s' ++ encK l' := h
    obtain ⟨e1, e2⟩ := encS_inj (h1 s (List.mem_cons_self ..)) (h2 s' (List.mem_cons_self ..)) h
    have e3 := encK_inj (l := l) (l' := l') (fun z hz => h1 z (List.mem_cons_of_mem _ hz)) (fun z hz => h2 z (List.mem_cons_of_mem _ hz)) e2
    rw [e1, e3]
theorem dg_byte {x : Int} (hx : 0 ≤ x ∧ x < 100) : ∀ a ∈ dg x, 0 ≤ a ∧ a < 256 := by
  intro a ha
  unfold dg at ha
  split at ha <;> simp at ha <;> omega
theorem encS_byte {s : List Int} (h : small s) : ∀ a ∈ encS s, 0 ≤ a ∧ a < 256 := by
  intro a ha
  simp only [encS, List.mem_append, List.mem_flatMap, List.mem_singleton] at ha
  rcases ha with ⟨x, hx, h1 | h1⟩ | h1
  · exact dg_byte (h x hx) a h1
  · omega
  · omega
theorem encK_byte {l : List (List Int)} (h : ∀ s ∈ l, small s) : ∀ a ∈ encK l, 0 ≤ a ∧ a < 256 := by
  intro a ha
  simp only [encK, List.mem_flatMap] at ha
  obtain ⟨s, hs, h1⟩ := ha
  exact encS_byte (h s hs) a h1
theorem strB_inj {l l' : List Int} (h1 : ∀ a ∈ l, 0 ≤ a ∧ a < 256) (h2 : ∀ a ∈ l', 0 ≤ a ∧ a < 256) (h : strB l = strB l') : l = l' := by
  have h3 : l.map (fun n => UInt8.ofNat n.toNat) = l'.map (fun n => UInt8.ofNat n.toNat) := by
    have := congrArg ByteArray.data h
    simpa [strB] using this
  have back : ∀ {m : List Int}, (∀ a ∈ m, 0 ≤ a ∧ a < 256) → (m.map (fun n => UInt8.ofNat n.toNat)).map (fun b => (b.toNat : Int)) = m := by
    intro m hm
    rw [List.map_map]
    conv => rhs; rw [← List.map_id m]
    apply List.map_congr_left
    intro a ha
    have := hm a ha
    simp only [Function.comp_apply, id_eq, UInt8.toNat_ofNat']
    omega
  rw [← back h1, ← back h2, h3]
/-- The key of a list of sets. -/
def keyK (l : List (List Int)) : ByteArray := strB (encK l)
theorem keyK_inj {l l' : List (List Int)} (h1 : ∀ s ∈ l, small s) (h2 : ∀ s ∈ l', small s) (h : keyK l = keyK l') : l = l' := encK_inj h1 h2 (strB_inj (encK_byte h1) (encK_byte h2) h)
/-! ### Maps -/
theorem mget_mset {K V : Type} [DecidableEq K] (k k' : K) (v : V) : ∀ m : List (K × V), mget (mset m k v) k' = if k' = k then some v else mget m k'
  | [] => by
    simp only [mset, mget]
  | p :: r => by
    simp only [mset]
    by_cases h : k = p.1
    · rw [if_pos h]
      simp only [mget]
      by_cases h2 : k' = k
      · rw [if_pos h2, if_pos h2]
      · rw [if_neg h2, if_neg h2, if_neg (by rw [← h]; exact h2)]
    · rw [if_neg h]
      simp only [mget]
      rw [mget_mset k k' v r]
      by_cases h2 : k' = p.1
      · rw [if_pos h2, if_pos h2, if_neg (fun e => h (e.symm.trans h2))]
      · rw [if_neg h2, if_neg h2]
end Ab
end
section
namespace Ab
open Go
/-- A list made by appending a piece for each element. -/
theorem forR_flatMap {α β : Type} {l : List α} {body : Int → List β → Option (List β)} (g : α → List β) (N : Nat) (c0 : List β)
    (hb : ∀ j a c, ix l j = some a → c.length + (g a).length ≤ N → body j c = some (c ++ g a)) (hN : c0.length + (l.flatMap g).length ≤ N) :
    forR 0 (l.length : Int) body c0 = some (c0 ++ l.flatMap g) := by
  obtain ⟨s', h1, h2⟩ := forR_inv (body := body) (n := (l.length : Int)) (s := c0) (fun j c => c = c0 ++ (l.take j.toNat).flatMap g) (by omega) (by simp) (fun j c h0 h1 hP => by
    obtain ⟨a, g1, g2⟩ := ix_of h0 h1
    have e : (j + 1).toNat = j.toNat + 1 := by omega
    have ht : l.take (j + 1).toNat = l.take j.toNat ++ [a] := by rw [e, List.take_add_one, g2]; rfl
    refine ⟨c ++ g a, hb j a c g1 ?_, ?_⟩
    · have hs : l = l.take j.toNat ++ [a] ++ l.drop (j + 1).toNat := by rw [← ht, List.take_append_drop]
      have hl : (l.flatMap g).length = ((l.take j.toNat).flatMap g).length + (g a).length + ((l.drop (j + 1).toNat).flatMap g).length := by
        conv => lhs; rw [hs]
        simp [List.flatMap_append]; omega
      rw [hP, List.length_append]; omega
    · rw [ht, List.flatMap_append, hP]; simp)
  rw [h1, h2]
  simp
theorem small_eq : ∀ n : Fin 100, (internal_strconv_small (n : Nat)).map strL = some (dg (n : Nat)) := by decide +kernel
theorem appendInt_eq {x : Int} (hx : 0 ≤ x ∧ x < 100) {l : List Int} (hl : l.length ≤ 1000000) : strconv_AppendInt_w1 x 10 l = some (l ++ dg x) := by
  have h := small_eq ⟨x.toNat, by omega⟩
  rw [show (((⟨x.toNat, by omega⟩ : Fin 100) : Nat) : Int) = x by simp; omega] at h
  obtain ⟨b, h1, h2⟩ := Option.map_eq_some_iff.1 h
  first
    | unfold strconv_AppendInt_w1 internal_strconv_AppendInt_w1 internal_strconv_AppendUint_w1
    | unfold strconv_AppendInt_w1 internal_strconv_AppendInt_w2 internal_strconv_AppendUint_w3
  rw [if_neg (by omega), IntKind.wrap_u64, Int.emod_eq_of_lt (by omega) (by omega)]
  simp only [Option.bind_some, if_true]
  rw [if_pos hx.2, w64_of (by omega) (by omega), h1]
  simp only [Option.bind_some, h2]
  have : (dg x).length ≤ 2 := by unfold dg; split <;> simp
  rw [app, if_pos (by omega)]
  rfl
theorem dg_len (x : Int) : (dg x).length ≤ 2 := by unfold dg; split <;> simp
theorem key_eq {l : List (List Int)} (hs : ∀ s ∈ l, small s) (hN : (encK l).length ≤ 900000) : belief_Key l = some (keyK l) := by
  unfold belief_Key
  rw [forR_flatMap encS 900000 [] (fun j s c hj hc => by
    unfold belief_Key_l1
    rw [hj]
    simp only [Option.bind_some]
    have hlen : (encS s).length = (s.flatMap fun x => dg x ++ [44]).length + 1 := by simp [encS]
    rw [forR_flatMap (fun x => dg x ++ [44]) 900000 c (fun i x c' hi hc' => by
      unfold belief_Key_l2
      rw [hi]
      simp only [List.length_append, List.length_singleton] at hc'
      simp only [Option.bind_some, appendInt_eq (hs s (ix_mem hj) x (ix_mem hi)) (l := c') (by omega)]
      rw [app, if_pos (by simp; omega)]
      simp) (by omega)]
    simp only [Option.bind_some]
    rw [app, if_pos (by rw [List.length_append]; simp only [List.length_singleton]; omega)]
    simp [encS]) (by simpa [encK] using hN)]
  rfl
theorem encS_len : ∀ s : List Int, (encS s).length ≤ 3 * s.length + 1
  | [] => by simp [encS]
  | x :: s => by
    have := encS_len s
    have := dg_len x
    rw [encS_cons]
    simp only [List.length_append, List.length_cons]
    omega
end Ab
end
section
namespace Ab
open Go
/-! ### Loops side by side -/
/-! ### States as' numbers -/
def wsN : List Int → Nat
  | [] => 0
  | a :: l => 2 ^ a.toNat + wsN l
theorem wsN_dvd {k : Nat} : ∀ {l : List Int}, (∀ x ∈ l, k ≤ x.toNat) → 2 ^ k ∣ wsN l
  | [], _ => ⟨0, rfl⟩
  | a :: l, h => Nat.dvd_add (Nat.pow_dvd_pow 2 (h a (by simp))) (wsN_dvd fun x hx => h x (List.mem_cons_of_mem _ hx))
theorem two_pow_no {k : Nat} (h : 2 ^ (k + 1) ∣ 2 ^ k) : False := by
  have h1 := Nat.le_of_dvd (Nat.two_pow_pos k) h
  have h2 := Nat.two_pow_pos k
  rw [Nat.pow_succ] at h1
  omega
theorem wsN_ne {a : Int} {l m : List Int} (ha : 0 ≤ a) (hl : ∀ x ∈ l, a < x) (hm : ∀ x ∈ m, a < x) : wsN (a :: l) ≠ wsN m := fun h => by
  have d1 : 2 ^ (a.toNat + 1) ∣ wsN l := wsN_dvd fun x hx => by have := hl x hx; omega
  have d2 : 2 ^ (a.toNat + 1) ∣ wsN m := wsN_dvd fun x hx => by have := hm x hx; omega
  rw [← h, wsN] at d2
  exact two_pow_no ((Nat.dvd_add_left d1).1 d2)
theorem wsN_inj : ∀ {l m : List Int}, Inc l → Inc m → (∀ x ∈ l, 0 ≤ x) → (∀ x ∈ m, 0 ≤ x) → wsN l = wsN m → l = m
  | [], [], _, _, _, _, _ => rfl
  | [], b :: m, _, _, _, _, h => by
    have := Nat.two_pow_pos b.toNat
    simp only [wsN] at h; omega
  | a :: l, [], _, _, _, _, h => by
    have := Nat.two_pow_pos a.toNat
    simp only [wsN] at h; omega
  | a :: l, b :: m, h1, h2, h3, h4, h => by
    obtain ⟨l1, l2⟩ := List.pairwise_cons.1 h1
    obtain ⟨m1, m2⟩ := List.pairwise_cons.1 h2
    rcases Int.lt_trichotomy a b with c | c | c
    · exact absurd h (wsN_ne (h3 a (by simp)) l1 fun x hx => by
        rcases List.mem_cons.1 hx with rfl | hx
        · exact c
        · have := m1 x hx; omega)
    · subst c
      simp only [wsN] at h
      rw [wsN_inj l2 m2 (fun x hx => h3 x (List.mem_cons_of_mem _ hx)) (fun x hx => h4 x (List.mem_cons_of_mem _ hx)) (by omega)]
    · exact absurd h.symm (wsN_ne (h4 b (by simp)) m1 fun x hx => by
        rcases List.mem_cons.1 hx with rfl | hx
        · exact c
        · have := l1 x hx; omega)
theorem SetN.word_inj {s s' : List Int} {n : Int} (h : SetN s n) (h' : SetN s' n) (e : wsN s = wsN s') : s = s' :=
  wsN_inj h.1 h'.1 (fun x hx => (h.2 x hx).1) (fun x hx => (h'.2 x hx).1) e
theorem SetN.small {s : List Int} {n : Int} (h : SetN s n) (hn : n ≤ 24) : small s := fun x hx => by have := h.2 x hx; omega
theorem key1_eq {s : List Int} (hs : small s) (h1 : s.length ≤ 1000) : belief_Key [s] = some (keyK [s]) := by
  refine key_eq (by simpa using hs) ?_
  have := encS_len s
  simp only [encK, List.flatMap_cons, List.flatMap_nil, List.length_append, List.append_nil]
  omega
theorem SetN.key_inj {s s' : List Int} {n : Int} (hn : n ≤ 24) (h : SetN s n) (h' : SetN s' n) (e : keyK [s] = keyK [s']) : s = s' := by
  have := keyK_inj (l := [s]) (l' := [s']) (by simpa using h.small hn) (by simpa using h'.small hn) e
  simpa using this
theorem oAfter_eq {t : TOpenTask} (ht : OTaskOk t) {op : Int} (h0 : 0 ≤ op) (h1 : op < t.operators.length) {s : List Int} (hs : SetN s t.facts) : ref8_After t s op = open_Results t s op := by
  obtain ⟨st, w, r1, r2, r3, r4, r5, r6⟩ := oResults_eq ht h0 h1 hs
  have ho := ht.at h0 h1
  have hl := ho.l1
  have hn := ht.n1
  rw [r1]
  unfold ref8_After
  rw [ix_oo h0 h1]
  simp only [Option.bind_some]
  obtain ⟨l, a1, a2, a3, a4, a5⟩ := forR_inv (body := ref8_After_l1 t s (ooAt t op)) (n := ((ooAt t op).outcomes.length : Int)) (s := []) (fun j l => Ord l ∧ (l.length : Int) ≤ j ∧ (∀ y ∈ l, y.length ≤ 24) ∧ ∀ y, y ∈ l ↔ ∃ k x, k < j ∧ ix (ooAt t op).outcomes k = some x ∧ efc t.facts s x = y) (by omega) ⟨.nil, by simp, by simp, fun y => ⟨fun h => by (cases h), fun ⟨k, x, k1, k2, _⟩ => by have := (ix_lo k2).1; omega⟩⟩ (fun j l j0 j1 ⟨p1, p2, p3, p4⟩ => by
    obtain ⟨x, hx, _⟩ := ix_of (l := (ooAt t op).outcomes) j0 j1
    unfold ref8_After_l1
    rw [hx]
    simp only [Option.bind_some, effect_eq ht]
    obtain ⟨l', m1, m2, m3, m4⟩ := insert_eq p1 (by omega) (fun y hy => by have := p3 y hy; omega) (efc t.facts s x)
    rw [m1]
    have e24 := (setN_efc t.facts s x).len
    refine ⟨l', rfl, m2, by omega, fun y hy => ?_, fun y => ?_⟩
    · rcases (m3 y).1 hy with rfl | h
      · omega
      · exact p3 y h
    · rw [m3, p4]
      constructor
      · rintro (rfl | ⟨k, x', k1, k2⟩)
        · exact ⟨j, x, by omega, hx, rfl⟩
        · exact ⟨k, x', by omega, k2⟩
      · rintro ⟨k, x', k1, k2, k3⟩
        by_cases ek : k = j
        · subst ek
          rw [hx] at k2; cases k2
          exact .inl k3.symm
        · exact .inr ⟨k, x', by omega, k2, k3⟩)
  have hst : l = st := Ord.ext a2 r2 fun y => by
    rw [a5, r3]
    constructor
    · rintro ⟨k, x, _, k2, k3⟩; exact ⟨x, ix_mem k2, k3⟩
    · rintro ⟨x, hx, k3⟩
      obtain ⟨k, k0, k1, k2⟩ := mem_ix hx
      exact ⟨k, x, k1, k2, k3⟩
  subst hst
  have hm : mkL 8 (l.length : Int) (0 : Int) = some (List.replicate l.length 0) := by
    rw [mkL, if_pos (by omega)]; simp
  rw [a1]
  simp only [Option.bind_some, hm]
  have e : forR 0 ((ooAt t op).outcomes.length : Int) (ref8_After_l2 t s (ooAt t op) l) (List.replicate l.length 0) = some w := by
    rw [← r6]
    refine forR_congr fun j c j0 j1 => ?_
    obtain ⟨x, hx, _⟩ := ix_of (l := (ooAt t op).outcomes) j0 j1
    obtain ⟨i, e1, e2, e3⟩ := bsets_eq (t := efc t.facts s x) r2 (by omega)
    obtain ⟨r, g1, g2⟩ := place_eq l (efc t.facts s x)
    unfold ref8_After_l2 open_Results_l2
    rw [hx, ix_map, hx]
    simp only [Option.bind_some, Option.map_some, effect_eq ht, e1, g1]
    rcases g2 with ⟨_, h⟩ | ⟨_, _, h, _⟩
    · exact absurd ((r3 _).2 ⟨x, ix_mem hx, rfl⟩) h
    · rw [e3 r h]
  rw [e]
  rfl
end Ab
end
section
namespace Ab
open Go
def Ext (a b : List (List Int)) : Prop := ∀ k y, ix a k = some y → ix b k = some y
theorem Ext.refl (a : List (List Int)) : Ext a a := fun _ _ h => h
theorem Ext.mem {a b : List (List Int)} (h : Ext a b) {y : List Int} (hy : y ∈ a) : y ∈ b := by
  obtain ⟨k, _, _, hk⟩ := mem_ix hy
  exact ix_mem (h k y hk)
theorem Ext.snoc {a b : List (List Int)} (h : Ext a b) (z : List Int) : Ext a (b ++ [z]) := fun k y hk => by
  obtain ⟨i0, i1, g⟩ := ix_lo (h k y hk)
  rw [ix, if_pos i0, List.getElem?_append_left (by omega), g]
theorem Ext.len {a b : List (List Int)} (h : Ext a b) : a.length ≤ b.length := by
  by_cases c : a.length = 0
  · omega
  · obtain ⟨y, hy, _⟩ := ix_of (l := a) (i := (a.length : Int) - 1) (by omega) (by omega)
    have := (ix_lo (h _ y hy)).2.1
    omega
structure Rc (t : TOpenTask) (l : List (List Int)) (m : List (ByteArray × Int)) (ws : List Int) : Prop where
  set : ∀ s ∈ l, SetN s t.facts
  len : l.length ≤ 2000
  map : ∀ s, SetN s t.facts → (0 < Option.getD (mget m (keyK [s])) 0 ↔ s ∈ l)
  wrd : ws = l.map fun s => (wsN s : Int)
theorem Rc.has {t : TOpenTask} {l : List (List Int)} {m : List (ByteArray × Int)} {ws : List Int} (h : Rc t l m ws) {s : List Int} (hs : SetN s t.facts) : (wsN s : Int) ∈ ws ↔ s ∈ l := by
  rw [h.wrd, List.mem_map]
  constructor
  · rintro ⟨a, ha, e⟩
    have : a = s := (h.set a ha).word_inj hs (by omega)
    exact this ▸ ha
  · intro hm; exact ⟨s, hm, rfl⟩
/-- What follows a state lies in a list, for the first operators. -/
def ClS (t : TOpenTask) (l : List (List Int)) (s : List Int) (n : Int) : Prop := ∀ op : Int, 0 ≤ op → op < n → oCan t s op → ∀ x ∈ (ooAt t op).outcomes, efc t.facts s x ∈ l
/-- What is known of the states that are reached. -/
structure Cl (t : TOpenTask) (l : List (List Int)) : Prop where
  len : l.length ≤ 2000
  set : ∀ s ∈ l, SetN s t.facts
  init : t.init ∈ l
  closed : ∀ s ∈ l, ClS t l s t.operators.length
theorem explore_ok {t : TOpenTask} (ht : OTaskOk t) : open_Explore t = (open_Reach t).bind fun r => if r.2 = true then some (r.1, ⟨0, 0⟩) else some ([], ⟨10, -7⟩) := by
  obtain ⟨f, h1, _, h3⟩ := oValidate_eq t
  rcases h3 with ⟨rfl, _⟩ | ⟨_, hn⟩
  · unfold open_Explore
    rw [h1]
    simp only [Option.bind_some]
    rw [if_neg (by simp)]
    congr 1
    funext r
    cases r.2 <;> rfl
  · exact absurd ht hn
end Ab
end
section
namespace Ab
open Go
theorem nodup_len {α : Type} [DecidableEq α] : ∀ {c S : List α}, c.Nodup → (∀ x ∈ c, x ∈ S) → c.length ≤ S.length
  | [], _, _, _ => Nat.zero_le _
  | a :: c, S, h, hs => by
    obtain ⟨h1, h2⟩ := List.nodup_cons.1 h
    have ha := hs a (by simp)
    have := nodup_len (c := c) (S := S.erase a) h2 fun x hx => by
      have hne : x ≠ a := fun e => h1 (e ▸ hx)
      exact (List.mem_erase_of_ne hne).2 (hs x (List.mem_cons_of_mem _ hx))
    rw [List.length_erase_of_mem ha] at this
    have : 0 < S.length := List.length_pos_of_mem ha
    simp only [List.length_cons]
    omega
section
variable {α : Type}
/-- Surely over within k steps. -/
def Dn (G L : α → Prop) (nx : α → List α) : Nat → α → Prop
  | 0, s => G s
  | k + 1, s => G s ∨ (L s ∧ ∀ y ∈ nx s, Dn G L nx k y)
variable {G L : α → Prop} {nx : α → List α}
theorem Dn.goal {k : Nat} {s : α} (h : G s) : Dn G L nx k s := by
  cases k with
  | zero => exact h
  | succ k => exact .inl h
theorem Dn.succ : ∀ {k : Nat} {s : α}, Dn G L nx k s → Dn G L nx (k + 1) s
  | 0, s, h => .inl h
  | k + 1, s, h => by
    rcases h with h | ⟨h1, h2⟩
    · exact .inl h
    · exact .inr ⟨h1, fun y hy => (h2 y hy).succ⟩
theorem Dn.mono {k m : Nat} {s : α} (h : Dn G L nx k s) (hm : k ≤ m) : Dn G L nx m s := by
  induction hm with
  | refl => exact h
  | step _ ih => exact ih.succ
/-- The exact number of steps in the worst case. -/
def Ht (G L : α → Prop) (nx : α → List α) (k : Nat) (s : α) : Prop := Dn G L nx k s ∧ ∀ j, j < k → ¬ Dn G L nx j s
theorem Ht.unique {k m : Nat} {s : α} (h : Ht G L nx k s) (h' : Ht G L nx m s) : k = m := by
  rcases Nat.lt_trichotomy k m with c | c | c
  · exact absurd h.1 (h'.2 k c)
  · exact c
  · exact absurd h'.1 (h.2 m c)
theorem Ht.le {k m : Nat} {s : α} (h : Ht G L nx k s) (h' : Dn G L nx m s) : k ≤ m := by
  rcases Nat.lt_or_ge m k with c | c
  · exact absurd h' (h.2 m c)
  · exact c
theorem Ht.of_dn : ∀ {k : Nat} {s : α}, Dn G L nx k s → ∃ m, m ≤ k ∧ Ht G L nx m s
  | 0, s, h => ⟨0, Nat.le_refl _, h, fun j hj => by omega⟩
  | k + 1, s, h => by
    by_cases c : Dn G L nx k s
    · obtain ⟨m, h1, h2⟩ := Ht.of_dn c
      exact ⟨m, by omega, h2⟩
    · exact ⟨k + 1, Nat.le_refl _, h, fun j hj hd => c (hd.mono (by omega))⟩
theorem Ht.zero {s : α} (h : G s) : Ht G L nx 0 s := ⟨h, fun j hj => by omega⟩
theorem Ht.goal {k : Nat} {s : α} (h : Ht G L nx k s) (hg : G s) : k = 0 := h.unique (.zero hg)
/-- A state that is not over has a successor one step nearer, and none further. -/
theorem Ht.step {k : Nat} {s : α} (h : Ht G L nx k s) (hg : ¬ G s) (hne : ∀ s, L s → nx s ≠ []) : ∃ m, k = m + 1 ∧ L s ∧ (∀ y ∈ nx s, ∃ j, j ≤ m ∧ Ht G L nx j y) ∧ ∃ y ∈ nx s, Ht G L nx m y := by
  cases k with
  | zero => exact absurd h.1 hg
  | succ m =>
    rcases h.1 with g | ⟨h1, h2⟩
    · exact absurd g hg
    · refine ⟨m, rfl, h1, fun y hy => Ht.of_dn (h2 y hy), ?_⟩
      cases m with
      | zero =>
        obtain ⟨y, hy⟩ := List.exists_mem_of_ne_nil _ (hne s h1)
        exact ⟨y, hy, h2 y hy, fun j hj => by omega⟩
      | succ m =>
        have hn := h.2 (m + 1) (by omega)
        have : ∃ y ∈ nx s, ¬ Dn G L nx m y := Classical.byContradiction fun hc => hn (.inr ⟨h1, fun y hy => Classical.byContradiction fun hy2 => hc ⟨y, hy, hy2⟩⟩)
        obtain ⟨y, hy, hy2⟩ := this
        exact ⟨y, hy, h2 y hy, fun j hj hd => hy2 (hd.mono (by omega))⟩
/-- The other way round. -/
theorem Ht.of_succ {m : Nat} {s : α} (hg : ¬ G s) (hL : L s) (h1 : ∀ y ∈ nx s, ∃ j, j ≤ m ∧ Ht G L nx j y) (h2 : ∃ y ∈ nx s, Ht G L nx m y) : Ht G L nx (m + 1) s := by
  refine ⟨.inr ⟨hL, fun y hy => by obtain ⟨j, hj, h⟩ := h1 y hy; exact h.1.mono hj⟩, fun j hj hd => ?_⟩
  cases j with
  | zero => exact hg hd
  | succ j =>
    rcases hd with g | ⟨_, hd⟩
    · exact hg g
    · obtain ⟨y, hy, h⟩ := h2
      have := h.le (hd y hy)
      omega
theorem Ht.chain [DecidableEq α] {S : List α} (hcl : ∀ s ∈ S, ¬ G s → L s → ∀ y ∈ nx s, y ∈ S) (hne : ∀ s, L s → nx s ≠ []) : ∀ {k : Nat} {s : α}, Ht G L nx k s → s ∈ S → ∃ c : List α, c.length = k + 1 ∧ c.Nodup ∧ (∀ x ∈ c, x ∈ S) ∧ ∀ x ∈ c, ∃ j, j ≤ k ∧ Ht G L nx j x
  | 0, s, h, hs => ⟨[s], rfl, by simp, by simpa using hs, fun x hx => ⟨0, Nat.le_refl _, by simp only [List.mem_singleton] at hx; exact hx ▸ h⟩⟩
  | k + 1, s, h, hs => by
    have hg : ¬ G s := fun g => by have := h.goal g; omega
    obtain ⟨m, e, hL, _, y, hy, hy2⟩ := h.step hg hne
    have : m = k := by omega
    subst this
    obtain ⟨c, c1, c2, c3, c4⟩ := Ht.chain hcl hne hy2 (hcl s hs hg hL y hy)
    refine ⟨s :: c, by simp [c1], List.nodup_cons.2 ⟨fun hc => ?_, c2⟩, fun x hx => ?_, fun x hx => ?_⟩
    · obtain ⟨j, hj, hj2⟩ := c4 s hc
      have := hj2.unique h
      omega
    · rcases List.mem_cons.1 hx with rfl | hx
      · exact hs
      · exact c3 x hx
    · rcases List.mem_cons.1 hx with rfl | hx
      · exact ⟨_, Nat.le_refl _, h⟩
      · obtain ⟨j, hj, hj2⟩ := c4 x hx
        exact ⟨j, by omega, hj2⟩
/-- Heights are smaller than the number of states. -/
theorem Ht.lt [DecidableEq α] {S : List α} (hcl : ∀ s ∈ S, ¬ G s → L s → ∀ y ∈ nx s, y ∈ S) (hne : ∀ s, L s → nx s ≠ []) {k : Nat} {s : α} (h : Ht G L nx k s) (hs : s ∈ S) : k < S.length := by
  obtain ⟨c, c1, c2, c3, _⟩ := Ht.chain hcl hne h hs
  have := nodup_len c2 c3
  omega
end
end Ab
end
section
namespace Ab
open Go
def GoalS (t : TOpenTask) (s : List Int) : Prop := ∀ x ∈ t.goal, x ∈ s
noncomputable def LiveS (p : List TChoice) (s : List Int) : Prop := 0 ≤ chO p s
noncomputable def nxS (t : TOpenTask) (p : List TChoice) (s : List Int) : List (List Int) := (ooAt t (chO p s)).outcomes.map (efc t.facts s)
inductive Rch (t : TOpenTask) (p : List TChoice) : List Int → Prop
  | init : Rch t p t.init
  | step {s y : List Int} : Rch t p s → ¬ GoalS t s → LiveS p s → y ∈ nxS t p s → Rch t p y
theorem chO_mem {p : List TChoice} {s : List Int} (h : 0 ≤ chO p s) : ∃ c ∈ p, c.state = s ∧ chO p s = c.operator := by
  obtain ⟨r, h1, h2⟩ := rChosen_eq p s
  have e : chO p s = r := by rw [chO, h1]; rfl
  rw [e] at h ⊢
  rcases h2 with ⟨rfl, _⟩ | ⟨c, h3, h4, h5⟩
  · omega
  · exact ⟨c, h3, h4, h5⟩
theorem live_op {t : TOpenTask} {p : List TChoice} (hp : PolOk t p) {s : List Int} (h : LiveS p s) : (0 ≤ chO p s ∧ chO p s < t.operators.length) ∧ oCan t s (chO p s) := by
  obtain ⟨_, e⟩ := chosen_chO hp s
  unfold LiveS at h
  rcases e with e | e
  · omega
  · exact ⟨⟨e.1, e.2.1⟩, e.2.2⟩
theorem Rch.set {t : TOpenTask} (ht : OTaskOk t) {p : List TChoice} {s : List Int} (h : Rch t p s) : SetN s t.facts := by
  cases h with
  | init => exact ht.init
  | step _ _ _ hy =>
    obtain ⟨x, _, rfl⟩ := List.mem_map.1 hy
    exact setN_efc _ _ _
/-- All states that can be met. -/
noncomputable def candK (t : TOpenTask) (p : List TChoice) : List (List Int) := t.init :: p.flatMap fun c => (ooAt t c.operator).outcomes.map (efc t.facts c.state)
theorem flat_len {α β : Type} {f : α → List β} {n : Nat} : ∀ {l : List α}, (∀ a ∈ l, (f a).length ≤ n) → (l.flatMap f).length ≤ l.length * n
  | [], _ => by simp
  | a :: l, h => by
    have h1 := h a (by simp)
    have h2 := flat_len (l := l) fun b hb => h b (List.mem_cons_of_mem _ hb)
    rw [List.flatMap_cons, List.length_append, List.length_cons, Nat.succ_mul]
    omega
theorem candK_len {t : TOpenTask} (ht : OTaskOk t) {p : List TChoice} (hp : PolOk t p) : (candK t p).length ≤ 801 := by
  have h := flat_len (f := fun c : TChoice => (ooAt t c.operator).outcomes.map (efc t.facts c.state)) (n := 4) (l := p) fun c hc => by
    have := hp.op c hc
    have := (ht.at this.1 this.2).l1
    simpa using this
  have := hp.len
  have h2 : p.length * 4 ≤ 200 * 4 := Nat.mul_le_mul_right _ this
  unfold candK
  rw [List.length_cons]
  omega
theorem Rch.cand {t : TOpenTask} {p : List TChoice} {s : List Int} (h : Rch t p s) : s ∈ candK t p := by
  cases h with
  | init => exact List.mem_cons_self ..
  | @step s y _ _ hl hy =>
    obtain ⟨c, h1, h2, h3⟩ := chO_mem hl
    refine List.mem_cons_of_mem _ (List.mem_flatMap.2 ⟨c, h1, ?_⟩)
    unfold nxS at hy
    rw [h3] at hy
    rw [h2]
    exact hy
theorem rch_len {t : TOpenTask} (ht : OTaskOk t) {p : List TChoice} (hp : PolOk t p) {l : List (List Int)} (hn : l.Nodup) (h : ∀ s ∈ l, Rch t p s) : l.length ≤ 801 :=
  Nat.le_trans (nodup_len hn fun s hs => (h s hs).cand) (candK_len ht hp)
theorem Ord.nodup {l : List (List Int)} (h : Ord l) : l.Nodup := List.Pairwise.imp (fun {a b : List Int} (hab : llt a b) (e : a = b) => llt_irrefl a (by rw [← e] at hab; exact hab)) h
/-- What follows a state that is left lies in l. -/
def ClV (t : TOpenTask) (p : List TChoice) (l : List (List Int)) (s : List Int) : Prop := ¬ GoalS t s → LiveS p s → ∀ y ∈ nxS t p s, y ∈ l
/-- The states that a policy meets, in order. -/
structure Vis (t : TOpenTask) (p : List TChoice) (l : List (List Int)) : Prop where
  ord : Ord l
  mem : ∀ s, s ∈ l ↔ Rch t p s
theorem vis_of {t : TOpenTask} {p : List TChoice} {l : List (List Int)} (ho : Ord l) (hi : t.init ∈ l) (hr : ∀ s ∈ l, Rch t p s) (hc : ∀ s ∈ l, ClV t p l s) : Vis t p l := by
  refine ⟨ho, fun s => ⟨hr s, fun h => ?_⟩⟩
  induction h with
  | init => exact hi
  | step _ hg hl hy ih => exact hc _ ih hg hl _ hy
theorem Vis.unique {t : TOpenTask} {p : List TChoice} {l m : List (List Int)} (h : Vis t p l) (h' : Vis t p m) : l = m := Ord.one h.ord h'.ord h.mem h'.mem
theorem containsLL_eq {l : List (List Int)} {s : List Int} : slices_ContainsFunc_LLint l (fun y => open_Visited_1 y s) = some (dec (s ∈ l)) := by
  unfold slices_ContainsFunc_LLint slices_IndexFunc_LLint
  rcases rngX_test (body := slices_IndexFunc_LLint_l1 l fun y => open_Visited_1 y s) (n := (l.length : Int)) (fun j => if dec (ix l j = some s) = true then some j else none) (by omega) (fun j h0 h1 _ => by
    obtain ⟨x, hx, _⟩ := ix_of (l := l) h0 h1
    unfold slices_IndexFunc_LLint_l1 open_Visited_1
    rw [hx]
    simp only [Option.bind_some, equal_eq]
    by_cases e : x = s
    · rw [ifP e, ifP (by rw [e])]
    · rw [ifN e, ifN (by simpa using e)]) with ⟨h1, h2⟩ | ⟨j, o, h0, h1, h2, h3, h4⟩
  · rw [h1]
    simp only [Option.bind_some]
    rw [dec_no]
    · rfl
    · intro hs
      obtain ⟨i, i0, i1, hi⟩ := mem_ix hs
      have := h2 i i0 i1
      rw [ifP hi] at this
      cases this
  · rw [h4]
    split at h2
    · rename_i e
      cases h2
      simp only [Option.bind_some]
      rw [dec_of (ix_mem (dec_true.1 e)), decide_eq_true h0]
    · cases h2
theorem vis4 {t : TOpenTask} (ht : OTaskOk t) {p : List TChoice} (hp : PolOk t p) {s : List Int} (hs : Rch t p s) (hg : ¬ GoalS t s) (hl : LiveS p s) {st : List (List Int)} {w : List Int} (hst : ∀ y, y ∈ st ↔ y ∈ nxS t p s) {l0 : List (List Int)} (hn : l0.Nodup) (hr : ∀ s ∈ l0, Rch t p s) :
    ∃ l, forR 0 (st.length : Int) (open_Visited_l2 (st, w)) l0 = some l ∧ l.Nodup ∧ (∀ s ∈ l, Rch t p s) ∧ Ext l0 l ∧ ∀ y ∈ st, y ∈ l := by
  obtain ⟨l, h1, h2, h3, h4, h5⟩ := forR_inv (body := open_Visited_l2 (st, w)) (n := (st.length : Int)) (s := l0) (fun j l => l.Nodup ∧ (∀ s ∈ l, Rch t p s) ∧ Ext l0 l ∧ ∀ k y, k < j → ix st k = some y → y ∈ l) (by omega) ⟨hn, hr, .refl _, fun k y hk h => by have := (ix_lo h).1; omega⟩ (fun j l j0 j1 ⟨a1, a2, a3, a4⟩ => by
    obtain ⟨y, hy, _⟩ := ix_of (l := st) j0 j1
    unfold open_Visited_l2
    dsimp only
    rw [hy]
    simp only [Option.bind_some, containsLL_eq, dec_not]
    have mono : ∀ {l2 : List (List Int)}, Ext l l2 → y ∈ l2 → ∀ k z, k < j + 1 → ix st k = some z → z ∈ l2 := fun h1 h2 k z hk hz => by
      by_cases ek : k = j
      · subst ek; rw [hy] at hz; cases hz; exact h2
      · exact h1.mem (a4 k z (by omega) hz)
    have hry : Rch t p y := .step hs hg hl ((hst y).1 (ix_mem hy))
    by_cases c : y ∈ l
    · rw [ifNN c]
      exact ⟨l, rfl, a1, a2, a3, mono (.refl _) c⟩
    · have hlen := rch_len ht hp a1 a2
      rw [ifP c, app, if_pos (by simp; omega)]
      refine ⟨_, rfl, List.nodup_append.2 ⟨a1, by simp, fun a ha b hb => ?_⟩, fun z hz => ?_, a3.snoc _, mono ((Ext.refl _).snoc _) (by simp)⟩
      · simp only [List.mem_singleton] at hb; subst hb; exact fun e => c (e ▸ ha)
      · rcases List.mem_append.1 hz with g | g
        · exact a2 z g
        · simp only [List.mem_singleton] at g; exact g ▸ hry)
  refine ⟨l, h1, h2, h3, h4, fun y hy => ?_⟩
  obtain ⟨k, _, k1, hk⟩ := mem_ix hy
  exact h5 k y k1 hk
theorem oVisited_eq {t : TOpenTask} (ht : OTaskOk t) {p : List TChoice} (hp : PolOk t p) : ∃ l, open_Visited t p = some l ∧ Vis t p l := by
  have hn := ht.n1
  have hil := ht.init.len
  unfold open_Visited
  rw [clone_eq (by omega)]
  simp only [Option.bind_some]
  obtain ⟨l, h1, h2, h3, h4, h5⟩ := Loop_inv (body := open_Visited_l1 t p) (fun q => q.1.Nodup ∧ (∀ s ∈ q.1, Rch t p s) ∧ t.init ∈ q.1 ∧ (0 ≤ q.2 ∧ q.2 ≤ q.1.length) ∧ ∀ i s, i < q.2 → ix q.1 i = some s → ClV t p q.1 s) (fun l => l.Nodup ∧ (∀ s ∈ l, Rch t p s) ∧ t.init ∈ l ∧ ∀ s ∈ l, ClV t p l s) (fun q => (801 - q.2).toNat) (s := ([t.init], 0)) ⟨by simp, by simpa using Rch.init, by simp, by simp, fun i s hi h => by have := (ix_lo h).1; dsimp only at hi; omega⟩ (fun ⟨l, a⟩ ⟨g1, g2, g3, g4, g5⟩ => by
    dsimp only at g1 g2 g3 g4 g5 ⊢
    have hlen := rch_len ht hp g1 g2
    unfold open_Visited_l1
    dsimp only
    by_cases c : a < l.length
    · rw [if_pos c]
      obtain ⟨s, hs, _⟩ := ix_of (l := l) g4.1 c
      have hrs := g2 s (ix_mem hs)
      have hset := hrs.set ht
      have hsl := hset.len
      rw [hs]
      simp only [Option.bind_some, (chosen_chO hp s).1, contains_eq hset.1 ht.goal.1 (show s.length ≤ 1000000 by omega)]
      have key : (if chO p s < 0 then some true else some (dec (∀ x ∈ t.goal, x ∈ s))) = some (dec (chO p s < 0 ∨ GoalS t s)) := by
        unfold GoalS
        rw [← ifOr]
        by_cases h : chO p s < 0
        · rw [if_pos h, ifP h]
        · rw [if_neg h, ifN h]
      rw [key]
      simp only [Option.bind_some]
      have fin : ∀ {l2 : List (List Int)}, Ext l l2 → ClV t p l2 s → ∀ i z, i < a + 1 → ix l2 i = some z → ClV t p l2 z := fun h1 h2 i z hi hz => by
        by_cases ei : i = a
        · subst ei
          rw [h1 _ _ hs] at hz; cases hz; exact h2
        · obtain ⟨y, hy, _⟩ := ix_of (l := l) (i := i) (ix_lo hz).1 (by omega)
          have := h1 _ _ hy
          rw [hz] at this; cases this
          exact fun q1 q2 y hy2 => h1.mem (g5 i z (by omega) hy q1 q2 y hy2)
      by_cases cs : chO p s < 0 ∨ GoalS t s
      · rw [ifP cs]
        simp only [Option.bind_some]
        rw [w64_of (by omega) (by omega)]
        refine .inl ⟨_, rfl, ⟨g1, g2, g3, by dsimp only; omega, fin (.refl _) fun q1 q2 => ?_⟩, by dsimp only; omega⟩
        rcases cs with c1 | c1
        · unfold LiveS at q2; omega
        · exact absurd c1 q1
      · rw [ifN cs]
        have hl : LiveS p s := by unfold LiveS; have := fun h => cs (.inl h); omega
        have hg : ¬ GoalS t s := fun h => cs (.inr h)
        have ho := live_op hp hl
        obtain ⟨st, w, r1, _, r3, _⟩ := oResults_eq ht ho.1.1 ho.1.2 hset
        rw [r1]
        simp only [Option.bind_some]
        obtain ⟨l2, e1, e2, e3, e4, e5⟩ := vis4 ht hp hrs hg hl (st := st) (w := w) (fun y => by rw [r3, nxS, List.mem_map]) g1 g2
        rw [e1]
        simp only [Option.bind_some]
        have := e4.len
        rw [w64_of (by omega) (by omega)]
        exact .inl ⟨_, rfl, ⟨e2, e3, e4.mem g3, by dsimp only; omega, fin e4 fun _ _ y hy => e5 y (by rw [r3]; exact List.mem_map.1 hy)⟩, by dsimp only; omega⟩
    · rw [if_neg c]
      refine .inr ⟨l, rfl, g1, g2, g3, fun s hs => ?_⟩
      obtain ⟨i, i0, i1, hi⟩ := mem_ix hs
      exact g5 i s (by omega) hi)
  rw [h1]
  simp only [Option.bind_some]
  have hlen := rch_len ht hp h2 h3
  obtain ⟨r, n1, n2, n3, n4⟩ := normal_eq (l := l) (by omega)
  rw [n1]
  exact ⟨r, rfl, vis_of n2 ((n3 _).2 h4) (fun s hs => h3 s ((n3 s).1 hs)) fun s hs q1 q2 y hy => (n3 y).2 (h5 s ((n3 s).1 hs) q1 q2 y hy)⟩
theorem rvis3 {t : TOpenTask} (ht : OTaskOk t) {p : List TChoice} (hp : PolOk t p) {s : List Int} (hs : Rch t p s) (hg : ¬ GoalS t s) (hl : LiveS p s) {st : List (List Int)} {w : List Int} (hst : ∀ y, y ∈ st ↔ y ∈ nxS t p s) {l0 : List (List Int)} {b0 : Bool} (ho : Ord l0) (hr : ∀ s ∈ l0, Rch t p s) :
    ∃ l b, forR 0 (st.length : Int) (ref8_Visited_l3 (st, w)) (l0, b0) = some (l, b) ∧ Ord l ∧ (∀ s ∈ l, Rch t p s) ∧ (∀ s ∈ l0, s ∈ l) ∧ l0.length ≤ l.length ∧ (b = false → b0 = false ∧ l = l0 ∧ ∀ y ∈ st, y ∈ l) ∧ (b = true → b0 = true ∨ l0.length < l.length) := by
  have hn := ht.n1
  obtain ⟨⟨l, b⟩, h1, h2, h3, h4, h5, h6, h7⟩ := forR_inv (body := ref8_Visited_l3 (st, w)) (n := (st.length : Int)) (s := (l0, b0)) (fun j q => Ord q.1 ∧ (∀ s ∈ q.1, Rch t p s) ∧ (∀ s ∈ l0, s ∈ q.1) ∧ l0.length ≤ q.1.length ∧ (q.2 = false → b0 = false ∧ q.1 = l0 ∧ ∀ k y, k < j → ix st k = some y → y ∈ q.1) ∧ (q.2 = true → b0 = true ∨ l0.length < q.1.length)) (by omega) ⟨ho, hr, fun _ h => h, Nat.le_refl _, fun h => ⟨h, rfl, fun k y hk h => by have := (ix_lo h).1; omega⟩, fun h => .inl h⟩ (fun j ⟨l, b⟩ j0 j1 ⟨a1, a2, a3, a4, a5, a6⟩ => by
    dsimp only at a1 a2 a3 a4 a5 a6
    obtain ⟨y, hy, _⟩ := ix_of (l := st) j0 j1
    have hry : Rch t p y := .step hs hg hl ((hst y).1 (ix_mem hy))
    unfold ref8_Visited_l3
    dsimp only
    rw [hy]
    obtain ⟨z, z1, z2⟩ := place_eq l y
    simp only [Option.bind_some, z1]
    rcases z2 with ⟨rfl, hz⟩ | ⟨z0, _, hz, _⟩
    · rw [if_pos (by decide)]
      have hlen := rch_len ht hp a1.nodup a2
      obtain ⟨l2, m1, m2, m3, m4⟩ := insert_eq a1 (by omega) (fun y hy => by have := ((a2 y hy).set ht).len; omega) y
      rw [m1]
      have hlt : l.length < l2.length := by
        have := nodup_len (c := y :: l) (S := l2) (List.nodup_cons.2 ⟨hz, a1.nodup⟩) fun x hx => (m3 x).2 (List.mem_cons.1 hx)
        simp only [List.length_cons] at this
        omega
      refine ⟨_, rfl, m2, fun x hx => ?_, fun x hx => (m3 x).2 (.inr (a3 x hx)), by dsimp only; omega, fun h => by (cases h), fun _ => .inr (by dsimp only; omega)⟩
      rcases (m3 x).1 hx with rfl | h
      · exact hry
      · exact a2 x h
    · rw [if_neg (by omega)]
      refine ⟨_, rfl, a1, a2, a3, a4, fun h => ?_, a6⟩
      obtain ⟨q1, q2, q3⟩ := a5 h
      refine ⟨q1, q2, fun k z' hk hz' => ?_⟩
      by_cases ek : k = j
      · subst ek; rw [hy] at hz'; cases hz'; exact ix_mem hz
      · exact q3 k z' (by omega) hz')
  refine ⟨l, b, h1, h2, h3, h4, h5, fun h => ?_, h7⟩
  obtain ⟨q1, q2, q3⟩ := h6 h
  refine ⟨q1, q2, fun y hy => ?_⟩
  obtain ⟨k, _, k1, hk⟩ := mem_ix hy
  exact q3 k y k1 hk
theorem rVisited_eq {t : TOpenTask} (ht : OTaskOk t) {p : List TChoice} (hp : PolOk t p) : ∃ l, ref8_Visited t p = some l ∧ Vis t p l := by
  have hn := ht.n1
  unfold ref8_Visited
  obtain ⟨l, h1, h2⟩ := Loop_inv (body := ref8_Visited_l1 t p) (fun q => Ord q.1 ∧ (∀ s ∈ q.1, Rch t p s) ∧ t.init ∈ q.1 ∧ (q.2 = false → ∀ s ∈ q.1, ClV t p q.1 s)) (fun l => Vis t p l) (fun q => 2 * (801 - q.1.length) + if q.2 = true then 1 else 0) (s := ([t.init], true)) ⟨by simp, by simpa using Rch.init, by simp, fun h => by cases h⟩ (fun ⟨l0, b0⟩ ⟨g1, g2, g3, g4⟩ => by
    dsimp only at g1 g2 g3 g4 ⊢
    unfold ref8_Visited_l1
    dsimp only
    by_cases cb : b0 = true
    · subst cb
      rw [if_pos rfl]
      obtain ⟨⟨l, b⟩, e1, e2, e3, e4, e5, e6, e7⟩ := Loop_inv (body := ref8_Visited_l2 t p) (fun q => Ord q.1 ∧ (∀ s ∈ q.1, Rch t p s) ∧ t.init ∈ q.1 ∧ l0.length ≤ q.1.length ∧ 0 ≤ q.2.2 ∧ (q.2.1 = false → q.1 = l0 ∧ ∀ i s, i < q.2.2 → ix q.1 i = some s → ClV t p q.1 s) ∧ (q.2.1 = true → l0.length < q.1.length)) (fun r => Ord r.1 ∧ (∀ s ∈ r.1, Rch t p s) ∧ t.init ∈ r.1 ∧ l0.length ≤ r.1.length ∧ (r.2 = false → ∀ s ∈ r.1, ClV t p r.1 s) ∧ (r.2 = false → r.1 = l0) ∧ (r.2 = true → l0.length < r.1.length)) (fun q => (801 - q.2.2).toNat) (s := (l0, false, 0)) ⟨g1, g2, g3, Nat.le_refl _, by simp, fun _ => ⟨rfl, fun i s hi h => by have := (ix_lo h).1; dsimp only at hi; omega⟩, fun h => by (cases h)⟩ (fun ⟨l, b, i⟩ ⟨a1, a2, a3, a4, a5, a6, a7⟩ => by
        dsimp only at a1 a2 a3 a4 a5 a6 a7 ⊢
        have hlen := rch_len ht hp a1.nodup a2
        unfold ref8_Visited_l2
        dsimp only
        by_cases c : i < l.length
        · rw [if_pos c]
          obtain ⟨s, hs, _⟩ := ix_of (l := l) a5 c
          have hrs := a2 s (ix_mem hs)
          have hset := hrs.set ht
          rw [hs]
          simp only [Option.bind_some, rChosen_chO]
          have key : (if chO p s < 0 then some true else Option.bind (ref8_Goal t s) fun a36 => some a36) = some (dec (chO p s < 0 ∨ GoalS t s)) := by
            unfold ref8_Goal GoalS
            rw [subset_eq, ← ifOr]
            simp only [Option.bind_some]
            by_cases h : chO p s < 0
            · rw [if_pos h, ifP h]
            · rw [if_neg h, ifN h]
          rw [key]
          simp only [Option.bind_some]
          by_cases cs : chO p s < 0 ∨ GoalS t s
          · rw [ifP cs]
            simp only [Option.bind_some]
            rw [w64_of (by omega) (by omega)]
            refine .inl ⟨_, rfl, ⟨a1, a2, a3, a4, by dsimp only; omega, fun h => ⟨(a6 h).1, fun k z hk hz => ?_⟩, a7⟩, by dsimp only; omega⟩
            dsimp only at hk
            by_cases ek : k = i
            · subst ek; rw [hs] at hz; cases hz
              intro q1 q2
              rcases cs with c1 | c1
              · unfold LiveS at q2; omega
              · exact absurd c1 q1
            · exact (a6 h).2 k z (by omega) hz
          · rw [ifN cs]
            have hl : LiveS p s := by unfold LiveS; have := fun h => cs (.inl h); omega
            have hg : ¬ GoalS t s := fun h => cs (.inr h)
            have ho := live_op hp hl
            rw [oAfter_eq ht ho.1.1 ho.1.2 hset]
            obtain ⟨st, w, r1, _, r3, _⟩ := oResults_eq ht ho.1.1 ho.1.2 hset
            rw [r1]
            simp only [Option.bind_some]
            obtain ⟨l2, b2, f1, f2, f3, f4, f5, f6, f7⟩ := rvis3 ht hp hrs hg hl (st := st) (w := w) (fun y => by rw [r3, nxS, List.mem_map]) (b0 := b) a1 a2
            rw [f1]
            simp only [Option.bind_some]
            rw [w64_of (by omega) (by omega)]
            refine .inl ⟨_, rfl, ⟨f2, f3, f4 _ a3, by dsimp only; omega, by dsimp only; omega, fun h => ?_, fun h => ?_⟩, by dsimp only; omega⟩
            · obtain ⟨q1, q2, q3⟩ := f6 h
              subst q2
              refine ⟨(a6 q1).1, fun k z hk hz => ?_⟩
              dsimp only at hk
              by_cases ek : k = i
              · subst ek; rw [hs] at hz; cases hz
                exact fun _ _ y hy => q3 y (by rw [r3]; exact List.mem_map.1 hy)
              · exact (a6 q1).2 k z (by omega) hz
            · rcases f7 h with q | q
              · have := a7 q; dsimp only; omega
              · dsimp only; omega
        · rw [if_neg c]
          refine .inr ⟨_, rfl, a1, a2, a3, a4, fun h s hs => ?_, fun h => (a6 h).1, a7⟩
          obtain ⟨k, k0, k1, hk⟩ := mem_ix hs
          exact (a6 h).2 k s (by have : k < (l.length : Int) := k1; omega) hk)
      rw [e1]
      simp only [Option.bind_some]
      dsimp only at e2 e3 e4 e5 e6 e7
      have hlen := rch_len ht hp e2.nodup e3
      refine .inl ⟨_, rfl, ⟨e2, e3, e4, e6⟩, ?_⟩
      dsimp only
      cases b with
      | false => simp; have := e7.1 rfl; rw [this]; omega
      | true => have := e7.2 rfl; simp; omega
    · rw [if_neg cb]
      have hb : b0 = false := by simpa using cb
      exact .inr ⟨_, rfl, vis_of g1 g3 g2 (g4 hb)⟩)
  rw [h1]
  exact ⟨l, rfl, h2⟩
end Ab
end
section
namespace Ab
open Go
abbrev HtS (t : TOpenTask) (p : List TChoice) (k : Nat) (s : List Int) : Prop := Ht (GoalS t) (LiveS p) (nxS t p) k s
theorem nx_ne {t : TOpenTask} (ht : OTaskOk t) {p : List TChoice} (hp : PolOk t p) : ∀ s, LiveS p s → nxS t p s ≠ [] := fun s hl h => by
  have ho := live_op hp hl
  have := (ht.at ho.1.1 ho.1.2).l0
  unfold nxS at h
  rw [List.map_eq_nil_iff] at h
  rw [h] at this
  simp at this
theorem Vis.closed {t : TOpenTask} {p : List TChoice} {l : List (List Int)} (h : Vis t p l) : ∀ s ∈ l, ¬ GoalS t s → LiveS p s → ∀ y ∈ nxS t p s, y ∈ l := fun s hs hg hl y hy => (h.mem y).2 (.step ((h.mem s).1 hs) hg hl hy)
theorem Vis.lt {t : TOpenTask} (ht : OTaskOk t) {p : List TChoice} (hp : PolOk t p) {l : List (List Int)} (h : Vis t p l) {k : Nat} {s : List Int} (hk : HtS t p k s) (hs : s ∈ l) : k < l.length := Ht.lt h.closed (nx_ne ht hp) hk hs
theorem Vis.len {t : TOpenTask} (ht : OTaskOk t) {p : List TChoice} (hp : PolOk t p) {l : List (List Int)} (h : Vis t p l) : l.length ≤ 801 := rch_len ht hp h.ord.nodup fun s hs => (h.mem s).1 hs
/-- A value at a state of an ordered list. -/
theorem find_eq {l : List (List Int)} (ho : Ord l) (hl : l.length ≤ 500000) {s : List Int} {i : Int} (hi : ix l i = some s) : open_Find l s = some i := by
  unfold open_Find
  obtain ⟨k, h1, _, h3⟩ := bsets_eq (t := s) ho hl
  rw [h1, h3 i hi]; rfl
theorem place_ord {l : List (List Int)} (ho : Ord l) {s : List Int} {i : Int} (hi : ix l i = some s) : ref1_Place l s = some i := by
  obtain ⟨z, h1, h2⟩ := place_eq l s
  rw [h1]
  rcases h2 with ⟨_, h⟩ | ⟨_, _, h, _⟩
  · exact absurd (ix_mem hi) h
  · rw [ho.inj h hi]
/-- The largest value after an operator: -1 if one is not known. -/
theorem worst_eq {t : TOpenTask} (ht : OTaskOk t) {p : List TChoice} (hp : PolOk t p) {l : List (List Int)} (hv : Vis t p l) {s : List Int} (hs : s ∈ l) (hg : ¬ GoalS t s) (hl : LiveS p s) {v : List Int} (hvl : v.length = l.length) (hvm : ∀ x ∈ v, -1 ≤ x) :
    ∃ n, strong_worst t l v s (chO p s) = some n ∧ ((n = -1 ∧ ∃ y ∈ nxS t p s, ∃ i, ix l i = some y ∧ ix v i = some (-1)) ∨ (0 ≤ n ∧ (∀ y ∈ nxS t p s, ∀ i x, ix l i = some y → ix v i = some x → 0 ≤ x ∧ x ≤ n) ∧ (n = 0 ∨ ∃ y ∈ nxS t p s, ∃ i, ix l i = some y ∧ ix v i = some n))) := by
  have ho := live_op hp hl
  have hset := ((hv.mem s).1 hs).set ht
  obtain ⟨st, w, r1, _, r3, _⟩ := oResults_eq ht ho.1.1 ho.1.2 hset
  have hlen := hv.len ht hp
  unfold strong_worst
  rw [r1]
  simp only [Option.bind_some]
  have hst : ∀ y, y ∈ st ↔ y ∈ nxS t p s := fun y => by rw [r3, nxS, List.mem_map]
  rcases rngX_inv (body := strong_worst_l1 l v (st, w)) (n := (st.length : Int)) (s := 0) (fun j n => 0 ≤ n ∧ (∀ k y i x, k < j → ix st k = some y → ix l i = some y → ix v i = some x → 0 ≤ x ∧ x ≤ n) ∧ (n = 0 ∨ ∃ y ∈ nxS t p s, ∃ i, ix l i = some y ∧ ix v i = some n)) (fun o => o = -1 ∧ ∃ y ∈ nxS t p s, ∃ i, ix l i = some y ∧ ix v i = some (-1)) (by omega) ⟨Int.le_refl _, fun k y i x hk h => by have := (ix_lo h).1; omega, .inl rfl⟩ (fun j n j0 j1 ⟨a1, a2, a3⟩ => by
    obtain ⟨y, hy, _⟩ := ix_of (l := st) j0 j1
    have hyn := (hst y).1 (ix_mem hy)
    obtain ⟨i, i0, i1, hi⟩ := mem_ix (hv.closed s hs hg hl y hyn)
    obtain ⟨x, hx, _⟩ := ix_of (l := v) i0 (by omega)
    unfold strong_worst_l1
    dsimp only
    rw [hy]
    simp only [Option.bind_some, find_eq hv.ord (show l.length ≤ 500000 by omega) hi, hx]
    by_cases c : x < 0
    · rw [if_pos c]
      have : x = -1 := by have := hvm x (ix_mem hx); omega
      subst this
      exact .inr ⟨_, rfl, rfl, y, hyn, i, hi, hx⟩
    · rw [if_neg c]
      refine .inl ⟨_, rfl, by omega, fun k z i' x' hk hz hi' hx' => ?_, ?_⟩
      · by_cases ek : k = j
        · subst ek
          rw [hy] at hz; cases hz
          have := hv.ord.inj hi hi'
          subst this
          rw [hx] at hx'; cases hx'
          omega
        · have := a2 k z i' x' (by omega) hz hi' hx'
          omega
      · by_cases cm : n ≤ x
        · rw [Int.max_eq_right cm]
          exact .inr ⟨y, hyn, i, hi, hx⟩
        · rw [Int.max_eq_left (by omega)]
          exact a3) with ⟨n, e1, e2, e3, e4⟩ | ⟨o, e1, rfl, e2⟩
  · rw [e1]
    refine ⟨n, rfl, .inr ⟨e2, fun y hy i x hi hx => ?_, e4⟩⟩
    obtain ⟨k, _, k1, hk⟩ := mem_ix ((hst y).2 hy)
    exact e3 k y i x k1 hk hi hx
  · rw [e1]
    exact ⟨-1, rfl, .inl ⟨rfl, e2⟩⟩
/-- Values that are known are the exact ones. -/
structure ValOk (t : TOpenTask) (p : List TChoice) (l : List (List Int)) (v : List Int) : Prop where
  len : v.length = l.length
  val : ∀ i s x, ix l i = some s → ix v i = some x → x = -1 ∨ ∃ k : Nat, x = k ∧ HtS t p k s
  goal : ∀ i s x, ix l i = some s → ix v i = some x → GoalS t s → x = 0
theorem ValOk.m1 {t : TOpenTask} {p : List TChoice} {l : List (List Int)} {v : List Int} (h : ValOk t p l v) : ∀ x ∈ v, -1 ≤ x := fun x hx => by
  obtain ⟨i, i0, i1, hi⟩ := mem_ix hx
  obtain ⟨s, hs, _⟩ := ix_of (l := l) i0 (by have := h.len; omega)
  rcases h.val i s x hs hi with e | ⟨k, e, _⟩ <;> omega
theorem set_ix {v : List Int} {j : Int} {y : Int} (h0 : 0 ≤ j) (h1 : j < v.length) {i : Int} {x : Int} (h : ix (v.set j.toNat y) i = some x) : (i = j ∧ x = y) ∨ (i ≠ j ∧ ix v i = some x) := by
  rw [ix_put h0 h1 (ix_lo h).1] at h
  by_cases e : i = j
  · rw [if_pos e] at h; cases h; exact .inl ⟨e, rfl⟩
  · rw [if_neg e] at h; exact .inr ⟨e, h⟩
/-- What is known stays. -/
def Stays (v v' : List Int) : Prop := ∀ i x, ix v i = some x → x ≠ -1 → ix v' i = some x
/-- One state: its value, if those after it are known. -/
theorem check3 {t : TOpenTask} (ht : OTaskOk t) {p : List TChoice} (hp : PolOk t p) {l : List (List Int)} (hv : Vis t p l) {j : Int} {s : List Int} (hs : ix l j = some s) {v : List Int} (h : ValOk t p l v) :
    ∃ v', strong_Check_l3 t p l j v = some v' ∧ ValOk t p l v' ∧ Stays v v' ∧ (¬ GoalS t s → LiveS p s → (∀ y ∈ nxS t p s, ∀ i, ix l i = some y → ix v i ≠ some (-1)) → ix v' j ≠ some (-1)) := by
  obtain ⟨j0, j1, _⟩ := ix_lo hs
  have hlen := hv.len ht hp
  have hvl := h.len
  obtain ⟨x, hx, _⟩ := ix_of (l := v) j0 (by omega)
  unfold strong_Check_l3
  rw [hs]
  simp only [Option.bind_some, (chosen_chO hp s).1, hx]
  by_cases c : 0 ≤ x ∨ chO p s < 0
  · rw [if_pos (by rw [Bool.or_eq_true, decide_eq_true_eq, decide_eq_true_eq]; exact c)]
    refine ⟨v, rfl, h, fun i x h _ => h, fun _ hl _ he => ?_⟩
    unfold LiveS at hl
    rw [hx] at he
    have := Option.some.inj he
    omega
  · rw [if_neg (by rw [Bool.or_eq_true, decide_eq_true_eq, decide_eq_true_eq]; exact c)]
    have hl : LiveS p s := by unfold LiveS; omega
    have hx1 : x = -1 := by have := h.m1 x (ix_mem hx); omega
    subst hx1
    have hg : ¬ GoalS t s := fun hg => by have := h.goal j s _ hs hx hg; omega
    obtain ⟨n, w1, w2⟩ := worst_eq ht hp hv (ix_mem hs) hg hl hvl h.m1
    rw [w1]
    simp only [Option.bind_some]
    rcases w2 with ⟨rfl, y, hy, i, hi, hvi⟩ | ⟨n0, w3, w4⟩
    · rw [if_neg (by decide)]
      exact ⟨v, rfl, h, fun i x h _ => h, fun _ _ hall => absurd hvi (hall y hy i hi)⟩
    · rw [if_pos n0]
      have ex : ∀ y ∈ nxS t p s, ∃ i x, ix l i = some y ∧ ix v i = some x ∧ ∃ k : Nat, x = k ∧ k ≤ n.toNat ∧ HtS t p k y := fun y hy => by
        obtain ⟨i, i0, i1, hi⟩ := mem_ix (hv.closed s (ix_mem hs) hg hl y hy)
        obtain ⟨x, hx, _⟩ := ix_of (l := v) i0 (by omega)
        have b := w3 y hy i x hi hx
        rcases h.val i y x hi hx with e | ⟨k, e, hk⟩
        · omega
        · exact ⟨i, x, hi, hx, k, e, by omega, hk⟩
      have top : ∃ y ∈ nxS t p s, HtS t p n.toNat y := by
        rcases w4 with rfl | ⟨y, hy, i, hi, hvi⟩
        · obtain ⟨y, hy⟩ := List.exists_mem_of_ne_nil _ (nx_ne ht hp s hl)
          obtain ⟨_, _, _, _, k, _, k1, hk⟩ := ex y hy
          have : k = 0 := by simpa using k1
          subst this
          exact ⟨y, hy, hk⟩
        · obtain ⟨i', x, hi', hx', k, e, k1, hk⟩ := ex y hy
          have := hv.ord.inj hi hi'
          subst this
          rw [hvi] at hx'; cases hx'
          have : k = n.toNat := by omega
          exact ⟨y, hy, this ▸ hk⟩
      have hts : HtS t p (n.toNat + 1) s := Ht.of_succ hg hl (fun y hy => by
        obtain ⟨_, _, _, _, k, _, k1, hk⟩ := ex y hy
        exact ⟨k, k1, hk⟩) top
      have hb := hv.lt ht hp hts (ix_mem hs)
      rw [w64_of (by omega) (by omega)]
      have hj : j < (v.length : Int) := by omega
      refine ⟨_, rfl, ⟨by rw [List.length_set]; exact hvl, fun i z x hz hx' => ?_, fun i z x hz hx' hgz => ?_⟩, fun i x hxi hne => ?_, fun _ _ _ he => ?_⟩
      · rcases set_ix j0 hj hx' with ⟨rfl, rfl⟩ | ⟨_, hx'⟩
        · rw [hs] at hz; cases hz
          exact .inr ⟨n.toNat + 1, by omega, hts⟩
        · exact h.val i z x hz hx'
      · rcases set_ix j0 hj hx' with ⟨rfl, rfl⟩ | ⟨_, hx'⟩
        · rw [hs] at hz; cases hz
          exact absurd hgz hg
        · exact h.goal i z x hz hx' hgz
      · rw [ix_put j0 hj (ix_lo hxi).1, if_neg]
        · exact hxi
        · rintro rfl; rw [hx] at hxi; cases hxi; exact hne rfl
      · rcases set_ix j0 hj he with ⟨_, e⟩ | ⟨e, _⟩
        · omega
        · exact e rfl
/-- All that are over within r steps are known. -/
def KnownS (t : TOpenTask) (p : List TChoice) (l : List (List Int)) (r : Nat) (v : List Int) : Prop := ∀ i s k, ix l i = some s → HtS t p k s → k ≤ r → ix v i ≠ some (-1)
theorem Stays.known {v v' : List Int} (h : Stays v v') (hl : v'.length = v.length) {i : Int} (hn : ix v i ≠ some (-1)) : ix v' i ≠ some (-1) := fun he => by
  obtain ⟨i0, i1, _⟩ := ix_lo he
  obtain ⟨x, hx, _⟩ := ix_of (l := v) i0 (by omega)
  have hne : x ≠ -1 := fun e => hn (e ▸ hx)
  rw [h i x hx hne] at he
  exact hne (Option.some.inj he)
theorem check2 {t : TOpenTask} (ht : OTaskOk t) {p : List TChoice} (hp : PolOk t p) {l : List (List Int)} (hv : Vis t p l) {v : List Int} (h : ValOk t p l v) {r : Nat} (hr : KnownS t p l r v) (j : Int) : ∃ v', strong_Check_l2 t p l j v = some v' ∧ ValOk t p l v' ∧ KnownS t p l (r + 1) v' := by
  unfold strong_Check_l2
  obtain ⟨v', h1, h2, h3, h4⟩ := forR_inv (body := strong_Check_l3 t p l) (n := (l.length : Int)) (s := v) (fun j v' => ValOk t p l v' ∧ Stays v v' ∧ ∀ i s k, i < j → ix l i = some s → HtS t p k s → k ≤ r + 1 → ix v' i ≠ some (-1)) (by omega) ⟨h, fun i x h _ => h, fun i s k hi h => by have := (ix_lo h).1; omega⟩ (fun j v1 j0 j1 ⟨a1, a2, a3⟩ => by
    obtain ⟨s, hs, _⟩ := ix_of (l := l) j0 j1
    obtain ⟨v2, b1, b2, b3, b4⟩ := check3 ht hp hv hs a1
    have st : Stays v v2 := fun i x hx hne => b3 i x (a2 i x hx hne) hne
    refine ⟨v2, b1, b2, st, fun i z k hi hz hk hkr => ?_⟩
    by_cases e : i = j
    · subst e
      rw [hs] at hz; cases hz
      by_cases hg : GoalS t s
      · intro he
        have := b2.goal i s _ hs he hg
        omega
      · obtain ⟨m, rfl, hl, hy, _⟩ := hk.step hg (nx_ne ht hp)
        refine b4 hg hl fun y hyn i' hi' => ?_
        obtain ⟨k', hk', hk2⟩ := hy y hyn
        exact a2.known (by rw [a1.len, h.len]) (hr i' y k' hi' hk2 (by omega))
    · exact b3.known (by rw [b2.len, a1.len]) (a3 i z k (by omega) hz hk hkr))
  rw [h1]
  exact ⟨v', rfl, h2, fun i s k hi hk hkr => h4 i s k (ix_lo hi).2.1 hi hk hkr⟩
theorem contains1_eq {l : List Int} {s : Int} : slices_Contains_int_int l s = some (dec (s ∈ l)) := by
  unfold slices_Contains_int_int slices_Index_int_int
  rcases rngX_test (body := slices_Index_int_int_l1 l s) (n := (l.length : Int)) (fun j => if dec (ix l j = some s) = true then some j else none) (by omega) (fun j h0 h1 _ => by
    obtain ⟨x, hx, _⟩ := ix_of (l := l) h0 h1
    unfold slices_Index_int_int_l1
    rw [hx]
    simp only [Option.bind_some]
    by_cases e : s = x
    · rw [if_pos e, ifP (by rw [e])]
    · rw [if_neg e, ifN (by simpa using fun h => e h.symm)]) with ⟨h1, h2⟩ | ⟨j, o, h0, h1, h2, h3, h4⟩
  · rw [h1]
    simp only [Option.bind_some]
    rw [dec_no]
    · rfl
    · intro hs
      obtain ⟨i, i0, i1, hi⟩ := mem_ix hs
      have := h2 i i0 i1
      rw [ifP hi] at this
      cases this
  · rw [h4]
    split at h2
    · rename_i e
      cases h2
      simp only [Option.bind_some]
      rw [dec_of (ix_mem (dec_true.1 e)), decide_eq_true h0]
    · cases h2
theorem check1 {t : TOpenTask} (ht : OTaskOk t) {p : List TChoice} {l : List (List Int)} (hv : Vis t p l) : ∃ v, forR 0 (l.length : Int) (strong_Check_l1 t l) (List.replicate l.length 0) = some v ∧ ValOk t p l v ∧ KnownS t p l 0 v := by
  have hn := ht.n1
  obtain ⟨v, h1, h2, h3⟩ := forR_inv (body := strong_Check_l1 t l) (n := (l.length : Int)) (s := List.replicate l.length 0) (fun j v => v.length = l.length ∧ ∀ i s x, ix l i = some s → ix v i = some x → (i < j → ¬ GoalS t s → x = -1) ∧ ((i < j → GoalS t s) → x = 0)) (by omega) ⟨by simp, fun i s x hi hx => by
    refine ⟨fun h => by have := (ix_lo hi).1; omega, fun _ => ?_⟩
    have := ix_mem hx
    exact List.eq_of_mem_replicate this⟩ (fun j v j0 j1 ⟨a1, a2⟩ => by
    obtain ⟨s, hs, _⟩ := ix_of (l := l) j0 j1
    have hset := ((hv.mem s).1 (ix_mem hs)).set ht
    have hsl := hset.len
    obtain ⟨x, hx, _⟩ := ix_of (l := v) j0 (by omega)
    unfold strong_Check_l1
    rw [hs]
    simp only [Option.bind_some, contains_eq hset.1 ht.goal.1 (show s.length ≤ 1000000 by omega), dec_not, hx]
    by_cases hg : GoalS t s
    · rw [ifNN (p := ∀ x ∈ t.goal, x ∈ s) hg]
      refine ⟨v, rfl, a1, fun i z y hz hy => ?_⟩
      obtain ⟨b1, b2⟩ := a2 i z y hz hy
      by_cases e : i = j
      · subst e
        rw [hs] at hz; cases hz
        exact ⟨fun _ h => absurd hg h, fun _ => b2 fun h => by omega⟩
      · exact ⟨fun h => b1 (by omega), fun h => b2 fun h' => h (by omega)⟩
    · rw [ifP (p := ¬ ∀ x ∈ t.goal, x ∈ s) hg]
      refine ⟨_, rfl, by rw [List.length_set]; exact a1, fun i z y hz hy => ?_⟩
      rcases set_ix j0 (by omega) hy with ⟨rfl, rfl⟩ | ⟨e, hy⟩
      · rw [hs] at hz; cases hz
        exact ⟨fun _ _ => rfl, fun h => absurd (h (by omega)) hg⟩
      · obtain ⟨b1, b2⟩ := a2 i z y hz hy
        exact ⟨fun h => b1 (by omega), fun h => b2 fun h' => h (by omega)⟩)
  refine ⟨v, h1, ⟨h2, fun i s x hi hx => ?_, fun i s x hi hx hg => (h3 i s x hi hx).2 fun _ => hg⟩, fun i s k hi hk hk0 he => ?_⟩
  · obtain ⟨b1, b2⟩ := h3 i s x hi hx
    by_cases hg : GoalS t s
    · exact .inr ⟨0, by rw [b2 fun _ => hg]; rfl, .zero hg⟩
    · exact .inl (b1 (ix_lo hi).2.1 hg)
  · have : k = 0 := by omega
    subst this
    have hg : GoalS t s := hk.1
    have := (h3 i s _ hi he).2 fun _ => hg
    omega
/-- What Check answers, for a policy in order. -/
theorem check_eq {t : TOpenTask} (ht : OTaskOk t) {p : List TChoice} (hp : PolOk t p) : ∃ l, Vis t p l ∧ ((∃ k : Nat, (∀ s ∈ l, ∃ k, HtS t p k s) ∧ HtS t p k t.init ∧ strong_Check t p = some ((k : Int), true, ⟨0, 0⟩)) ∨ ((∃ s ∈ l, ∀ k, ¬ HtS t p k s) ∧ strong_Check t p = some (0, false, ⟨0, 0⟩))) := by
  obtain ⟨l, g1, hv⟩ := oVisited_eq ht hp
  refine ⟨l, hv, ?_⟩
  have hlen := hv.len ht hp
  obtain ⟨f, f1, _, f3⟩ := policy_eq t p
  have hf : f = ⟨0, 0⟩ := by
    rcases f3 with ⟨rfl, _⟩ | ⟨_, h⟩
    · rfl
    · exact absurd ⟨ht, hp⟩ h
  subst hf
  obtain ⟨v0, c1, c2, c3⟩ := check1 ht (p := p) hv
  obtain ⟨v, d1, d2, d3⟩ := forR_inv (body := strong_Check_l2 t p l) (n := (l.length : Int)) (s := v0) (fun j v => ValOk t p l v ∧ KnownS t p l j.toNat v) (by omega) ⟨c2, c3⟩ (fun j v j0 j1 ⟨a1, a2⟩ => by
    obtain ⟨v', b1, b2, b3⟩ := check2 ht hp hv a1 a2 j
    exact ⟨v', b1, b2, by rwa [show (j + 1).toNat = j.toNat + 1 by omega]⟩)
  unfold strong_Check
  rw [f1]
  simp only [Option.bind_some]
  rw [if_neg (by simp), g1]
  simp only [Option.bind_some]
  rw [show mkL 8 (l.length : Int) (0 : Int) = some (List.replicate l.length 0) by rw [mkL, if_pos (by omega)]; simp]
  simp only [Option.bind_some, c1, d1, contains1_eq]
  by_cases c : (-1 : Int) ∈ v
  · right
    rw [ifP c]
    refine ⟨?_, rfl⟩
    obtain ⟨i, i0, i1, hi⟩ := mem_ix c
    obtain ⟨s, hs, _⟩ := ix_of (l := l) i0 (by have := d2.len; omega)
    refine ⟨s, ix_mem hs, fun k hk => ?_⟩
    have := hv.lt ht hp hk (ix_mem hs)
    exact d3 i s k hs hk (by omega) hi
  · left
    rw [ifN c]
    have all : ∀ i s x, ix l i = some s → ix v i = some x → ∃ k : Nat, x = k ∧ HtS t p k s := fun i s x hi hx => by
      rcases d2.val i s x hi hx with e | e
      · exact absurd (e ▸ ix_mem hx) c
      · exact e
    have hinit : t.init ∈ l := (hv.mem _).2 .init
    obtain ⟨i, i0, i1, hi⟩ := mem_ix hinit
    obtain ⟨x, hx, _⟩ := ix_of (l := v) i0 (by have := d2.len; omega)
    obtain ⟨k, rfl, hk⟩ := all i _ x hi hx
    refine ⟨k, fun s hs => ?_, hk, ?_⟩
    · obtain ⟨i, i0, i1, hi⟩ := mem_ix hs
      obtain ⟨x, hx, _⟩ := ix_of (l := v) i0 (by have := d2.len; omega)
      obtain ⟨k, _, hk⟩ := all i s x hi hx
      exact ⟨k, hk⟩
    · rw [find_eq hv.ord (by omega) hi]
      simp only [Option.bind_some, hx]
end Ab
end
section
namespace Ab
open Go
def sureX : TOutcome := ⟨[0], [], 1⟩
def sureO : TOpenOperator := ⟨[], [sureX], 1⟩
def sureT : TOpenTask := ⟨1, [], [0], [sureO]⟩
theorem sure_ok : OTaskOk sureT where
  n0 := by decide
  n1 := by decide
  init := setN_nil _
  goal := setN1 0 (by decide) (by decide)
  ops := by decide
  op o ho := by
    simp only [sureT, List.mem_singleton] at ho
    subst ho
    refine ⟨setN_nil _, by decide, by decide, by decide, by decide, fun x hx => ?_⟩
    simp only [sureO, List.mem_singleton] at hx
    subst hx
    exact ⟨⟨setN1 0 (by decide) (by decide), setN_nil _, by simp [sureX]⟩, by decide, by decide⟩
theorem sureOo : ooAt sureT 0 = sureO := rfl
theorem set01 : SetN [0] 1 := setN1 0 (by decide) (by decide)
theorem sure_x {s : List Int} (hs : SetN s 1) : efc 1 s sureX = [0] := by
  refine (set01.eq_of (p := fun p => p ∈ sureX.add ∨ p ∈ s ∧ p ∉ sureX.del) fun x h0 h1 => ?_).symm
  simp only [sureX, List.mem_singleton]
  exact ⟨.inl, fun h => by omega⟩
theorem sure_res {s : List Int} (hs : SetN s 1) : ∃ w, open_Results sureT s 0 = some ([[0]], w) := by
  obtain ⟨st, w, r1, r2, r3, _⟩ := oResults_eq sure_ok (op := 0) (by decide) (by decide) (s := s) hs
  refine ⟨w, ?_⟩
  rw [r1]
  have : st = [[0]] := Ord.ext r2 (by simp) fun y => by
    rw [r3, sureOo]
    simp only [sureO, List.mem_singleton, exists_eq_left]
    rw [show sureT.facts = 1 from rfl, sure_x hs]
    exact ⟨Eq.symm, Eq.symm⟩
  rw [this]
theorem sure_can {s : List Int} (hs : SetN s 1) : open_Can sureT s 0 = some true := by
  rw [oCan_eq sure_ok (by decide) (by decide) hs, dec_of]
  intro x hx
  cases hx
theorem one_rng {S O : Type} {body : Int → S → Option (S ⊕ O)} {s : S} {x : S ⊕ O} (h : body 0 s = some x) : rngX 0 1 body s = some x := by
  unfold rngX
  rw [show ((1 : Int) - 0).toNat = 1 from rfl]
  simp only [rngN, h]
  cases x <;> rfl
theorem sure_reach : open_Reach sureT = some ([[], [0]], true) := by
  have h0 : SetN [] 1 := setN_nil _
  have k0 := key1_eq (s := []) (h0.small (by decide)) (by decide)
  have k1 := key1_eq (s := [0]) (set01.small (by decide)) (by decide)
  have hk : keyK [[0]] ≠ keyK [[]] := fun e => by have := SetN.key_inj (by decide) set01 h0 e; cases this
  obtain ⟨w0, r0⟩ := sure_res h0
  obtain ⟨w1, r1⟩ := sure_res set01
  have s1 : open_Reach_l1 sureT ([[]], mset ([] : List (ByteArray × Int)) (keyK [[]]) 1, 0) = some (.inl ([[], [0]], mset (mset ([] : List (ByteArray × Int)) (keyK [[]]) 1) (keyK [[0]]) 1, 1)) := by
    unfold open_Reach_l1
    dsimp only
    rw [if_pos (by decide)]
    rw [show (sureT.operators.length : Int) = 1 from rfl, one_rng (x := .inl ([[], [0]], mset (mset ([] : List (ByteArray × Int)) (keyK [[]]) 1) (keyK [[0]]) 1))]
    · rfl
    · unfold open_Reach_l2
      dsimp only
      rw [show ix [([] : List Int)] 0 = some [] from rfl]
      simp only [Option.bind_some, sure_can h0, r0, Bool.not_true, Bool.false_eq_true, if_false]
      rw [show ((([[0]] : List (List Int)).length : Nat) : Int) = 1 from rfl, one_rng (x := .inl ([[], [0]], mset (mset ([] : List (ByteArray × Int)) (keyK [[]]) 1) (keyK [[0]]) 1))]
      · rfl
      · unfold open_Reach_l4
        dsimp only
        rw [show ix [([0] : List Int)] 0 = some [0] from rfl]
        simp only [Option.bind_some, k1]
        rw [mget_mset, if_neg hk]
        simp [mget, app, open_Reach_j5]
  have s2 : open_Reach_l1 sureT ([[], [0]], mset (mset ([] : List (ByteArray × Int)) (keyK [[]]) 1) (keyK [[0]]) 1, 1) = some (.inl ([[], [0]], mset (mset ([] : List (ByteArray × Int)) (keyK [[]]) 1) (keyK [[0]]) 1, 2)) := by
    unfold open_Reach_l1
    dsimp only
    rw [if_pos (by decide)]
    rw [show (sureT.operators.length : Int) = 1 from rfl, one_rng (x := .inl ([[], [0]], mset (mset ([] : List (ByteArray × Int)) (keyK [[]]) 1) (keyK [[0]]) 1))]
    · rfl
    · unfold open_Reach_l2
      dsimp only
      rw [show ix [([] : List Int), [0]] 1 = some [0] from rfl]
      simp only [Option.bind_some, sure_can set01, r1, Bool.not_true, Bool.false_eq_true, if_false]
      rw [show ((([[0]] : List (List Int)).length : Nat) : Int) = 1 from rfl, one_rng (x := .inl ([[], [0]], mset (mset ([] : List (ByteArray × Int)) (keyK [[]]) 1) (keyK [[0]]) 1))]
      · rfl
      · unfold open_Reach_l4
        dsimp only
        rw [show ix [([0] : List Int)] 0 = some [0] from rfl]
        simp only [Option.bind_some, k1]
        rw [mget_mset, if_pos rfl]
        simp [open_Reach_j5]
  have s3 : open_Reach_l1 sureT ([[], [0]], mset (mset ([] : List (ByteArray × Int)) (keyK [[]]) 1) (keyK [[0]]) 1, 2) = some (.inr (.inl [[], [0]])) := by
    unfold open_Reach_l1
    dsimp only
    rw [if_neg (by decide)]
  unfold open_Reach
  rw [show sureT.init = [] from rfl, clone_eq (by decide)]
  simp only [Option.bind_some, k0]
  rw [Loop_eq, s1]
  dsimp only
  rw [Loop_eq, s2]
  dsimp only
  rw [Loop_eq, s3]
  simp only [Option.bind_some]
  obtain ⟨r, n1, n2, n3, _⟩ := normal_eq (l := [[], [0]]) (by decide)
  rw [n1, show r = [[], [0]] from Ord.ext n2 (by simp [llt]) n3]
  rfl
theorem sure_bs {l : List (List Int)} (h : l = [[], [0]]) : open_Find l [] = some 0 ∧ open_Find l [0] = some 1 := by
  subst h
  exact ⟨find_eq (by simp [llt]) (by decide) rfl, find_eq (by simp [llt]) (by decide) rfl⟩
theorem one_for {S : Type} {body : Int → S → Option S} {s s1 : S} (h : body 0 s = some s1) : forR 0 1 body s = some s1 := by
  unfold forR
  rw [show ((1 : Int) - 0).toNat = 1 from rfl]
  simp only [forN, h]
theorem two_for {S : Type} {body : Int → S → Option S} {s s1 s2 : S} (h : body 0 s = some s1) (h2 : body 1 s1 = some s2) : forR 0 2 body s = some s2 := by
  unfold forR
  rw [show ((2 : Int) - 0).toNat = 2 from rfl]
  simp only [forN, h]
  rw [show (0 : Int) + 1 = 1 from rfl, h2]
abbrev sureA : List (List Int) := [[], [0]]
theorem sure_c0 : strips_Contains [] sureT.goal = some false := by
  rw [show sureT.goal = [0] from rfl, contains_eq .nil set01.1 (by decide), dec_no]
  intro h; have := h 0 (by simp); cases this
theorem sure_c1 : strips_Contains [0] sureT.goal = some true := by
  rw [show sureT.goal = [0] from rfl, contains_eq set01.1 set01.1 (by decide), dec_of]
  intro x hx; exact hx
theorem sure_best {rank : List Int} (h : ix rank 1 = some 0) : strong_best sureT sureA rank [] = some 0 := by
  obtain ⟨w0, r0⟩ := sure_res (s := []) (setN_nil _)
  have hw : strong_worst sureT sureA rank [] 0 = some 0 := by
    unfold strong_worst
    rw [r0]
    simp only [Option.bind_some]
    rw [show ((([[0]] : List (List Int)).length : Nat) : Int) = 1 from rfl, one_rng (x := .inl 0)]
    · rfl
    · unfold strong_worst_l1
      dsimp only
      rw [show ix [([0] : List Int)] 0 = some [0] from rfl]
      simp only [Option.bind_some, (sure_bs rfl).2, h]
      rfl
  unfold strong_best
  rw [show (sureT.operators.length : Int) = 1 from rfl, one_for (s1 := (0, 0))]
  · rfl
  · unfold strong_best_l1
    dsimp only
    rw [sure_can (setN_nil _)]
    simp [hw]
theorem sure_ranks : strong_ranks sureT sureA = some [1, 0] := by
  have l0 : strong_ranks_l2 sureT sureA ([-1, 0], 1) = some (.inl ([1, 0], 2)) := by
    unfold strong_ranks_l2
    dsimp only
    rw [show (sureA.length : Int) = 2 from rfl, two_for (s1 := [0]) (s2 := [0])]
    · simp only [Option.bind_some]
      rw [if_neg (by decide), show (([0] : List Int).length : Int) = 1 from rfl, one_for (s1 := [1, 0])]
      · rfl
      · rfl
    · unfold strong_ranks_l3
      rw [show ix sureA 0 = some [] from rfl, show ix ([-1, 0] : List Int) 0 = some (-1) from rfl]
      simp only [Option.bind_some]
      rw [if_pos (by decide), sure_best rfl]
      rfl
    · rfl
  have l1 : strong_ranks_l2 sureT sureA ([1, 0], 2) = some (.inr [1, 0]) := by
    unfold strong_ranks_l2
    dsimp only
    rw [show (sureA.length : Int) = 2 from rfl, two_for (s1 := []) (s2 := [])]
    · rfl
    · rfl
    · rfl
  unfold strong_ranks
  rw [show slices_Repeat_int_int [-1] (sureA.length : Int) = some [-1, -1] from rfl]
  simp only [Option.bind_some]
  rw [show (sureA.length : Int) = 2 from rfl, two_for (s1 := [-1, -1]) (s2 := [-1, 0])]
  · simp only [Option.bind_some]
    rw [Loop_eq, l0]
    dsimp only
    rw [Loop_eq, l1]
    rfl
  · unfold strong_ranks_l1
    rw [show ix sureA 0 = some [] from rfl]
    simp only [Option.bind_some, sure_c0]
    rfl
  · unfold strong_ranks_l1
    rw [show ix sureA 1 = some [0] from rfl]
    simp only [Option.bind_some, sure_c1]
    rfl
theorem polNil : PolOk sureT [] := ⟨by decide, .nil, by simp, by simp, by simp⟩
theorem chosen_nil (s : List Int) : open_Chosen [] s = some (-1) := by
  obtain ⟨h1, h2⟩ := chosen_chO polNil s
  rw [h1]
  rcases h2 with h | ⟨h, _⟩
  · rw [h]
  · obtain ⟨c, hc, _⟩ := chO_mem h
    cases hc
abbrev sureP : List TChoice := [⟨[], 0⟩]
theorem sure_build : strong_Build sureT (fun y1 => strong_Policy_1 y1 sureT sureA [1, 0]) = some (sureP, true) := by
  obtain ⟨w0, r0⟩ := sure_res (s := []) (setN_nil _)
  have b0 : strong_Build_l1 sureT (fun y1 => strong_Policy_1 y1 sureT sureA [1, 0]) ([[]], [], 0) = some (.inl ([[], [0]], sureP, 1)) := by
    unfold strong_Build_l1
    dsimp only
    rw [if_pos (by decide), show ix [([] : List Int)] 0 = some [] from rfl]
    simp only [Option.bind_some, sure_c0, chosen_nil]
    rw [if_neg (by decide)]
    simp only [Option.bind_some]
    rw [if_neg (by decide), if_neg (by decide)]
    have hc : strong_Policy_1 [] sureT sureA [1, 0] = some 0 := by
      unfold strong_Policy_1
      rw [sure_best rfl]; rfl
    have hb : slices_BinarySearchFunc_api_Choice_api_Choice_int [] [] strong_Build_1 = some (0, false) := by
      rw [show slices_BinarySearchFunc_api_Choice_api_Choice_int [] [] strong_Build_1 = bsf [] [] strong_Build_1 from rfl]
      unfold bsf
      rw [Loop_eq]
      simp [bsl]
    rw [hc]
    simp only [Option.bind_some, hb, clone_eq (s := []) (by decide)]
    rw [show slices_Insert_api_Choice_api_Choice_w1 0 [] [(⟨[], 0⟩ : TChoice)] = some sureP from rfl]
    simp only [Option.bind_some, r0]
    rfl
  have b1 : strong_Build_l1 sureT (fun y1 => strong_Policy_1 y1 sureT sureA [1, 0]) ([[], [0]], sureP, 1) = some (.inl ([[], [0]], sureP, 2)) := by
    unfold strong_Build_l1
    dsimp only
    rw [if_pos (by decide), show ix [([] : List Int), [0]] 1 = some [0] from rfl]
    simp only [Option.bind_some, sure_c1]
    rfl
  have b2 : strong_Build_l1 sureT (fun y1 => strong_Policy_1 y1 sureT sureA [1, 0]) ([[], [0]], sureP, 2) = some (.inr (.inl sureP)) := by
    unfold strong_Build_l1
    dsimp only
    rw [if_neg (by decide)]
  unfold strong_Build
  rw [show sureT.init = [] from rfl, Loop_eq, b0]
  dsimp only
  rw [Loop_eq, b1]
  dsimp only
  rw [Loop_eq, b2]
  rfl
theorem sure_policy : strong_Policy sureT = some (sureP, true, ⟨0, 0⟩) := by
  unfold strong_Policy
  rw [explore_ok sure_ok, sure_reach]
  simp only [Option.bind_some, if_true]
  rw [if_neg (by simp), sure_ranks]
  simp only [Option.bind_some]
  rw [show sureT.init = [] from rfl, (sure_bs rfl).1]
  simp only [Option.bind_some]
  rw [show ix ([1, 0] : List Int) 0 = some 1 from rfl]
  simp only [Option.bind_some]
  rw [if_neg (by decide), sure_build]
  rfl
theorem sure_pol : PolOk sureT sureP := ⟨by decide, by simp, fun c hc => by
    simp only [List.mem_singleton] at hc
    subst hc
    exact setN_nil _, fun c hc => by
    simp only [List.mem_singleton] at hc
    subst hc
    exact ⟨by decide, by decide⟩, fun c hc x hx => by
    simp only [List.mem_singleton] at hc
    subst hc
    cases hx⟩
theorem sure_ch : chO sureP [] = 0 := by
  obtain ⟨r, h1, h2⟩ := rChosen_eq sureP []
  have e : chO sureP [] = r := by rw [chO, h1]; rfl
  rw [e]
  rcases h2 with ⟨_, h⟩ | ⟨c, hc, _, h⟩
  · exact absurd rfl (h _ (List.mem_singleton.2 rfl))
  · rw [h, List.mem_singleton.1 hc]
theorem sure_nx {y : List Int} : y ∈ nxS sureT sureP [] ↔ y = [0] := by
  unfold nxS
  rw [sure_ch, sureOo]
  simp only [sureO, List.map_cons, List.map_nil, List.mem_singleton]
  rw [show sureT.facts = 1 from rfl, sure_x (setN_nil _)]
theorem sure_g1 : GoalS sureT [0] := fun x hx => hx
theorem sure_g0 : ¬ GoalS sureT [] := fun h => by have := h 0 (by simp [sureT]); cases this
theorem sure_ht : HtS sureT sureP 1 [] := Ht.of_succ (m := 0) sure_g0 (by unfold LiveS; rw [sure_ch]; exact Int.le_refl _) (fun y hy => ⟨0, Nat.le_refl _, .zero (sure_nx.1 hy ▸ sure_g1)⟩) ⟨[0], sure_nx.2 rfl, .zero sure_g1⟩
theorem sure_rch {s : List Int} (h : Rch sureT sureP s) : s = [] ∨ s = [0] := by
  induction h with
  | init => exact .inl rfl
  | step _ hg _ hy ih =>
    rcases ih with rfl | rfl
    · exact .inr (sure_nx.1 hy)
    · exact absurd sure_g1 hg
theorem sure_check : strong_Check sureT sureP = some (1, true, ⟨0, 0⟩) := by
  obtain ⟨l, hv, h⟩ := check_eq sure_ok sure_pol
  rcases h with ⟨k, _, h1, h2⟩ | ⟨⟨s, hs, h1⟩, _⟩
  · have : k = 1 := Ht.unique h1 sure_ht
    subst this
    exact h2
  · rcases sure_rch ((hv.mem s).1 hs) with rfl | rfl
    · exact absurd sure_ht (h1 1)
    · exact absurd (.zero sure_g1) (h1 0)
theorem choices_self (p : List TChoice) : ref8_Choices p p = some true := by
  unfold ref8_Choices
  rw [if_pos rfl, rngX_all (by omega) fun j j0 j1 => by
    obtain ⟨c, hc, _⟩ := ix_of (l := p) j0 j1
    unfold ref8_Choices_l1
    rw [hc]
    simp only [Option.bind_some, decide_true, Bool.not_true, Bool.false_eq_true, if_false, ints_eq, dec_of]]
  rfl
theorem always_eq : law8_always = some true := by
  unfold law8_always
  rw [show law8_sure = some sureT from rfl]
  simp only [Option.bind_some, sure_policy, sure_check, if_true, choices_self]
end Ab
end
section
namespace Ab
open Go
theorem check_bad {t : TOpenTask} {p : List TChoice} {f : TFault} (hv : open_ValidatePolicy t p = some f) (hc : f.code ≠ 0) : strong_Check t p = some (0, false, f) := by
  unfold strong_Check
  rw [hv]
  simp only [Option.bind_some]
  rw [if_pos (fault_no hc)]
end Ab
end
section
namespace Ab
open Go
/-- The largest value after an operator. -/
theorem most_eq {t : TOpenTask} (ht : OTaskOk t) {p : List TChoice} (hp : PolOk t p) {l : List (List Int)} (hv : Vis t p l) {s : List Int} (hs : s ∈ l) (hg : ¬ GoalS t s) (hl : LiveS p s) {v : List Int} (hvl : v.length = l.length) :
    ∃ n, ref8_Most t l v s (chO p s) = some n ∧ 0 ≤ n ∧ (∀ y ∈ nxS t p s, ∀ i x, ix l i = some y → ix v i = some x → x ≤ n) ∧ (n = 0 ∨ ∃ y ∈ nxS t p s, ∃ i, ix l i = some y ∧ ix v i = some n) := by
  have ho := live_op hp hl
  have hset := ((hv.mem s).1 hs).set ht
  obtain ⟨st, w, r1, _, r3, _⟩ := oResults_eq ht ho.1.1 ho.1.2 hset
  have hlen := hv.len ht hp
  unfold ref8_Most
  rw [oAfter_eq ht ho.1.1 ho.1.2 hset, r1]
  simp only [Option.bind_some]
  have hst : ∀ y, y ∈ st ↔ y ∈ nxS t p s := fun y => by rw [r3, nxS, List.mem_map]
  obtain ⟨n, e1, e2, e3, e4⟩ := forR_inv (body := ref8_Most_l1 l v (st, w)) (n := (st.length : Int)) (s := 0) (fun j n => 0 ≤ n ∧ (∀ k y i x, k < j → ix st k = some y → ix l i = some y → ix v i = some x → x ≤ n) ∧ (n = 0 ∨ ∃ y ∈ nxS t p s, ∃ i, ix l i = some y ∧ ix v i = some n)) (by omega) ⟨Int.le_refl _, fun k y i x hk h => by have := (ix_lo h).1; omega, .inl rfl⟩ (fun j n j0 j1 ⟨a1, a2, a3⟩ => by
    obtain ⟨y, hy, _⟩ := ix_of (l := st) j0 j1
    have hyn := (hst y).1 (ix_mem hy)
    obtain ⟨i, i0, i1, hi⟩ := mem_ix (hv.closed s hs hg hl y hyn)
    obtain ⟨x, hx, _⟩ := ix_of (l := v) i0 (by omega)
    unfold ref8_Most_l1
    dsimp only
    rw [hy]
    simp only [Option.bind_some, place_ord hv.ord hi, hx]
    have low : ∀ m : Int, n ≤ m → x ≤ m → ∀ k z i' x', k < j + 1 → ix st k = some z → ix l i' = some z → ix v i' = some x' → x' ≤ m := fun m h1 h2 k z i' x' hk hz hi' hx' => by
      by_cases ek : k = j
      · subst ek
        rw [hy] at hz; cases hz
        have := hv.ord.inj hi hi'
        subst this
        rw [hx] at hx'; cases hx'
        omega
      · have := a2 k z i' x' (by omega) hz hi' hx'
        omega
    by_cases c : n < x
    · rw [if_pos c]
      exact ⟨x, rfl, by omega, low x (by omega) (by omega), .inr ⟨y, hyn, i, hi, hx⟩⟩
    · rw [if_neg c]
      exact ⟨n, rfl, a1, low n (by omega) (by omega), a3⟩)
  rw [e1]
  refine ⟨n, rfl, e2, fun y hy i x hi hx => ?_, e4⟩
  obtain ⟨k, _, k1, hk⟩ := mem_ix ((hst y).2 hy)
  exact e3 k y i x k1 hk hi hx
/-- Values from below: not above what is exact, and above the rounds that a state surely outlasts. -/
structure LowOk (t : TOpenTask) (p : List TChoice) (l : List (List Int)) (v : List Int) : Prop where
  len : v.length = l.length
  pos : ∀ x ∈ v, 0 ≤ x
  up : ∀ i s x k, ix l i = some s → ix v i = some x → HtS t p k s → x ≤ k
  most : ∀ x ∈ v, x ≤ l.length
def Outl (t : TOpenTask) (p : List TChoice) (r : Nat) (s : List Int) (x : Int) : Prop := ∀ k : Nat, k < r → ¬ Dn (GoalS t) (LiveS p) (nxS t p) k s → (k : Int) + 1 ≤ x
theorem not_dn {t : TOpenTask} {p : List TChoice} {s : List Int} {k : Nat} (hl : LiveS p s) (h : ¬ Dn (GoalS t) (LiveS p) (nxS t p) (k + 1) s) : ∃ y ∈ nxS t p s, ¬ Dn (GoalS t) (LiveS p) (nxS t p) k y := Classical.byContradiction fun hc => h (.inr ⟨hl, fun y hy => Classical.byContradiction fun hy2 => hc ⟨y, hy, hy2⟩⟩)
/-- One round of the reference. -/
theorem worst2 {t : TOpenTask} (ht : OTaskOk t) {p : List TChoice} (hp : PolOk t p) {l : List (List Int)} (hv : Vis t p l) {r : Nat} {v : List Int} (h : LowOk t p l v) (ho : ∀ i s x, ix l i = some s → ix v i = some x → Outl t p r s x) :
    (∃ v', rngX 0 (l.length : Int) (ref8_Worst_l2 t p l) v = some (.inl v') ∧ LowOk t p l v' ∧ (∀ i s x, ix l i = some s → ix v' i = some x → Outl t p (r + 1) s x) ∧ ∀ s ∈ l, GoalS t s ∨ LiveS p s ∧ (l.length ≤ r → ∃ k, HtS t p k s)) ∨ (rngX 0 (l.length : Int) (ref8_Worst_l2 t p l) v = some (.inr (-1)) ∧ ∃ s ∈ l, ∀ k, ¬ HtS t p k s) := by
  have hlen := hv.len ht hp
  rcases rngX_inv (body := ref8_Worst_l2 t p l) (n := (l.length : Int)) (s := v) (fun j v' => LowOk t p l v' ∧ (∀ i s x, ix l i = some s → ix v' i = some x → Outl t p r s x ∧ (i < j → Outl t p (r + 1) s x)) ∧ ∀ i s, i < j → ix l i = some s → GoalS t s ∨ LiveS p s ∧ (l.length ≤ r → ∃ k, HtS t p k s)) (fun o => o = -1 ∧ ∃ s ∈ l, ∀ k, ¬ HtS t p k s) (by omega) ⟨h, fun i s x hi hx => ⟨ho i s x hi hx, fun hj => by have := (ix_lo hi).1; omega⟩, fun i s hi hs => by have := (ix_lo hs).1; omega⟩ (fun j v' j0 j1 ⟨a1, a2, a3⟩ => by
    obtain ⟨s, hs, _⟩ := ix_of (l := l) j0 j1
    have hsm := ix_mem hs
    obtain ⟨x0, hx0, _⟩ := ix_of (l := v') j0 (by rw [a1.len]; exact j1)
    have next : (GoalS t s ∨ LiveS p s ∧ (l.length ≤ r → ∃ k, HtS t p k s)) → ∀ i z, i < j + 1 → ix l i = some z → GoalS t z ∨ LiveS p z ∧ (l.length ≤ r → ∃ k, HtS t p k z) := fun hh i z hi hz => by
      by_cases e : i = j
      · subst e; rw [hs] at hz; cases hz; exact hh
      · exact a3 i z (by omega) hz
    unfold ref8_Worst_l2 ref8_Worst_j3
    rw [hs]
    simp only [Option.bind_some, rChosen_chO]
    unfold ref8_Goal
    rw [subset_eq]
    simp only [Option.bind_some]
    by_cases hg : GoalS t s
    · rw [ifP (p := ∀ x ∈ t.goal, x ∈ s) hg]
      refine .inl ⟨v', rfl, a1, fun i z x hz hx => ⟨(a2 i z x hz hx).1, fun hi => ?_⟩, next (.inl hg)⟩
      by_cases e : i = j
      · subst e; rw [hs] at hz; cases hz
        exact fun k _ hk => absurd (Dn.goal hg) hk
      · exact (a2 i z x hz hx).2 (by omega)
    · rw [ifN (p := ∀ x ∈ t.goal, x ∈ s) hg]
      by_cases hl : chO p s < 0
      · rw [if_pos hl]
        refine .inr ⟨-1, rfl, rfl, s, hsm, fun k hk => ?_⟩
        obtain ⟨_, _, hl', _⟩ := hk.step hg (nx_ne ht hp)
        unfold LiveS at hl'
        omega
      · rw [if_neg hl]
        have hl' : LiveS p s := by unfold LiveS; omega
        obtain ⟨n, m1, m2, m3, m4⟩ := most_eq ht hp hv hsm hg hl' a1.len
        rw [m1]
        simp only [Option.bind_some]
        -- the value is not too large
        have up : ∀ k, HtS t p k s → n + 1 ≤ k := fun k hk => by
          obtain ⟨m, rfl, _, hy, _⟩ := hk.step hg (nx_ne ht hp)
          rcases m4 with rfl | ⟨y, hyn, i, hi, hvi⟩
          · omega
          · obtain ⟨k', k1, k2⟩ := hy y hyn
            have := a1.up i y n k' hi hvi k2
            omega
        have nb : n ≤ l.length := by
          rcases m4 with rfl | ⟨y, _, i, _, hvi⟩
          · omega
          · exact a1.most n (ix_mem hvi)
        have low : Outl t p (r + 1) s (n + 1) := fun k hk hd => by
          cases k with
          | zero => simp; omega
          | succ k =>
            obtain ⟨y, hyn, hyd⟩ := not_dn hl' hd
            obtain ⟨i, i0, i1, hi⟩ := mem_ix (hv.closed s hsm hg hl' y hyn)
            obtain ⟨x, hx, _⟩ := ix_of (l := v') i0 (by rw [a1.len]; exact i1)
            have h1 := (a2 i y x hi hx).1 k (by omega) hyd
            have h2 := m3 y hyn i x hi hx
            push_cast
            omega
        rw [w64_of (by omega) (by omega)]
        by_cases c : (l.length : Int) < n + 1
        · rw [if_pos c]
          refine .inr ⟨-1, rfl, rfl, s, hsm, fun k hk => ?_⟩
          have h1 := up k hk
          have h2 := hv.lt ht hp hk hsm
          omega
        · rw [if_neg c, hx0]
          simp only [Option.bind_some]
          have hj : j < (v'.length : Int) := by rw [a1.len]; exact j1
          refine .inl ⟨_, rfl, ⟨by rw [List.length_set]; exact a1.len, fun x hx => ?_, fun i z x k hz hx hk => ?_, fun x hx => ?_⟩, fun i z x hz hx => ?_, next (.inr ⟨hl', fun hr => Classical.byContradiction fun hno => ?_⟩)⟩
          · rcases List.mem_or_eq_of_mem_set hx with h | h
            · exact a1.pos x h
            · omega
          · rcases set_ix j0 hj hx with ⟨rfl, rfl⟩ | ⟨_, hx⟩
            · rw [hs] at hz; cases hz
              exact up k hk
            · exact a1.up i z x k hz hx hk
          · rcases List.mem_or_eq_of_mem_set hx with h | h
            · exact a1.most x h
            · omega
          · rcases set_ix j0 hj hx with ⟨rfl, rfl⟩ | ⟨e, hx⟩
            · rw [hs] at hz; cases hz
              exact ⟨fun k hk => low k (by omega), fun _ => low⟩
            · exact ⟨(a2 i z x hz hx).1, fun hi => (a2 i z x hz hx).2 (by omega)⟩
          · have := low l.length (by omega) fun hd => by
              obtain ⟨m, _, hm⟩ := Ht.of_dn hd
              exact hno ⟨m, hm⟩
            omega) with ⟨v', e1, e2, e3, e4⟩ | ⟨o, e1, rfl, e2⟩
  · refine .inl ⟨v', e1, e2, fun i s x hi hx => (e3 i s x hi hx).2 (ix_lo hi).2.1, fun s hs => ?_⟩
    obtain ⟨i, i0, i1, hi⟩ := mem_ix hs
    exact e4 i s i1 hi
  · exact .inr ⟨e1, e2⟩
/-- What the reference answers. -/
theorem rWorst_eq {t : TOpenTask} (ht : OTaskOk t) {p : List TChoice} (hp : PolOk t p) {l : List (List Int)} (hv : Vis t p l) : (∃ k : Nat, (∀ s ∈ l, ∃ k, HtS t p k s) ∧ HtS t p k t.init ∧ ref8_Worst t p = some (k : Int)) ∨ ((∃ s ∈ l, ∀ k, ¬ HtS t p k s) ∧ ref8_Worst t p = some (-1)) := by
  obtain ⟨l', g1, hv'⟩ := rVisited_eq ht hp
  have := hv'.unique hv
  subst this
  have hlen := hv.len ht hp
  unfold ref8_Worst
  rw [g1]
  simp only [Option.bind_some]
  rw [show mkL 8 (l'.length : Int) (0 : Int) = some (List.replicate l'.length 0) by rw [mkL, if_pos (by omega)]; simp]
  simp only [Option.bind_some]
  have z0 : ∀ x ∈ List.replicate l'.length (0 : Int), x = 0 := fun x hx => List.eq_of_mem_replicate hx
  obtain ⟨o, e1, e2⟩ := Loop_inv (body := ref8_Worst_l1 t p l') (fun q => (0 ≤ q.2 ∧ q.2 ≤ (l'.length : Int) + 1) ∧ LowOk t p l' q.1 ∧ (∀ i s x, ix l' i = some s → ix q.1 i = some x → Outl t p q.2.toNat s x) ∧ ((l'.length : Int) < q.2 → ∀ s ∈ l', GoalS t s ∨ ∃ k, HtS t p k s)) (fun o => (∃ v, o = .inl v ∧ LowOk t p l' v ∧ (∀ i s x, ix l' i = some s → ix v i = some x → Outl t p (l'.length + 1) s x) ∧ ∀ s ∈ l', GoalS t s ∨ ∃ k, HtS t p k s) ∨ (o = .inr (-1) ∧ ∃ s ∈ l', ∀ k, ¬ HtS t p k s)) (fun q => ((l'.length : Int) + 1 - q.2).toNat) (s := (List.replicate l'.length 0, 0)) ⟨⟨by simp, by simp; omega⟩, ⟨by simp, fun x hx => by rw [z0 x hx]; exact Int.le_refl _, fun i s x k _ hx _ => by rw [z0 x (ix_mem hx)]; omega, fun x hx => by rw [z0 x hx]; omega⟩, fun i s x _ _ k hk => by simp at hk, fun h => by simp at h; omega⟩ (fun ⟨v, r⟩ ⟨g0, g1, g2, g3⟩ => by
    dsimp only at g0 g1 g2 g3 ⊢
    unfold ref8_Worst_l1
    dsimp only
    by_cases c : r ≤ (l'.length : Int)
    · rw [if_pos c]
      rcases worst2 ht hp hv g1 g2 with ⟨v', f1, f2, f3, f4⟩ | ⟨f1, f2⟩
      · rw [f1]
        simp only [Option.bind_some]
        rw [w64_of (by omega) (by omega)]
        refine .inl ⟨_, rfl, ⟨by dsimp only; omega, f2, fun i s x hi hx => ?_, fun hr s hs => ?_⟩, by dsimp only; omega⟩
        · dsimp only
          rw [show (r + 1).toNat = r.toNat + 1 by omega]
          exact f3 i s x hi hx
        · dsimp only at hr
          rcases f4 s hs with h | ⟨_, h⟩
          · exact .inl h
          · exact .inr (h (by omega))
      · rw [f1]
        exact .inr ⟨_, rfl, .inr ⟨rfl, f2⟩⟩
    · rw [if_neg c]
      have hr : r = (l'.length : Int) + 1 := by omega
      subst hr
      exact .inr ⟨_, rfl, .inl ⟨v, rfl, g1, fun i s x hi hx => by have := g2 i s x hi hx; rwa [show ((l'.length : Int) + 1).toNat = l'.length + 1 by omega] at this, g3 (by omega)⟩⟩)
  rw [e1]
  rcases e2 with ⟨v, rfl, f1, f2, f3⟩ | ⟨rfl, f⟩
  · left
    have all : ∀ s ∈ l', ∃ k, HtS t p k s := fun s hs => by
      rcases f3 s hs with h | h
      · exact ⟨0, .zero h⟩
      · exact h
    have hinit : t.init ∈ l' := (hv.mem _).2 .init
    obtain ⟨k, hk⟩ := all _ hinit
    obtain ⟨i, i0, i1, hi⟩ := mem_ix hinit
    obtain ⟨x, hx, _⟩ := ix_of (l := v) i0 (by rw [f1.len]; exact i1)
    have hkl := hv.lt ht hp hk hinit
    have h1 := f1.up i _ x k hi hx hk
    have h2 := f1.pos x (ix_mem hx)
    have h3 : (k : Int) ≤ x := by
      cases k with
      | zero => omega
      | succ k =>
        have := f2 i _ x hi hx k (by omega) (hk.2 k (by omega))
        push_cast
        omega
    have : x = k := by omega
    subst this
    refine ⟨k, all, hk, ?_⟩
    simp only [Option.bind_some]
    rw [place_ord hv.ord hi]
    simp only [Option.bind_some, hx]
  · right
    exact ⟨f, rfl⟩
/-- For all policies, Check returns the specified number of steps. -/
theorem StrongCheckMatchesSpec_true (t : TOpenTask) (p : List TChoice) : law8_StrongCheckMatchesSpec t p = some true := by
  obtain ⟨f, h1, h2, h3⟩ := policy_eq t p
  unfold law8_StrongCheckMatchesSpec
  simp only [always_eq]
  rcases h3 with ⟨rfl, ht, hp⟩ | ⟨hc, _⟩
  · rw [h2]
    obtain ⟨l, hv, hk⟩ := check_eq ht hp
    rcases hk with ⟨k, k0, k1, k2⟩ | ⟨⟨s, hs, k1⟩, k2⟩
    · rcases rWorst_eq ht hp hv with ⟨m, _, m1, m2⟩ | ⟨⟨s, hs, m1⟩, _⟩
      · have := Ht.unique k1 m1
        subst this
        rw [k2, m2]
        simp
      · obtain ⟨k', hk'⟩ := k0 s hs
        exact absurd hk' (m1 k')
    · rcases rWorst_eq ht hp hv with ⟨m, m0, _, _⟩ | ⟨_, m2⟩
      · obtain ⟨k', hk'⟩ := m0 s hs
        exact absurd hk' (k1 k')
      · rw [k2, m2]
        simp
  · rw [check_bad h1 hc, h2]
    simp [hc]
end Ab
end
