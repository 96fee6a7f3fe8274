/-
  PLAIN LAWS of strips: faults of tasks, states and plans; what operators and plans do.
-/
import Derived.Test.YtfjbddjoagefkaaPs2
namespace Ab
open Go

def opSets (o : TOperator) (n : Int) : Prop := SetN o.pre n ∧ SetN o.add n ∧ SetN o.del n ∧ ∀ x ∈ o.add, x ∉ o.del
def opCost (o : TOperator) : Prop := 0 ≤ o.cost ∧ o.cost ≤ 100
noncomputable def opCode (o : TOperator) (n : Int) : Int := if dec (opSets o n) = true then if dec (opCost o) = true then 0 else 3 else 5
structure TaskOk (t : TTask) : Prop where
  n0 : 0 ≤ t.facts
  n1 : t.facts ≤ 24
  init : SetN t.init t.facts
  goal : SetN t.goal t.facts
  ops : t.operators.length ≤ 40
  op : ∀ o ∈ t.operators, opSets o t.facts ∧ opCost o
def PlanOk (t : TTask) (plan : List Int) : Prop := plan.length ≤ 60 ∧ ∀ x ∈ plan, 0 ≤ x ∧ x < t.operators.length

theorem opCode_zero {o : TOperator} {n : Int} : opCode o n = 0 ↔ opSets o n ∧ opCost o := by
  unfold opCode
  by_cases h : opSets o n
  · rw [if_pos (dec_of h)]
    by_cases g : opCost o
    · rw [if_pos (dec_of g)]; simp [h, g]
    · rw [if_neg (by rw [dec_no g]; simp)]; simp [g]
  · rw [if_neg (by rw [dec_no h]; simp)]; simp [h]

theorem operator_eq {o : TOperator} {n : Int} (h0 : 0 ≤ n) (h1 : n ≤ 24) : strips_operator o n = some (opCode o n) := by
  unfold strips_operator opCode
  simp only [isSet_eq, Option.bind_some, dec_not]
  have bad : ¬ opSets o n → dec (opSets o n) = true → False := fun h g => h (dec_true.1 g)
  by_cases c1 : SetN o.pre n
  · rw [if_neg (by simpa using c1)]
    by_cases c2 : SetN o.add n
    · rw [if_neg (by simpa using c2)]
      by_cases c3 : SetN o.del n
      · rw [if_neg (by simpa using c3)]
        have hl := c3.len
        rw [meets_eq c3.1 (by omega)]
        simp only [Option.bind_some]
        by_cases c4 : ∃ x ∈ o.add, x ∈ o.del
        · rw [if_pos (dec_of c4), if_neg]
          rw [dec_true]
          obtain ⟨x, g1, g2⟩ := c4
          exact fun h => h.2.2.2 x g1 g2
        · have hs : opSets o n := ⟨c1, c2, c3, fun x g1 g2 => c4 ⟨x, g1, g2⟩⟩
          rw [if_neg (by rw [dec_no c4]; simp), if_pos (dec_of hs)]
          by_cases c5 : opCost o
          · rw [if_pos (dec_of c5), if_neg]
            have := c5.1; have := c5.2
            simp; omega
          · rw [if_neg (fun h => c5 (dec_true.1 h)), if_pos]
            unfold opCost at c5
            simp; omega
      · rw [if_pos (by simpa using c3)]
        simp only [Option.bind_some, if_true]
        rw [if_neg fun h => c3 (dec_true.1 h).2.2.1]
    · rw [if_pos (by simpa using c2)]
      simp only [Option.bind_some, if_true]
      rw [if_neg fun h => c2 (dec_true.1 h).2.1]
  · rw [if_pos (by simpa using c1)]
    simp only [Option.bind_some, if_true]
    rw [if_neg fun h => c1 (dec_true.1 h).1]

theorem validate_eq (t : TTask) : ∃ f, strips_Validate t = some f ∧ ref1_TaskFault t = some f ∧ ((f = ⟨0, 0⟩ ∧ TaskOk t) ∨ (f.code ≠ 0 ∧ ¬ TaskOk t)) := by
  unfold strips_Validate ref1_TaskFault
  simp only [in_eq, at_eq, Option.bind_some, dec_not]
  by_cases c1 : 0 ≤ t.facts ∧ t.facts ≤ 24
  · rw [if_neg (by simp; omega), ifNN c1]
    simp only [isSet_eq, rIsSet_eq (n := t.facts) _ (by omega) (by omega), Option.bind_some, dec_not]
    by_cases c2 : SetN t.init t.facts
    · rw [ifNN c2, ifNN c2]
      by_cases c3 : SetN t.goal t.facts
      · rw [ifNN c3, ifNN c3]
        by_cases c4 : 40 < (t.operators.length : Int)
        · rw [if_pos c4, if_pos c4]
          exact ⟨_, rfl, rfl, .inr ⟨by simp, fun h => by have := h.ops; omega⟩⟩
        · rw [if_neg c4, if_neg c4]
          have hb : ∀ j : Int, 0 ≤ j → j < t.operators.length → ∃ o, ix t.operators j = some o ∧ strips_Validate_l1 t j () = some (if opCode o t.facts = 0 then .inl () else .inr ⟨opCode o t.facts, j⟩) ∧ ref1_TaskFault_l1 t j () = some (if opCode o t.facts = 0 then .inl () else .inr ⟨opCode o t.facts, j⟩) := fun j h0 h1 => by
            obtain ⟨o, ho, _⟩ := ix_of (l := t.operators) h0 h1
            refine ⟨o, ho, ?_, ?_⟩
            · unfold strips_Validate_l1
              rw [ho]
              simp only [Option.bind_some, operator_eq c1.1 c1.2]
              by_cases e : opCode o t.facts = 0
              · rw [if_pos e, if_pos e]
              · rw [if_neg e, if_neg e]
            · unfold ref1_TaskFault_l1
              rw [ho]
              simp only [Option.bind_some, rIsSet_eq (n := t.facts) _ (show -9223372036854775808 < t.facts by omega) (show t.facts ≤ 9223372036854775807 by omega), disjoint_eq, in_eq, at_eq, dec_not]
              have hp : (if dec (¬ SetN o.pre t.facts) = true then some true else if dec (¬ SetN o.add t.facts) = true then some true else if dec (¬ SetN o.del t.facts) = true then some true else some (dec (¬ ∀ x ∈ o.add, x ∉ o.del))) = some (dec (¬ opSets o t.facts)) := by
                unfold opSets
                by_cases g1 : SetN o.pre t.facts
                · rw [if_neg (by simpa using g1)]
                  by_cases g2 : SetN o.add t.facts
                  · rw [if_neg (by simpa using g2)]
                    by_cases g3 : SetN o.del t.facts
                    · rw [if_neg (by simpa using g3)]
                      exact congrArg some (dec_congr ⟨fun h g => h g.2.2.2, fun h g => h ⟨g1, g2, g3, g⟩⟩)
                    · rw [if_pos (by simpa using g3), dec_of (fun g => g3 g.2.2.1)]
                  · rw [if_pos (by simpa using g2), dec_of (fun g => g2 g.2.1)]
                · rw [if_pos (by simpa using g1), dec_of (fun g => g1 g.1)]
              rw [hp]
              simp only [Option.bind_some]
              unfold opCode
              by_cases g1 : opSets o t.facts
              · rw [if_neg (by simpa using g1), if_pos (dec_of g1)]
                by_cases g2 : opCost o
                · rw [ifP g2, ifNN (p := 0 ≤ o.cost ∧ o.cost ≤ 100) g2]; rfl
                · rw [ifN g2, ifP (p := ¬ (0 ≤ o.cost ∧ o.cost ≤ 100)) g2]; rfl
              · rw [if_pos (dec_of g1), if_neg (fun h => g1 (dec_true.1 h))]; rfl
          have heq : rngX 0 (t.operators.length : Int) (strips_Validate_l1 t) () = rngX 0 (t.operators.length : Int) (ref1_TaskFault_l1 t) () :=
            (rngX_eq (fun _ _ => True) (by omega) trivial (fun j s h0 h1 _ => by
              obtain ⟨o, _, e1, e2⟩ := hb j h0 h1
              exact ⟨by rw [e1, e2], by rw [e1]; simp, fun _ _ => trivial⟩)).1
          rcases rngX_test (body := ref1_TaskFault_l1 t) (n := (t.operators.length : Int)) (fun j => match ix t.operators j with | some o => if opCode o t.facts = 0 then none else some (⟨opCode o t.facts, j⟩ : TFault) | none => none) (by omega) (fun j h0 h1 _ => by
            obtain ⟨o, e0, _, e2⟩ := hb j h0 h1
            rw [e2, e0]
            dsimp only
            split <;> rfl) with ⟨h1, h2⟩ | ⟨j, f, h0, h1, h2, _, h4⟩
          · rw [heq, h1]
            refine ⟨⟨0, 0⟩, rfl, rfl, .inl ⟨rfl, c1.1, c1.2, c2, c3, by omega, fun o ho => ?_⟩⟩
            obtain ⟨j, g0, g1, g2⟩ := mem_ix ho
            have := h2 j g0 g1
            rw [g2] at this
            dsimp only at this
            split at this
            · rename_i e; exact opCode_zero.1 e
            · cases this
          · rw [heq, h4]
            obtain ⟨o, e0, _, _⟩ := hb j h0 h1
            rw [e0] at h2
            dsimp only at h2
            split at h2
            · cases h2
            · rename_i e
              cases h2
              exact ⟨_, rfl, rfl, .inr ⟨e, fun h => e (opCode_zero.2 (h.op o (ix_mem e0)))⟩⟩
      · rw [ifP c3, ifP c3]
        exact ⟨_, rfl, rfl, .inr ⟨by simp, fun h => c3 h.goal⟩⟩
    · rw [ifP c2, ifP c2]
      exact ⟨_, rfl, rfl, .inr ⟨by simp, fun h => c2 h.init⟩⟩
  · rw [if_pos (by simp; omega), if_pos (dec_of c1)]
    exact ⟨_, rfl, rfl, .inr ⟨by simp, fun h => c1 ⟨h.n0, h.n1⟩⟩⟩

/-- The test that Go code makes of a fault. -/
theorem fault_ok {f : TFault} : (!((decide (f.code = 0)) && (decide (f.index = 0)))) = true ↔ f ≠ ⟨0, 0⟩ := by
  cases f; simp; omega
theorem fault_no {f : TFault} (h : f.code ≠ 0) : (!((decide (f.code = 0)) && (decide (f.index = 0)))) = true := by simp [h]

theorem steps_eq {n : Int} (h0 : 0 ≤ n) (h1 : n ≤ 9223372036854775807) (plan : List Int) : ∃ f, strips_Steps n plan = some f ∧ ref1_StepsFault n plan = some f ∧ ((f = ⟨0, 0⟩ ∧ plan.length ≤ 60 ∧ ∀ x ∈ plan, 0 ≤ x ∧ x < n) ∨ (f.code ≠ 0 ∧ ¬ (plan.length ≤ 60 ∧ ∀ x ∈ plan, 0 ≤ x ∧ x < n))) := by
  unfold strips_Steps ref1_StepsFault
  by_cases c : 60 < (plan.length : Int)
  · rw [if_pos c, if_pos c]
    exact ⟨⟨2, -5⟩, rfl, rfl, .inr ⟨by simp, fun h => by omega⟩⟩
  · rw [if_neg c, if_neg c]
    rw [rng_list (l := plan) (fun x => 0 ≤ x ∧ x < n) (⟨3, -6⟩ : TFault) (fun j a h => by
      unfold strips_Steps_l1
      rw [h]
      simp only [Option.bind_some]
      by_cases g : 0 ≤ a ∧ a < n
      · rw [if_neg (by simp; omega)]; exact .inl ⟨g, rfl⟩
      · rw [if_pos (by simp; omega)]; exact .inr ⟨g, rfl⟩)]
    rw [rng_list (l := plan) (fun x => 0 ≤ x ∧ x < n) (⟨3, -6⟩ : TFault) (fun j a h => by
      unfold ref1_StepsFault_l1
      rw [h]
      simp only [Option.bind_some, in_eq, at_eq, w64_of (n := n - 1) (by omega) (by omega), dec_not]
      by_cases g : 0 ≤ a ∧ a < n
      · rw [if_neg (by simp; omega)]; exact .inl ⟨g, rfl⟩
      · rw [if_pos (by rw [dec_true]; omega)]; exact .inr ⟨g, rfl⟩)]
    by_cases g : ∀ x ∈ plan, 0 ≤ x ∧ x < n
    · rw [if_pos (dec_of g)]
      exact ⟨_, rfl, rfl, .inl ⟨rfl, by omega, g⟩⟩
    · rw [if_neg (fun h => g (dec_true.1 h))]
      exact ⟨_, rfl, rfl, .inr ⟨by simp, fun h => g h.2⟩⟩
theorem planFault_eq (t : TTask) (plan : List Int) : ∃ f, strips_PlanFault t plan = some f ∧ ref1_PlanFault t plan = some f ∧ ((f = ⟨0, 0⟩ ∧ TaskOk t ∧ PlanOk t plan) ∨ (f.code ≠ 0 ∧ ¬ (TaskOk t ∧ PlanOk t plan))) := by
  obtain ⟨f, h1, h2, h3⟩ := validate_eq t
  unfold strips_PlanFault ref1_PlanFault
  rw [h1, h2]
  simp only [Option.bind_some]
  rcases h3 with ⟨rfl, ht⟩ | ⟨hc, ht⟩
  · obtain ⟨g, g1, g2, g3⟩ := steps_eq (n := (t.operators.length : Int)) (by omega) (by have := ht.ops; omega) plan
    rw [if_neg (by simp), if_pos rfl, g1, g2]
    refine ⟨g, rfl, rfl, ?_⟩
    rcases g3 with ⟨e, k⟩ | ⟨e, k⟩
    · exact .inl ⟨e, ht, k⟩
    · exact .inr ⟨e, fun h => k h.2⟩
  · rw [if_pos (fault_no hc), if_neg hc]
    exact ⟨f, rfl, rfl, .inr ⟨hc, fun h => ht h.1⟩⟩
theorem stateOk_eq {t : TTask} (h0 : 0 ≤ t.facts) (h1 : t.facts ≤ 24) (s : List Int) : ref1_StateOk t s = some (dec (SetN s t.facts)) := by
  unfold ref1_StateOk
  rw [rIsSet_eq s (by omega) (by omega)]; rfl
theorem stateFault_eq (t : TTask) (s : List Int) : ∃ f, strips_StateFault t s = some f ∧ ref1_StateFault t s = some f ∧ ((f = ⟨0, 0⟩ ∧ TaskOk t ∧ SetN s t.facts) ∨ (f.code ≠ 0 ∧ ¬ (TaskOk t ∧ SetN s t.facts))) := by
  obtain ⟨f, h1, h2, h3⟩ := validate_eq t
  unfold strips_StateFault ref1_StateFault
  rw [h1, h2]
  simp only [Option.bind_some]
  rcases h3 with ⟨rfl, ht⟩ | ⟨hc, ht⟩
  · rw [if_neg (by simp), if_pos rfl, isSet_eq, stateOk_eq ht.n0 ht.n1]
    simp only [Option.bind_some, dec_not, at_eq]
    by_cases c : SetN s t.facts
    · rw [if_neg (by simpa using c), if_neg (by simpa using c)]
      exact ⟨_, rfl, rfl, .inl ⟨rfl, ht, c⟩⟩
    · rw [if_pos (dec_of c), if_pos (dec_of c)]
      exact ⟨_, rfl, rfl, .inr ⟨by simp, fun h => c h.2⟩⟩
  · rw [if_pos (fault_no hc), if_neg hc]
    exact ⟨f, rfl, rfl, .inr ⟨hc, fun h => ht h.1⟩⟩

/-! ### What operators and plans do -/
def noOp : TOperator := ⟨[], [], [], 0⟩
def opAt (t : TTask) (op : Int) : TOperator := (t.operators[op.toNat]?).getD noOp
theorem ix_op {t : TTask} {op : Int} (h0 : 0 ≤ op) (h1 : op < t.operators.length) : ix t.operators op = some (opAt t op) := by
  obtain ⟨a, h2, h3⟩ := ix_of h0 h1
  rw [h2, opAt, h3]; rfl
theorem TaskOk.at {t : TTask} (h : TaskOk t) {op : Int} (h0 : 0 ≤ op) (h1 : op < t.operators.length) : opSets (opAt t op) t.facts ∧ opCost (opAt t op) := h.op _ (ix_mem (ix_op h0 h1))
theorem opAt_nat {t : TTask} {k : Nat} (h : k < t.operators.length) : opAt t (k : Int) = t.operators[k] := by simp [opAt, h]
def can (t : TTask) (s : List Int) (op : Int) : Prop := ∀ x ∈ (opAt t op).pre, x ∈ s
noncomputable def aft (t : TTask) (s : List Int) (op : Int) : List Int := setOf (fun x => x ∈ (opAt t op).add ∨ x ∈ s ∧ x ∉ (opAt t op).del) t.facts
theorem setN_aft (t : TTask) (s : List Int) (op : Int) : SetN (aft t s op) t.facts := setN_setOf _ _

theorem applies_eq {t : TTask} {op : Int} (h0 : 0 ≤ op) (h1 : op < t.operators.length) (s : List Int) : ref1_Applies t s op = some (dec (can t s op)) := by
  unfold ref1_Applies
  rw [ix_op h0 h1]
  simp only [Option.bind_some, subset_eq]
  rfl
theorem after_eq {t : TTask} (ht : TaskOk t) {op : Int} (h0 : 0 ≤ op) (h1 : op < t.operators.length) (s : List Int) : ref1_After t s op = some (aft t s op) := by
  have := ht.n1
  unfold ref1_After
  rw [if_pos (by omega)]
  rw [forR_setOf (b := 8) (fun x => x ∈ (opAt t op).add ∨ x ∈ s ∧ x ∉ (opAt t op).del) ht.n0 (by omega) (fun j c g0 g1 => by
    unfold ref1_After_l1
    simp only [ix_op h0 h1, Option.bind_some, has_eq, dec_not]
    have e : (if dec (j ∈ (opAt t op).add) = true then some true else if dec (j ∈ s) = true then some (dec (j ∉ (opAt t op).del)) else some false) = some (dec (j ∈ (opAt t op).add ∨ j ∈ s ∧ j ∉ (opAt t op).del)) := by
      by_cases c1 : j ∈ (opAt t op).add
      · rw [if_pos (dec_of c1), dec_of (.inl c1)]
      · rw [if_neg (fun h => c1 (dec_true.1 h))]
        by_cases c2 : j ∈ s
        · rw [if_pos (dec_of c2)]
          exact congrArg some (dec_congr ⟨fun h => .inr ⟨c2, h⟩, fun h => (h.resolve_left c1).2⟩)
        · rw [if_neg (fun h => c2 (dec_true.1 h)), dec_no (fun h => c2 (h.resolve_left c1).1)]
    rw [e]
    simp only [Option.bind_some]
    refine ⟨fun hq => ?_, fun hq => ?_⟩
    · rw [if_pos (dec_of hq)]
      cases app 8 c [j] <;> rfl
    · rw [if_neg (fun h => hq (dec_true.1 h))]; rfl)]
  rfl
theorem can_eq {t : TTask} (ht : TaskOk t) {op : Int} (h0 : 0 ≤ op) (h1 : op < t.operators.length) {s : List Int} (hs : SetN s t.facts) : strips_Can t s op = some (dec (can t s op)) := by
  have := ht.n1; have := hs.len
  unfold strips_Can
  rw [ix_op h0 h1]
  simp only [Option.bind_some]
  rw [contains_eq hs.1 (ht.at h0 h1).1.1.1 (by omega)]
  rfl
theorem next_eq {t : TTask} (ht : TaskOk t) {op : Int} (h0 : 0 ≤ op) (h1 : op < t.operators.length) {s : List Int} (hs : SetN s t.facts) : strips_Next t s op = some (aft t s op) := by
  have := ht.n1
  obtain ⟨⟨_, k2, k3, _⟩, _⟩ := ht.at h0 h1
  have hl := k3.len
  unfold strips_Next
  rw [ix_op h0 h1]
  simp only [Option.bind_some]
  rw [update_eq (n := t.facts) (by omega) k3.1 (by omega) hs k2]
  simp only [Option.bind_some, aft]
  exact congrArg some (setOf_congr fun x _ _ => Or.comm)

/-- The state in which a plan ends, if its steps are applicable. -/
noncomputable def ends (t : TTask) : List Int → List Int → Option (List Int)
  | s, [] => some s
  | s, op :: r => if dec (can t s op) = true then ends t (aft t s op) r else none
theorem ends_setN {t : TTask} : ∀ {plan s e : List Int}, SetN s t.facts → ends t s plan = some e → SetN e t.facts
  | [], s, e, hs, h => by cases h; exact hs
  | op :: r, s, e, hs, h => by
    simp only [ends] at h
    split at h
    · exact ends_setN (setN_aft t s op) h
    · cases h
theorem ends_append {t : TTask} : ∀ {p q s : List Int}, ends t s (p ++ q) = (ends t s p).bind fun e => ends t e q
  | [], q, s => rfl
  | op :: r, q, s => by
    simp only [List.cons_append, ends]
    split
    · exact ends_append
    · rfl
/-- The plan leads to a goal state. -/
def works (t : TTask) (s plan : List Int) : Prop := ∃ e, ends t s plan = some e ∧ ∀ x ∈ t.goal, x ∈ e

theorem rEnds_eq {t : TTask} (ht : TaskOk t) {plan : List Int} (hp : ∀ x ∈ plan, 0 ≤ x ∧ x < t.operators.length) (s : List Int) : ref1_Ends t s plan = some (match ends t s plan with | some e => (e, true) | none => ([], false)) := by
  unfold ref1_Ends
  rcases rngX_inv (body := ref1_Ends_l1 t plan) (n := (plan.length : Int)) (fun j c => ends t s plan = ends t c (plan.drop j.toNat)) (fun o => o = ([], false) ∧ ends t s plan = none) (s := s) (by omega) (by simp) (fun j c g0 g1 hP => by
    obtain ⟨a, ha, ga⟩ := ix_of (l := plan) g0 g1
    have hm := hp a (ix_mem ha)
    have hd : plan.drop j.toNat = a :: plan.drop (j.toNat + 1) := by
      obtain ⟨hlt, rfl⟩ := List.getElem?_eq_some_iff.1 ga
      exact List.drop_eq_getElem_cons hlt
    rw [hd] at hP
    unfold ref1_Ends_l1
    rw [ha]
    simp only [Option.bind_some, applies_eq hm.1 hm.2, dec_not, after_eq ht hm.1 hm.2]
    by_cases c1 : can t c a
    · rw [if_neg (by simpa using c1)]
      refine .inl ⟨_, rfl, ?_⟩
      rw [hP, ends, if_pos (dec_of c1), show (j + 1).toNat = j.toNat + 1 by omega]
    · rw [if_pos (dec_of c1)]
      refine .inr ⟨_, rfl, rfl, ?_⟩
      rw [hP, ends, if_neg (fun h => c1 (dec_true.1 h))]) with ⟨e, h1, h2⟩ | ⟨o, h1, rfl, h2⟩
  · rw [h1, h2]
    simp [ends]
  · rw [h1, h2]; rfl
theorem rWorks_eq {t : TTask} (ht : TaskOk t) {plan : List Int} (hp : ∀ x ∈ plan, 0 ≤ x ∧ x < t.operators.length) (s : List Int) : ref1_Works t s plan = some (dec (works t s plan)) := by
  unfold ref1_Works
  rw [rEnds_eq ht hp]
  unfold works
  cases h : ends t s plan with
  | none => simp only [Option.bind_some, Bool.false_eq_true, if_false]; rw [dec_no]; rintro ⟨e, h1, _⟩; cases h1
  | some e =>
    simp only [Option.bind_some, if_true, subset_eq]
    refine congrArg some (dec_congr ⟨fun g => ⟨e, rfl, g⟩, fun ⟨e', g1, g2⟩ => by cases g1; exact g2⟩)

/-- The states that a plan reaches. -/
noncomputable def run (t : TTask) : List Int → List Int → List (List Int)
  | s, [] => [s]
  | s, op :: r => s :: if dec (can t s op) = true then run t (aft t s op) r else []
theorem run_len {t : TTask} : ∀ {plan s : List Int}, (run t s plan).length ≤ plan.length + 1
  | [], s => by simp [run]
  | op :: r, s => by
    simp only [run, List.length_cons]
    split
    · have := run_len (t := t) (plan := r) (s := aft t s op); omega
    · simp
theorem run_ends {t : TTask} : ∀ {plan s : List Int}, (ends t s plan = none → (run t s plan).length ≠ plan.length + 1) ∧ ∀ e, ends t s plan = some e → (run t s plan).length = plan.length + 1 ∧ (run t s plan)[plan.length]? = some e
  | [], s => ⟨fun h => by simp [ends] at h, fun e h => by cases h; simp [run]⟩
  | op :: r, s => by
    obtain ⟨h1, h2⟩ := run_ends (t := t) (plan := r) (s := aft t s op)
    simp only [ends, run, List.length_cons]
    by_cases c : can t s op
    · rw [ifP c, ifP c]
      exact ⟨fun h => by have := h1 h; omega, fun e h => by obtain ⟨g1, g2⟩ := h2 e h; exact ⟨by omega, by simpa using g2⟩⟩
    · rw [ifN c, ifN c]
      exact ⟨fun _ => by simp, fun e h => by cases h⟩
theorem clone_eq {s : List Int} (h : s.length ≤ 1000000) : slices_Clone_int_int s = some s := by
  rw [slices_Clone_int_int, app, if_pos (by simp; omega)]; rfl
theorem run_eq {t : TTask} (ht : TaskOk t) {plan : List Int} (hp : PlanOk t plan) {s : List Int} (hs : SetN s t.facts) : strips_Run t s plan = some (run t s plan) := by
  have hl := hp.1
  have hsl := hs.len
  have hn := ht.n1
  unfold strips_Run
  rw [clone_eq (by omega)]
  simp only [Option.bind_some]
  obtain ⟨o, h1, h2⟩ := Loop_inv (body := strips_Run_l1 t plan) (fun p => 0 ≤ p.2.2 ∧ p.2.2 ≤ plan.length ∧ SetN p.2.1 t.facts ∧ p.1.length = p.2.2.toNat + 1 ∧ ∃ pre, p.1 = pre ++ [p.2.1] ∧ run t s plan = pre ++ run t p.2.1 (plan.drop p.2.2.toNat))
    (fun o => o = run t s plan) (fun p => (plan.length - p.2.2).toNat) (s := ([s], s, 0)) ⟨by simp, by simp, hs, by simp, [], rfl, by simp⟩ (fun ⟨c, s', j⟩ ⟨g0, g1, g2, g3, pre, g4, g5⟩ => by
      dsimp only at g0 g1 g2 g3 g4 g5 ⊢
      unfold strips_Run_l1
      dsimp only
      by_cases cj : j < plan.length
      · obtain ⟨op, hop, gop⟩ := ix_of (l := plan) g0 cj
        have hm := hp.2 op (ix_mem hop)
        have hd : plan.drop j.toNat = op :: plan.drop (j.toNat + 1) := by
          obtain ⟨hlt, rfl⟩ := List.getElem?_eq_some_iff.1 gop
          exact List.drop_eq_getElem_cons hlt
        rw [hd] at g5
        rw [if_pos cj, hop]
        simp only [Option.bind_some, can_eq ht hm.1 hm.2 g2, dec_not, next_eq ht hm.1 hm.2 g2]
        by_cases cc : can t s' op
        · rw [ifNN cc, app, if_pos (by simp; omega)]
          simp only [Option.bind_some]
          rw [w64_of (by omega) (by omega)]
          refine .inl ⟨_, rfl, ⟨by dsimp only; omega, by dsimp only; omega, setN_aft _ _ _, by simp; omega, c, rfl, ?_⟩, by dsimp only; omega⟩
          dsimp only
          rw [g5, run, ifP cc, g4, show (j + 1).toNat = j.toNat + 1 by omega]
          simp
        · rw [ifP cc]
          refine .inr ⟨_, rfl, ?_⟩
          rw [g5, run, ifN cc, g4]
      · rw [if_neg cj]
        refine .inr ⟨_, rfl, ?_⟩
        rw [g5, List.drop_of_length_le (by omega), run, g4])
  rw [h1, h2]; rfl
theorem sWorks_eq {t : TTask} (ht : TaskOk t) {plan : List Int} (hp : PlanOk t plan) {s : List Int} (hs : SetN s t.facts) : strips_Works t s plan = some (dec (works t s plan)) := by
  have hl := hp.1
  have hn := ht.n1
  unfold strips_Works
  rw [run_eq ht hp hs, w64_of (by omega) (by omega)]
  simp only [Option.bind_some]
  obtain ⟨h1, h2⟩ := run_ends (t := t) (plan := plan) (s := s)
  cases h : ends t s plan with
  | none =>
    rw [if_neg (by have := h1 h; omega)]
    simp only [Option.bind_some]
    rw [dec_no]
    rintro ⟨e, g, _⟩
    rw [h] at g; cases g
  | some e =>
    obtain ⟨g1, g2⟩ := h2 e h
    have he := ends_setN hs h
    have hel := he.len
    rw [if_pos (by omega)]
    simp only [ix_nat, g2, Option.bind_some]
    rw [contains_eq he.1 ht.goal.1 (by omega)]
    simp only [Option.bind_some]
    exact congrArg some (dec_congr ⟨fun g => ⟨e, h, g⟩, fun ⟨e', k1, k2⟩ => by rw [h] at k1; cases k1; exact k2⟩)
theorem solves_eq (t : TTask) (plan : List Int) : ∃ b f, strips_Solves t plan = some (b, f) ∧ ref1_PlanFault t plan = some f ∧ ((f = ⟨0, 0⟩ ∧ TaskOk t ∧ PlanOk t plan ∧ b = dec (works t t.init plan)) ∨ (f.code ≠ 0 ∧ ¬ (TaskOk t ∧ PlanOk t plan) ∧ b = false)) := by
  obtain ⟨f, h1, h2, h3⟩ := planFault_eq t plan
  unfold strips_Solves
  rw [h1, h2]
  simp only [Option.bind_some]
  rcases h3 with ⟨rfl, ht, hp⟩ | ⟨hc, hn⟩
  · rw [if_neg (by simp), sWorks_eq ht hp ht.init]
    exact ⟨_, _, rfl, rfl, .inl ⟨rfl, ht, hp, rfl⟩⟩
  · rw [if_pos (fault_no hc)]
    exact ⟨_, _, rfl, rfl, .inr ⟨hc, hn, rfl⟩⟩
theorem ends_init {t : TTask} {i : List Int} : ∀ {plan s : List Int}, ends ⟨t.facts, i, t.goal, t.operators⟩ s plan = ends t s plan
  | [], s => rfl
  | op :: r, s => by
    simp only [ends]
    rw [ends_init (t := t) (plan := r)]
    rfl
theorem works_init {t : TTask} {i : List Int} {plan s : List Int} : works ⟨t.facts, i, t.goal, t.operators⟩ s plan ↔ works t s plan := by
  unfold works
  rw [ends_init]
end Ab
