/-
  Texts that the proof stands on.
-/
import Derived.Test.YtiooehonogebkaaDoorKRwMergeSpec5
set_option linter.all false
section
namespace Ab
open Go
def opSets (o : TOperator) (n : Int) : Prop := SetN o.pre n ∧ SetN o.add n ∧ SetN o.del n ∧ ∀ x ∈ o.add, x ∉ o.del
def opCost (o : TOperator) : Prop := 0 ≤ o.cost ∧ o.cost ≤ 100
noncomputable def opCode (o : TOperator) (n : Int) : Int := if dec (opSets o n) = true then if dec (opCost o) = true then 0 else 3 else 5
structure TaskOk (t : TTask) : Prop where
  n0 : 0 ≤ t.facts
  n1 : t.facts ≤ 24
  init : SetN t.init t.facts
  goal : SetN t.goal t.facts
  ops : t.operators.length ≤ 40
  op : ∀ o ∈ t.operators, opSets o t.facts ∧ opCost o
theorem opCode_zero {o : TOperator} {n : Int} : opCode o n = 0 ↔ opSets o n ∧ opCost o := by
  unfold opCode
  by_cases h : opSets o n
  · rw [if_pos (dec_of h)]
    by_cases g : opCost o
    · rw [if_pos (dec_of g)]; simp [h, g]
    · rw [if_neg (by rw [dec_no g]; simp)]; simp [g]
  · rw [if_neg (by rw [dec_no h]; simp)]; simp [h]
theorem operator_eq {o : TOperator} {n : Int} (h0 : 0 ≤ n) (h1 : n ≤ 24) : strips_operator o n = some (opCode o n) := by
  unfold strips_operator opCode
  simp only [isSet_eq, Option.bind_some, dec_not]
  have bad : ¬ opSets o n → dec (opSets o n) = true → False := fun h g => h (dec_true.1 g)
  by_cases c1 : SetN o.pre n
  · rw [if_neg (by simpa using c1)]
    by_cases c2 : SetN o.add n
    · rw [if_neg (by simpa using c2)]
      by_cases c3 : SetN o.del n
      · rw [if_neg (by simpa using c3)]
        have hl := c3.len
        rw [meets_eq c3.1 (by omega)]
        simp only [Option.bind_some]
        by_cases c4 : ∃ x ∈ o.add, x ∈ o.del
        · rw [if_pos (dec_of c4), if_neg]
          rw [dec_true]
          obtain ⟨x, g1, g2⟩ := c4
          exact fun h => h.2.2.2 x g1 g2
        · have hs : opSets o n := ⟨c1, c2, c3, fun x g1 g2 => c4 ⟨x, g1, g2⟩⟩
          rw [if_neg (by rw [dec_no c4]; simp), if_pos (dec_of hs)]
          by_cases c5 : opCost o
          · rw [if_pos (dec_of c5), if_neg]
            have := c5.1; have := c5.2
            simp; omega
          · rw [if_neg (fun h => c5 (dec_true.1 h)), if_pos]
            unfold opCost at c5
            simp; omega
      · rw [if_pos (by simpa using c3)]
        simp only [Option.bind_some, if_true]
        rw [if_neg fun h => c3 (dec_true.1 h).2.2.1]
    · rw [if_pos (by simpa using c2)]
      simp only [Option.bind_some, if_true]
      rw [if_neg fun h => c2 (dec_true.1 h).2.1]
  · rw [if_pos (by simpa using c1)]
    simp only [Option.bind_some, if_true]
    rw [if_neg fun h => c1 (dec_true.1 h).1]
theorem validate_eq (t : TTask) : ∃ f, strips_Validate t = some f ∧ ref1_TaskFault t = some f ∧ ((f = ⟨0, 0⟩ ∧ TaskOk t) ∨ (f.code ≠ 0 ∧ ¬ TaskOk t)) := by
  unfold strips_Validate ref1_TaskFault
  simp only [in_eq, at_eq, Option.bind_some, dec_not]
  by_cases c1 : 0 ≤ t.facts ∧ t.facts ≤ 24
  · rw [if_neg (by simp; omega), ifNN c1]
    simp only [isSet_eq, rIsSet_eq (n := t.facts) _ (by omega) (by omega), Option.bind_some, dec_not]
    by_cases c2 : SetN t.init t.facts
    · rw [ifNN c2, ifNN c2]
      by_cases c3 : SetN t.goal t.facts
      · rw [ifNN c3, ifNN c3]
        by_cases c4 : 40 < (t.operators.length : Int)
        · rw [if_pos c4, if_pos c4]
          exact ⟨_, rfl, rfl, .inr ⟨by simp, fun h => by have := h.ops; omega⟩⟩
        · rw [if_neg c4, if_neg c4]
          have hb : ∀ j : Int, 0 ≤ j → j < t.operators.length → ∃ o, ix t.operators j = some o ∧ strips_Validate_l1 t j () = some (if opCode o t.facts = 0 then .inl () else .inr ⟨opCode o t.facts, j⟩) ∧ ref1_TaskFault_l1 t j () = some (if opCode o t.facts = 0 then .inl () else .inr ⟨opCode o t.facts, j⟩) := fun j h0 h1 => by
            obtain ⟨o, ho, _⟩ := ix_of (l := t.operators) h0 h1
            refine ⟨o, ho, ?_, ?_⟩
            · unfold strips_Validate_l1
              rw [ho]
              simp only [Option.bind_some, operator_eq c1.1 c1.2]
              by_cases e : opCode o t.facts = 0
              · rw [if_pos e, if_pos e]
              · rw [if_neg e, if_neg e]
            · unfold ref1_TaskFault_l1
              rw [ho]
              simp only [Option.bind_some, rIsSet_eq (n := t.facts) _ (show -9223372036854775808 < t.facts by omega) (show t.facts ≤ 9223372036854775807 by omega), disjoint_eq, in_eq, at_eq, dec_not]
              have hp : (if dec (¬ SetN o.pre t.facts) = true then some true else if dec (¬ SetN o.add t.facts) = true then some true else if dec (¬ SetN o.del t.facts) = true then some true else some (dec (¬ ∀ x ∈ o.add, x ∉ o.del))) = some (dec (¬ opSets o t.facts)) := by
                unfold opSets
                by_cases g1 : SetN o.pre t.facts
                · rw [if_neg (by simpa using g1)]
                  by_cases g2 : SetN o.add t.facts
                  · rw [if_neg (by simpa using g2)]
                    by_cases g3 : SetN o.del t.facts
                    · rw [if_neg (by simpa using g3)]
                      exact congrArg some (dec_congr ⟨fun h g => h g.2.2.2, fun h g => h ⟨g1, g2, g3, g⟩⟩)
                    · rw [if_pos (by simpa using g3), dec_of (fun g => g3 g.2.2.1)]
                  · rw [if_pos (by simpa using g2), dec_of (fun g => g2 g.2.1)]
                · rw [if_pos (by simpa using g1), dec_of (fun g => g1 g.1)]
              rw [hp]
              simp only [Option.bind_some]
              unfold opCode
              by_cases g1 : opSets o t.facts
              · rw [if_neg (by simpa using g1), if_pos (dec_of g1)]
                by_cases g2 : opCost o
                · rw [ifP g2, ifNN (p := 0 ≤ o.cost ∧ o.cost ≤ 100) g2]; rfl
                · rw [ifN g2, ifP (p := ¬ (0 ≤ o.cost ∧ o.cost ≤ 100)) g2]; rfl
              · rw [if_pos (dec_of g1), if_neg (fun h => g1 (dec_true.1 h))]; rfl
          have heq : rngX 0 (t.operators.length : Int) (strips_Validate_l1 t) () = rngX 0 (t.operators.length : Int) (ref1_TaskFault_l1 t) () :=
            (rngX_eq (fun _ _ => True) (by omega) trivial (fun j s h0 h1 _ => by
              obtain ⟨o, _, e1, e2⟩ := hb j h0 h1
              exact ⟨by rw [e1, e2], by rw [e1]; simp, fun _ _ => trivial⟩)).1
          rcases rngX_test (body := ref1_TaskFault_l1 t) (n := (t.operators.length : Int)) (fun j => match ix t.operators j with | some o => if opCode o t.facts = 0 then none else some (⟨opCode o t.facts, j⟩ : TFault) | none => none) (by omega) (fun j h0 h1 _ => by
            obtain ⟨o, e0, _, e2⟩ := hb j h0 h1
            rw [e2, e0]
            dsimp only
            split <;> rfl) with ⟨h1, h2⟩ | ⟨j, f, h0, h1, h2, _, h4⟩
          · rw [heq, h1]
            refine ⟨⟨0, 0⟩, rfl, rfl, .inl ⟨rfl, c1.1, c1.2, c2, c3, by omega, fun o ho => ?_⟩⟩
            obtain ⟨j, g0, g1, g2⟩ := mem_ix ho
            have := h2 j g0 g1
            rw [g2] at this
            dsimp only at this
            split at this
            · rename_i e; exact opCode_zero.1 e
            · cases this
          · rw [heq, h4]
            obtain ⟨o, e0, _, _⟩ := hb j h0 h1
            rw [e0] at h2
            dsimp only at h2
            split at h2
            · cases h2
            · rename_i e
              cases h2
              exact ⟨_, rfl, rfl, .inr ⟨e, fun h => e (opCode_zero.2 (h.op o (ix_mem e0)))⟩⟩
      · rw [ifP c3, ifP c3]
        exact ⟨_, rfl, rfl, .inr ⟨by simp, fun h => c3 h.goal⟩⟩
    · rw [ifP c2, ifP c2]
      exact ⟨_, rfl, rfl, .inr ⟨by simp, fun h => c2 h.init⟩⟩
  · rw [if_pos (by simp; omega), if_pos (dec_of c1)]
    exact ⟨_, rfl, rfl, .inr ⟨by simp, fun h => c1 ⟨h.n0, h.n1⟩⟩⟩
theorem fault_no {f : TFault} (h : f.code ≠ 0) : (!((decide (f.code = 0)) && (decide (f.index = 0)))) = true := by simp [h]
theorem rSteps_eq {n : Int} (h0 : 0 ≤ n) (h1 : n ≤ 9223372036854775807) (plan : List Int) : ∃ f, ref1_StepsFault n plan = some f ∧ ((f = ⟨0, 0⟩ ∧ plan.length ≤ 60 ∧ ∀ x ∈ plan, 0 ≤ x ∧ x < n) ∨ (f.code ≠ 0 ∧ ¬ (plan.length ≤ 60 ∧ ∀ x ∈ plan, 0 ≤ x ∧ x < n))) := by
  unfold ref1_StepsFault
  by_cases c : 60 < (plan.length : Int)
  · rw [if_pos c]
    exact ⟨⟨2, -5⟩, rfl, .inr ⟨by simp, fun h => by omega⟩⟩
  · rw [if_neg c]
    rw [rng_list (l := plan) (fun x => 0 ≤ x ∧ x < n) (⟨3, -6⟩ : TFault) (fun j a h => by
      unfold ref1_StepsFault_l1
      rw [h]
      simp only [Option.bind_some, in_eq, at_eq, w64_of (n := n - 1) (by omega) (by omega), dec_not]
      by_cases g : 0 ≤ a ∧ a < n
      · rw [if_neg (by simp; omega)]; exact .inl ⟨g, rfl⟩
      · rw [if_pos (by rw [dec_true]; omega)]; exact .inr ⟨g, rfl⟩)]
    by_cases g : ∀ x ∈ plan, 0 ≤ x ∧ x < n
    · rw [if_pos (dec_of g)]
      exact ⟨_, rfl, .inl ⟨rfl, by omega, g⟩⟩
    · rw [if_neg (fun h => g (dec_true.1 h))]
      exact ⟨_, rfl, .inr ⟨by simp, fun h => g h.2⟩⟩
/-! ### What operators and plans do -/
def noOp : TOperator := ⟨[], [], [], 0⟩
def opAt (t : TTask) (op : Int) : TOperator := (t.operators[op.toNat]?).getD noOp
theorem ix_op {t : TTask} {op : Int} (h0 : 0 ≤ op) (h1 : op < t.operators.length) : ix t.operators op = some (opAt t op) := by
  obtain ⟨a, h2, h3⟩ := ix_of h0 h1
  rw [h2, opAt, h3]; rfl
theorem TaskOk.at {t : TTask} (h : TaskOk t) {op : Int} (h0 : 0 ≤ op) (h1 : op < t.operators.length) : opSets (opAt t op) t.facts ∧ opCost (opAt t op) := h.op _ (ix_mem (ix_op h0 h1))
def can (t : TTask) (s : List Int) (op : Int) : Prop := ∀ x ∈ (opAt t op).pre, x ∈ s
noncomputable def aft (t : TTask) (s : List Int) (op : Int) : List Int := setOf (fun x => x ∈ (opAt t op).add ∨ x ∈ s ∧ x ∉ (opAt t op).del) t.facts
theorem setN_aft (t : TTask) (s : List Int) (op : Int) : SetN (aft t s op) t.facts := setN_setOf _ _
theorem applies_eq {t : TTask} {op : Int} (h0 : 0 ≤ op) (h1 : op < t.operators.length) (s : List Int) : ref1_Applies t s op = some (dec (can t s op)) := by
  unfold ref1_Applies
  rw [ix_op h0 h1]
  simp only [Option.bind_some, subset_eq]
  rfl
theorem after_eq {t : TTask} (ht : TaskOk t) {op : Int} (h0 : 0 ≤ op) (h1 : op < t.operators.length) (s : List Int) : ref1_After t s op = some (aft t s op) := by
  have := ht.n1
  unfold ref1_After
  rw [if_pos (by omega)]
  rw [forR_setOf (b := 8) (fun x => x ∈ (opAt t op).add ∨ x ∈ s ∧ x ∉ (opAt t op).del) ht.n0 (by omega) (fun j c g0 g1 => by
    unfold ref1_After_l1
    simp only [ix_op h0 h1, Option.bind_some, has_eq, dec_not]
    have e : (if dec (j ∈ (opAt t op).add) = true then some true else if dec (j ∈ s) = true then some (dec (j ∉ (opAt t op).del)) else some false) = some (dec (j ∈ (opAt t op).add ∨ j ∈ s ∧ j ∉ (opAt t op).del)) := by
      by_cases c1 : j ∈ (opAt t op).add
      · rw [if_pos (dec_of c1), dec_of (.inl c1)]
      · rw [if_neg (fun h => c1 (dec_true.1 h))]
        by_cases c2 : j ∈ s
        · rw [if_pos (dec_of c2)]
          exact congrArg some (dec_congr ⟨fun h => .inr ⟨c2, h⟩, fun h => (h.resolve_left c1).2⟩)
        · rw [if_neg (fun h => c2 (dec_true.1 h)), dec_no (fun h => c2 (h.resolve_left c1).1)]
    rw [e]
    simp only [Option.bind_some]
    refine ⟨fun hq => ?_, fun hq => ?_⟩
    · rw [if_pos (dec_of hq)]
      cases app 8 c [j] <;> rfl
    · rw [if_neg (fun h => hq (dec_true.1 h))]; rfl)]
  rfl
theorem can_eq {t : TTask} (ht : TaskOk t) {op : Int} (h0 : 0 ≤ op) (h1 : op < t.operators.length) {s : List Int} (hs : SetN s t.facts) : strips_Can t s op = some (dec (can t s op)) := by
  have := ht.n1; have := hs.len
  unfold strips_Can
  rw [ix_op h0 h1]
  simp only [Option.bind_some]
  rw [contains_eq hs.1 (ht.at h0 h1).1.1.1 (by omega)]
  rfl
theorem next_eq {t : TTask} (ht : TaskOk t) {op : Int} (h0 : 0 ≤ op) (h1 : op < t.operators.length) {s : List Int} (hs : SetN s t.facts) : strips_Next t s op = some (aft t s op) := by
  have := ht.n1
  obtain ⟨⟨_, k2, k3, _⟩, _⟩ := ht.at h0 h1
  have hl := k3.len
  unfold strips_Next
  rw [ix_op h0 h1]
  simp only [Option.bind_some]
  rw [update_eq (n := t.facts) (by omega) k3.1 (by omega) hs k2]
  simp only [Option.bind_some, aft]
  exact congrArg some (setOf_congr fun x _ _ => Or.comm)
/-- The state in which a plan ends, if its steps are applicable. -/
noncomputable def ends (t : TTask) : List Int → List Int → Option (List Int)
  | s, [] => some s
  | s, op :: r => if dec (can t s op) = true then ends t (aft t s op) r else none
theorem ends_append {t : TTask} : ∀ {p q s : List Int}, ends t s (p ++ q) = (ends t s p).bind fun e => ends t e q
  | [], q, s => rfl
  | op :: r, q, s => by
    simp only [List.cons_append, ends]
    split
    · exact ends_append
    · rfl
theorem rEnds_eq {t : TTask} (ht : TaskOk t) {plan : List Int} (hp : ∀ x ∈ plan, 0 ≤ x ∧ x < t.operators.length) (s : List Int) : ref1_Ends t s plan = some (match ends t s plan with | some e => (e, true) | none => ([], false)) := by
  unfold ref1_Ends
  rcases rngX_inv (body := ref1_Ends_l1 t plan) (n := (plan.length : Int)) (fun j c => ends t s plan = ends t c (plan.drop j.toNat)) (fun o => o = ([], false) ∧ ends t s plan = none) (s := s) (by omega) (by simp) (fun j c g0 g1 hP => by
    obtain ⟨a, ha, ga⟩ := ix_of (l := plan) g0 g1
    have hm := hp a (ix_mem ha)
    have hd : plan.drop j.toNat = a :: plan.drop (j.toNat + 1) := by
      obtain ⟨hlt, rfl⟩ := List.getElem?_eq_some_iff.1 ga
      exact List.drop_eq_getElem_cons hlt
    rw [hd] at hP
    unfold ref1_Ends_l1
    rw [ha]
    simp only [Option.bind_some, applies_eq hm.1 hm.2, dec_not, after_eq ht hm.1 hm.2]
    by_cases c1 : can t c a
    · rw [if_neg (by simpa using c1)]
      refine .inl ⟨_, rfl, ?_⟩
      rw [hP, ends, if_pos (dec_of c1), show (j + 1).toNat = j.toNat + 1 by omega]
    · rw [if_pos (dec_of c1)]
      refine .inr ⟨_, rfl, rfl, ?_⟩
      rw [hP, ends, if_neg (fun h => c1 (dec_true.1 h))]) with ⟨e, h1, h2⟩ | ⟨o, h1, rfl, h2⟩
  · rw [h1, h2]
    simp [ends]
  · rw [h1, h2]; rfl
theorem clone_eq {s : List Int} (h : s.length ≤ 1000000) : slices_Clone_int_int s = some s := by
  rw [slices_Clone_int_int, app, if_pos (by simp; omega)]; rfl
end Ab
end
section
namespace Ab
open Go
/-- A number under 100 in decimal digits. -/
def dg (x : Int) : List Int := if x < 10 then [48 + x] else [48 + x / 10, 48 + x % 10]
def encS (s : List Int) : List Int := s.flatMap (fun x => dg x ++ [44]) ++ [59]
def encK (l : List (List Int)) : List Int := l.flatMap encS
def small (s : List Int) : Prop := ∀ x ∈ s, 0 ≤ x ∧ x < 100
theorem dg_split {x y : Int} (hx : 0 ≤ x ∧ x < 100) (hy : 0 ≤ y ∧ y < 100) {r r' : List Int} (h : dg x ++ 44 :: r = dg y ++ 44 :: r') : x = y ∧ r = r' := by
  unfold dg at h
  split at h <;> split at h <;> simp only [List.cons_append, List.nil_append, List.cons.injEq] at h
  · exact ⟨by omega, h.2.2⟩
  · exfalso; omega
  · exfalso; omega
  · exact ⟨by omega, h.2.2.2⟩
theorem dg_head {x : Int} (hx : 0 ≤ x ∧ x < 100) : ∃ a l, dg x = a :: l ∧ 48 ≤ a ∧ a < 58 := by
  unfold dg
  split
  · exact ⟨_, _, rfl, by omega, by omega⟩
  · exact ⟨_, _, rfl, by omega, by omega⟩
theorem encS_cons (x : Int) (s : List Int) : encS (x :: s) = dg x ++ 44 :: encS s := by simp [encS]
theorem encS_inj : ∀ {s s' r r' : List Int}, small s → small s' → encS s ++ r = encS s' ++ r' → s = s' ∧ r = r'
  | [], [], r, r', _, _, h => by simp [encS] at h; exact ⟨rfl, h⟩
  | [], y :: s', r, r', _, h2, h => by
    obtain ⟨a, l, ha, h3, h4⟩ := dg_head (h2 y (by simp))
    rw [encS_cons, ha] at h
    simp only [encS, List.flatMap_nil, List.nil_append, List.cons_append, List.cons.injEq] at h
    omega
  | x :: s, [], r, r', h1, _, h => by
    obtain ⟨a, l, ha, h3, h4⟩ := dg_head (h1 x (by simp))
    rw [encS_cons, ha] at h
    simp only [encS, List.flatMap_nil, List.nil_append, List.cons_append, List.cons.injEq] at h
    omega
  | x :: s, y :: s', r, r', h1, h2, h => by
    rw [encS_cons, encS_cons, List.append_assoc, List.append_assoc, List.cons_append, List.cons_append] at h
    obtain ⟨rfl, g⟩ := dg_split (h1 x (by simp)) (h2 y (by simp)) h
    obtain ⟨e1, e2⟩ := encS_inj (s := s) (s' := s') (fun z hz => h1 z (List.mem_cons_of_mem _ hz)) (fun z hz => h2 z (List.mem_cons_of_mem _ hz)) g
    exact ⟨by rw [e1], e2⟩
theorem encK_inj : ∀ {l l' : List (List Int)}, (∀ s ∈ l, small s) → (∀ s ∈ l', small s) → encK l = encK l' → l = l'
  | [], [], _, _, _ => rfl
  | [], s :: l', _, _, h => by
    have h := congrArg List.length h
    simp only [encK, encS, List.flatMap_nil, List.flatMap_cons, List.length_append, List.length_nil, List.length_cons] at h
    omega
  | s :: l, [], _, _, h => by
    have h := congrArg List.length h
    simp only [encK, encS, List.flatMap_nil, List.flatMap_cons, List.length_append, List.length_nil, List.length_cons] at h
    omega
  | s :: l, s' :: l', h1, h2, h => by
    have h : encS s ++ encK l = encS s' ++ encK l' := h
    obtain ⟨e1, e2⟩ := encS_inj (h1 s (List.mem_cons_self ..)) (h2 s' (List.mem_cons_self ..)) h
    have e3 := encK_inj (l := l) (l' := l') (fun z hz => h1 z (List.mem_cons_of_mem _ hz)) (fun z hz => h2 z (List.mem_cons_of_mem _ hz)) e2
    rw [e1, e3]
theorem dg_byte {x : Int} (hx : 0 ≤ x ∧ x < 100) : ∀ a ∈ dg x, 0 ≤ a ∧ a < 256 := by
  intro a ha
  unfold dg at ha
  split at ha <;> simp at ha <;> omega
theorem encS_byte {s : List Int} (h : small s) : ∀ a ∈ encS s, 0 ≤ a ∧ a < 256 := by
  intro a ha
  simp only [encS, List.mem_append, List.mem_flatMap, List.mem_singleton] at ha
  rcases ha with ⟨x, hx, h1 | h1⟩ | h1
  · exact dg_byte (h x hx) a h1
  · omega
  · omega
theorem encK_byte {l : List (List Int)} (h : ∀ s ∈ l, small s) : ∀ a ∈ encK l, 0 ≤ a ∧ a < 256 := by
  intro a ha
  simp only [encK, List.mem_flatMap] at ha
  obtain ⟨s, hs, h1⟩ := ha
  exact encS_byte (h s hs) a h1
theorem strB_inj {l l' : List Int} (h1 : ∀ a ∈ l, 0 ≤ a ∧ a < 256) (h2 : ∀ a ∈ l', 0 ≤ a ∧ a < 256) (h : strB l = strB l') : l = l' := by
  have h3 : l.map (fun n => UInt8.ofNat n.toNat) = l'.map (fun n => UInt8.ofNat n.toNat) := by
    have := congrArg ByteArray.data h
    simpa [strB] using this
  have back : ∀ {m : List Int}, (∀ a ∈ m, 0 ≤ a ∧ a < 256) → (m.map (fun n => UInt8.ofNat n.toNat)).map (fun b => (b.toNat : Int)) = m := by
    intro m hm
    rw [List.map_map]
    conv => rhs; rw [← List.map_id m]
    apply List.map_congr_left
    intro a ha
    have := hm a ha
    simp only [Function.comp_apply, id_eq, UInt8.toNat_ofNat']
    omega
  rw [← back h1, ← back h2, h3]
/-- The key of a list of sets. -/
def keyK (l : List (List Int)) : ByteArray := strB (encK l)
theorem keyK_inj {l l' : List (List Int)} (h1 : ∀ s ∈ l, small s) (h2 : ∀ s ∈ l', small s) (h : keyK l = keyK l') : l = l' := encK_inj h1 h2 (strB_inj (encK_byte h1) (encK_byte h2) h)
/-! ### Maps -/
theorem mget_mset {K V : Type} [DecidableEq K] (k k' : K) (v : V) : ∀ m : List (K × V), mget (mset m k v) k' = if k' = k then some v else mget m k'
  | [] => by
    simp only [mset, mget]
  | p :: r => by
    simp only [mset]
    by_cases h : k = p.1
    · rw [if_pos h]
      simp only [mget]
      by_cases h2 : k' = k
      · rw [if_pos h2, if_pos h2]
      · rw [if_neg h2, if_neg h2, if_neg (by rw [← h]; exact h2)]
    · rw [if_neg h]
      simp only [mget]
      rw [mget_mset k k' v r]
      by_cases h2 : k' = p.1
      · rw [if_pos h2, if_pos h2, if_neg (fun e => h (e.symm.trans h2))]
      · rw [if_neg h2, if_neg h2]
end Ab
end
section
namespace Ab
open Go
def lexLe : List Int → List Int → Prop
  | [], _ => True
  | _ :: _, [] => False
  | a :: l, b :: m => a < b ∨ a = b ∧ lexLe l m
theorem lexLe.antisymm : ∀ {l m : List Int}, lexLe l m → lexLe m l → l = m
  | [], [], _, _ => rfl
  | [], _ :: _, _, h => h.elim
  | _ :: _, [], h, _ => h.elim
  | a :: l, b :: m, h, g => by
    simp only [lexLe] at h g
    rcases h with h | ⟨rfl, h⟩
    · rcases g with g | ⟨rfl, g⟩ <;> omega
    · rcases g with g | ⟨_, g⟩
      · omega
      · rw [h.antisymm g]
theorem lexLe.refl : ∀ l : List Int, lexLe l l
  | [] => trivial
  | a :: l => .inr ⟨rfl, lexLe.refl l⟩
/-- The step of party p that comes next. -/
def nxt (plans : List (List Int)) (at_ : List Int) (p : Int) : Option Int := (ix plans p).bind fun l => (ix at_ p).bind fun a => ix l a
def bump (at_ : List Int) (p : Int) : List Int := at_.set p.toNat ((ix at_ p).getD 0 + 1)
/-- How far each party is. -/
structure AtOk (plans : List (List Int)) (at_ : List Int) : Prop where
  len : at_.length = plans.length
  rng : ∀ p l a, ix plans p = some l → ix at_ p = some a → 0 ≤ a ∧ a ≤ l.length
def allDone (plans : List (List Int)) (at_ : List Int) : Prop := ∀ p l a, ix plans p = some l → ix at_ p = some a → a = l.length
def good (t : TTask) (plans : List (List Int)) (gs : List Int) : List Int → List Int → List Int → Prop
  | s, at_, [] => allDone plans at_ ∧ ∀ x ∈ gs, x ∈ s
  | s, at_, p :: l => ∃ op, nxt plans at_ p = some op ∧ can t s op ∧ good t plans gs (aft t s op) (bump at_ p) l
def Least (t : TTask) (plans : List (List Int)) (gs : List Int) (s at_ l : List Int) : Prop := good t plans gs s at_ l ∧ ∀ m, good t plans gs s at_ m → lexLe l m
theorem AtOk.get {plans : List (List Int)} {at_ : List Int} (h : AtOk plans at_) {p : Int} {l : List Int} (hp : ix plans p = some l) : ∃ a, ix at_ p = some a ∧ 0 ≤ a ∧ a ≤ l.length := by
  obtain ⟨h0, h1, _⟩ := ix_lo hp
  obtain ⟨a, ha, _⟩ := ix_of (l := at_) h0 (by rw [h.len]; exact h1)
  exact ⟨a, ha, h.rng p l a hp ha⟩
theorem nxt_some {plans : List (List Int)} {at_ : List Int} {p op : Int} (h : nxt plans at_ p = some op) : ∃ l a, ix plans p = some l ∧ ix at_ p = some a ∧ ix l a = some op := by
  unfold nxt at h
  cases h1 : ix plans p with
  | none => rw [h1] at h; cases h
  | some l =>
    cases h2 : ix at_ p with
    | none => rw [h1, h2] at h; cases h
    | some a => rw [h1, h2] at h; exact ⟨l, a, rfl, rfl, h⟩
theorem nxt_of {plans : List (List Int)} {at_ : List Int} {p op a : Int} {l : List Int} (h1 : ix plans p = some l) (h2 : ix at_ p = some a) (h3 : ix l a = some op) : nxt plans at_ p = some op := by
  unfold nxt
  rw [h1, h2]
  exact h3
theorem bump_eq {at_ : List Int} {p a : Int} (h : ix at_ p = some a) : bump at_ p = at_.set p.toNat (a + 1) := by
  unfold bump
  rw [h]; rfl
theorem ix_bump {at_ : List Int} {p a q : Int} (h : ix at_ p = some a) (hq : 0 ≤ q) : ix (bump at_ p) q = if q = p then some (a + 1) else ix at_ q := by
  obtain ⟨h0, h1, _⟩ := ix_lo h
  rw [bump_eq h, ix_put h0 h1 hq]
theorem AtOk.bump {plans : List (List Int)} {at_ : List Int} (h : AtOk plans at_) {p op : Int} (hn : nxt plans at_ p = some op) : AtOk plans (bump at_ p) := by
  obtain ⟨l, a, h1, h2, h3⟩ := nxt_some hn
  refine ⟨by rw [bump_eq h2, List.length_set]; exact h.len, fun q m b hq hb => ?_⟩
  obtain ⟨q0, _, _⟩ := ix_lo hq
  rw [ix_bump h2 q0] at hb
  split at hb
  · rename_i e
    subst e
    rw [h1] at hq
    cases hq; cases hb
    obtain ⟨a0, a1, _⟩ := ix_lo h3
    omega
  · exact h.rng q m b hq hb
/-- The steps that are left. -/
def left (plans : List (List Int)) (at_ : List Int) : Nat := ((List.zip plans at_).map fun x => x.1.length - x.2.toNat).sum
theorem left_bump : ∀ {plans : List (List Int)} {at_ : List Int} {p : Nat} {l : List Int} {a : Int}, plans[p]? = some l → at_[p]? = some a → 0 ≤ a → a < l.length → left plans (at_.set p (a + 1)) + 1 = left plans at_
  | l0 :: plans, a0 :: at_, 0, l, a, h1, h2, h3, h4 => by
    simp only [List.getElem?_cons_zero, Option.some.injEq] at h1 h2
    subst h1 h2
    simp only [List.set_cons_zero, left, List.zip_cons_cons, List.map_cons, List.sum_cons]
    omega
  | l0 :: plans, a0 :: at_, p + 1, l, a, h1, h2, h3, h4 => by
    have := left_bump (plans := plans) (at_ := at_) (p := p) (by simpa using h1) (by simpa using h2) h3 h4
    simp only [List.set_cons_succ, left, List.zip_cons_cons, List.map_cons, List.sum_cons] at this ⊢
    omega
  | [], _, _, _, _, h, _, _, _ => by simp at h
  | _ :: _, [], _, _, _, _, h, _, _ => by simp at h
theorem nxt_left {plans : List (List Int)} {at_ : List Int} {p op : Int} (hn : nxt plans at_ p = some op) : left plans (bump at_ p) + 1 = left plans at_ := by
  obtain ⟨l, a, h1, h2, h3⟩ := nxt_some hn
  obtain ⟨p0, p1, p2⟩ := ix_lo h1
  obtain ⟨_, _, q2⟩ := ix_lo h2
  obtain ⟨a0, a1, _⟩ := ix_lo h3
  rw [bump_eq h2]
  exact left_bump p2 q2 a0 a1
theorem good_len {t : TTask} {plans : List (List Int)} {gs : List Int} : ∀ {l s at_ : List Int}, AtOk plans at_ → good t plans gs s at_ l → l.length = left plans at_
  | [], s, at_, ha, h => by
    have : ∀ (plans : List (List Int)) (at_ : List Int), (∀ (k : Nat) (l : List Int) (a : Int), plans[k]? = some l → at_[k]? = some a → a = (l.length : Int)) → left plans at_ = 0 := by
      intro plans
      induction plans with
      | nil => intro at_ _; simp [left]
      | cons l plans ih =>
        intro at_ h
        cases at_ with
        | nil => simp [left]
        | cons a at_ =>
          have h0 := h 0 l a rfl rfl
          have h1 := ih at_ fun k l a h1 h2 => h (k + 1) l a (by simpa using h1) (by simpa using h2)
          simp only [left, List.zip_cons_cons, List.map_cons, List.sum_cons] at h1 ⊢
          omega
    rw [this plans at_ fun k l a h1 h2 => h.1 k l a (by rw [ix_nat]; exact h1) (by rw [ix_nat]; exact h2)]
    rfl
  | p :: l, s, at_, ha, h => by
    obtain ⟨op, h1, _, h3⟩ := h
    have := good_len (ha.bump h1) h3
    have := nxt_left h1
    simp only [List.length_cons]
    omega
end Ab
end
section
namespace Ab
open Go
theorem numbers_eq (a b : List Int) : equal_Numbers a b = some (dec (a = b)) := by
  unfold equal_Numbers
  by_cases hl : (a.length : Int) = b.length
  · rw [if_pos hl]
    rcases rngX_test (body := equal_Numbers_l1 a b) (n := (a.length : Int)) (fun j => if dec (ix a j = ix b j) = true then none else some false) (by omega) (fun j h0 h1 _ => by
      obtain ⟨x, hx, _⟩ := ix_of (l := a) h0 h1
      obtain ⟨y, hy, _⟩ := ix_of (l := b) (i := j) h0 (by omega)
      unfold equal_Numbers_l1
      rw [hx, hy]
      simp only [Option.bind_some]
      by_cases e : x = y
      · rw [if_pos e, ifP (by rw [e])]
      · rw [if_neg e, ifN (by simpa using e)]) with ⟨h1, h2⟩ | ⟨j, o, h0, h1, h2, _, h4⟩
    · rw [h1, dec_of]
      · rfl
      · refine List.ext_getElem? fun k => ?_
        by_cases hk : k < a.length
        · have := h2 k (by omega) (by omega)
          split at this
          · rename_i e
            have := dec_true.1 e
            rwa [ix_nat, ix_nat] at this
          · cases this
        · rw [List.getElem?_eq_none (by omega), List.getElem?_eq_none (by omega)]
    · rw [h4]
      split at h2
      · cases h2
      · rename_i e
        cases h2
        rw [dec_no (fun h => e (dec_of (by rw [h])))]; rfl
  · rw [if_neg hl, dec_no (fun h => hl (by rw [h]))]
def stepT : TTask := ⟨2, [0], [1], [⟨[0], [1], [0], 1⟩, ⟨[], [1], [], 3⟩]⟩
theorem setN1 (a : Int) {n : Int} (h0 : 0 ≤ a) (h1 : a < n) : SetN [a] n := ⟨by simp, by simp [h0, h1]⟩
theorem step_ok : TaskOk stepT where
  n0 := by decide
  n1 := by decide
  init := setN1 0 (by decide) (by decide)
  goal := setN1 1 (by decide) (by decide)
  ops := by decide
  op o ho := by
    simp only [stepT, List.mem_cons, List.not_mem_nil, or_false] at ho
    rcases ho with rfl | rfl
    · exact ⟨⟨setN1 0 (by decide) (by decide), setN1 1 (by decide) (by decide), setN1 0 (by decide) (by decide), by simp⟩, by decide, by decide⟩
    · exact ⟨⟨setN_nil _, setN1 1 (by decide) (by decide), setN_nil _, by simp⟩, by decide, by decide⟩
end Ab
end
section
namespace Ab
open Go
/-- A list made by appending a piece for each element. -/
theorem forR_flatMap {α β : Type} {l : List α} {body : Int → List β → Option (List β)} (g : α → List β) (N : Nat) (c0 : List β)
    (hb : ∀ j a c, ix l j = some a → c.length + (g a).length ≤ N → body j c = some (c ++ g a)) (hN : c0.length + (l.flatMap g).length ≤ N) :
    forR 0 (l.length : Int) body c0 = some (c0 ++ l.flatMap g) := by
  obtain ⟨s', h1, h2⟩ := forR_inv (body := body) (n := (l.length : Int)) (s := c0) (fun j c => c = c0 ++ (l.take j.toNat).flatMap g) (by omega) (by simp) (fun j c h0 h1 hP => by
    obtain ⟨a, g1, g2⟩ := ix_of h0 h1
    have e : (j + 1).toNat = j.toNat + 1 := by omega
    have ht : l.take (j + 1).toNat = l.take j.toNat ++ [a] := by rw [e, List.take_add_one, g2]; rfl
    refine ⟨c ++ g a, hb j a c g1 ?_, ?_⟩
    · have hs : l = l.take j.toNat ++ [a] ++ l.drop (j + 1).toNat := by rw [← ht, List.take_append_drop]
      have hl : (l.flatMap g).length = ((l.take j.toNat).flatMap g).length + (g a).length + ((l.drop (j + 1).toNat).flatMap g).length := by
        conv => lhs; rw [hs]
        simp [List.flatMap_append]; omega
      rw [hP, List.length_append]; omega
    · rw [ht, List.flatMap_append, hP]; simp)
  rw [h1, h2]
  simp
theorem small_eq : ∀ n : Fin 100, (internal_strconv_small (n : Nat)).map strL = some (dg (n : Nat)) := by decide +kernel
theorem appendInt_eq {x : Int} (hx : 0 ≤ x ∧ x < 100) {l : List Int} (hl : l.length ≤ 1000000) : strconv_AppendInt_w1 x 10 l = some (l ++ dg x) := by
  have h := small_eq ⟨x.toNat, by omega⟩
  rw [show (((⟨x.toNat, by omega⟩ : Fin 100) : Nat) : Int) = x by simp; omega] at h
  obtain ⟨b, h1, h2⟩ := Option.map_eq_some_iff.1 h
  unfold strconv_AppendInt_w1 internal_strconv_AppendInt_w2 internal_strconv_AppendUint_w3
  rw [if_neg (by omega), IntKind.wrap_u64, Int.emod_eq_of_lt (by omega) (by omega)]
  simp only [Option.bind_some, if_true]
  rw [if_pos hx.2, w64_of (by omega) (by omega), h1]
  simp only [Option.bind_some, h2]
  have : (dg x).length ≤ 2 := by unfold dg; split <;> simp
  rw [app, if_pos (by omega)]
  rfl
theorem dg_len (x : Int) : (dg x).length ≤ 2 := by unfold dg; split <;> simp
theorem key_eq {l : List (List Int)} (hs : ∀ s ∈ l, small s) (hN : (encK l).length ≤ 900000) : belief_Key l = some (keyK l) := by
  unfold belief_Key
  rw [forR_flatMap encS 900000 [] (fun j s c hj hc => by
    unfold belief_Key_l1
    rw [hj]
    simp only [Option.bind_some]
    have hlen : (encS s).length = (s.flatMap fun x => dg x ++ [44]).length + 1 := by simp [encS]
    rw [forR_flatMap (fun x => dg x ++ [44]) 900000 c (fun i x c' hi hc' => by
      unfold belief_Key_l2
      rw [hi]
      simp only [List.length_append, List.length_singleton] at hc'
      simp only [Option.bind_some, appendInt_eq (hs s (ix_mem hj) x (ix_mem hi)) (l := c') (by omega)]
      rw [app, if_pos (by simp; omega)]
      simp) (by omega)]
    simp only [Option.bind_some]
    rw [app, if_pos (by rw [List.length_append]; simp only [List.length_singleton]; omega)]
    simp [encS]) (by simpa [encK] using hN)]
  rfl
theorem encS_len : ∀ s : List Int, (encS s).length ≤ 3 * s.length + 1
  | [] => by simp [encS]
  | x :: s => by
    have := encS_len s
    have := dg_len x
    rw [encS_cons]
    simp only [List.length_append, List.length_cons]
    omega
theorem key2_eq {s a : List Int} (hs : small s) (ha : small a) (h1 : s.length ≤ 1000) (h2 : a.length ≤ 1000) : belief_Key [s, a] = some (keyK [s, a]) := by
  refine key_eq (by simp [hs, ha]) ?_
  have := encS_len s; have := encS_len a
  simp only [encK, List.flatMap_cons, List.flatMap_nil, List.length_append, List.append_nil]
  omega
end Ab
end
section
namespace Ab
open Go
structure PartiesOk (t : TTask) (goals plans : List (List Int)) : Prop where
  task : TaskOk t
  n1 : 1 ≤ plans.length
  n4 : plans.length ≤ 4
  len : goals.length = plans.length
  goal : ∀ g ∈ goals, SetN g t.facts
  six : ∀ p ∈ plans, p.length ≤ 6
  op : ∀ p ∈ plans, ∀ x ∈ p, 0 ≤ x ∧ x < t.operators.length
theorem parties_eq (t : TTask) (goals plans : List (List Int)) : ∃ f, merging_check t goals plans = some f ∧ ref8_PartiesFault t goals plans = some f ∧ ((f = ⟨0, 0⟩ ∧ PartiesOk t goals plans) ∨ (f.code ≠ 0 ∧ ¬ PartiesOk t goals plans)) := by
  obtain ⟨f, h1, h2, h3⟩ := validate_eq t
  unfold merging_check ref8_PartiesFault
  rw [h1, h2]
  simp only [Option.bind_some]
  rcases h3 with ⟨rfl, ht⟩ | ⟨hc, ht⟩
  · rw [if_neg (by simp), if_pos rfl, in_eq]
    simp only [Option.bind_some, dec_not, at_eq]
    by_cases c1 : 1 ≤ (plans.length : Int) ∧ (plans.length : Int) ≤ 4
    · rw [if_neg (by rw [Bool.or_eq_true, decide_eq_true_eq, decide_eq_true_eq]; omega), ifNN c1]
      by_cases c2 : (goals.length : Int) = plans.length
      · rw [if_pos c2, if_pos c2]
        have b1 : ∀ j : Int, 0 ≤ j → j < goals.length → ∃ g, ix goals j = some g ∧ merging_check_l1 t goals j () = some (if dec (SetN g t.facts) = true then .inl () else .inr ⟨5, w64 (-10 - j)⟩) ∧ ref8_PartiesFault_l1 t goals j () = some (if dec (SetN g t.facts) = true then .inl () else .inr ⟨5, w64 (-10 - j)⟩) := fun j h0 h1 => by
          obtain ⟨g, hg, _⟩ := ix_of (l := goals) h0 h1
          refine ⟨g, hg, ?_, ?_⟩
          · unfold merging_check_l1
            rw [hg]
            simp only [Option.bind_some, isSet_eq, dec_not]
            by_cases e : SetN g t.facts
            · rw [ifNN e, ifP e]
            · rw [ifP e, ifN e]
          · unfold ref8_PartiesFault_l1
            rw [hg]
            have := ht.n0; have := ht.n1
            simp only [Option.bind_some, rIsSet_eq g (n := t.facts) (by omega) (by omega), dec_not, at_eq]
            by_cases e : SetN g t.facts
            · rw [ifNN e, ifP e]
            · rw [ifP e, ifN e]
        have e1 : rngX 0 (goals.length : Int) (merging_check_l1 t goals) () = rngX 0 (goals.length : Int) (ref8_PartiesFault_l1 t goals) () :=
          (rngX_eq (fun _ _ => True) (by omega) trivial (fun j s h0 h1 _ => by
            obtain ⟨o, _, e1, e2⟩ := b1 j h0 h1
            exact ⟨by rw [e1, e2], by rw [e1]; simp, fun _ _ => trivial⟩)).1
        rw [e1]
        have rng : ∀ a : Int, ((decide (a < 0)) || (decide ((t.operators.length : Int) ≤ a))) = true ↔ ¬ (0 ≤ a ∧ a < t.operators.length) := fun a => by simp; omega
        have b2 : ∀ j : Int, 0 ≤ j → j < plans.length → ∃ p, ix plans j = some p ∧ ∃ r : Unit ⊕ TFault, merging_check_l2 t plans j () = some r ∧ ref8_PartiesFault_l2 t plans j () = some r ∧ (r = .inl () ∨ ∃ f : TFault, r = .inr f ∧ f.code ≠ 0) ∧ (r = .inl () ↔ (p.length ≤ 6 ∧ ∀ x ∈ p, 0 ≤ x ∧ x < t.operators.length)) := fun j h0 h1 => by
          obtain ⟨p, hp, _⟩ := ix_of (l := plans) h0 h1
          refine ⟨p, hp, ?_⟩
          unfold merging_check_l2 ref8_PartiesFault_l2
          rw [hp]
          simp only [Option.bind_some]
          by_cases c3 : 6 < (p.length : Int)
          · rw [if_pos c3, if_pos c3]
            exact ⟨.inr ⟨2, w64 (-20 - j)⟩, rfl, rfl, .inr ⟨_, rfl, by simp⟩, ⟨fun h => by simp at h, fun h => by omega⟩⟩
          · rw [if_neg c3, if_neg c3]
            obtain ⟨q, q2, q3⟩ := rSteps_eq (n := (t.operators.length : Int)) (by omega) (by have := ht.ops; omega) p
            rw [q2, rng_list (l := p) (fun x => 0 ≤ x ∧ x < t.operators.length) (⟨3, w64 (-20 - j)⟩ : TFault) (fun i a hi => by
              unfold merging_check_l3
              rw [hi]
              simp only [Option.bind_some]
              by_cases g : 0 ≤ a ∧ a < t.operators.length
              · rw [if_neg (by rw [rng]; exact fun h => h g)]; exact .inl ⟨g, rfl⟩
              · rw [if_pos ((rng a).2 g)]; exact .inr ⟨g, rfl⟩)]
            simp only [Option.bind_some, at_eq]
            by_cases g : ∀ x ∈ p, 0 ≤ x ∧ x < t.operators.length
            · rw [ifP g]
              rcases q3 with ⟨rfl, _⟩ | ⟨_, k⟩
              · rw [if_pos rfl]
                exact ⟨.inl (), rfl, rfl, .inl rfl, ⟨fun _ => ⟨by omega, g⟩, fun _ => rfl⟩⟩
              · exact absurd ⟨by omega, g⟩ k
            · rw [ifN g]
              rcases q3 with ⟨_, k⟩ | ⟨k, _⟩
              · exact absurd k.2 g
              · rw [if_neg k]
                exact ⟨.inr ⟨3, w64 (-20 - j)⟩, rfl, rfl, .inr ⟨_, rfl, by simp⟩, ⟨fun h => by simp at h, fun h => absurd h.2 g⟩⟩
        have e2 : rngX 0 (plans.length : Int) (merging_check_l2 t plans) () = rngX 0 (plans.length : Int) (ref8_PartiesFault_l2 t plans) () :=
          (rngX_eq (fun _ _ => True) (by omega) trivial (fun j s h0 h1 _ => by
            obtain ⟨o, _, r, e1, e2, _⟩ := b2 j h0 h1
            exact ⟨by rw [e1, e2], by rw [e1]; simp, fun _ _ => trivial⟩)).1
        rw [e2]
        rcases rngX_inv (body := ref8_PartiesFault_l1 t goals) (n := (goals.length : Int)) (fun j _ => ∀ i g, 0 ≤ i → i < j → ix goals i = some g → SetN g t.facts) (fun o => o.code ≠ 0 ∧ ¬ PartiesOk t goals plans) (s := ()) (by omega) (fun i g h0 h1 => by omega) (fun j s h0 h1 hP => by
          obtain ⟨g, hg, _, e2⟩ := b1 j h0 h1
          rw [e2]
          by_cases e : SetN g t.facts
          · rw [ifP e]
            refine .inl ⟨(), rfl, fun i g' g0 g1 hi => ?_⟩
            by_cases e' : i = j
            · subst e'; rw [hg] at hi; cases hi; exact e
            · exact hP i g' g0 (by omega) hi
          · rw [ifN e]
            exact .inr ⟨_, rfl, by simp, fun h => e (h.goal g (ix_mem hg))⟩) with ⟨u, r1, r2⟩ | ⟨o, r1, r2, r3⟩
        · rw [r1]
          simp only [Option.bind_some]
          rcases rngX_inv (body := ref8_PartiesFault_l2 t plans) (n := (plans.length : Int)) (fun j _ => ∀ i p, 0 ≤ i → i < j → ix plans i = some p → p.length ≤ 6 ∧ ∀ x ∈ p, 0 ≤ x ∧ x < t.operators.length) (fun o => o.code ≠ 0 ∧ ¬ PartiesOk t goals plans) (s := ()) (by omega) (fun i g h0 h1 => by omega) (fun j s h0 h1 hP => by
            obtain ⟨p, hp, r, _, e2, e3, e4⟩ := b2 j h0 h1
            rw [e2]
            rcases e3 with rfl | ⟨f, rfl, hf⟩
            · refine .inl ⟨(), rfl, fun i p' g0 g1 hi => ?_⟩
              by_cases e' : i = j
              · subst e'; rw [hp] at hi; cases hi; exact e4.1 rfl
              · exact hP i p' g0 (by omega) hi
            · exact .inr ⟨_, rfl, hf, fun h => by have := e4.2 ⟨h.six p (ix_mem hp), h.op p (ix_mem hp)⟩; cases this⟩) with ⟨v, s1, s2⟩ | ⟨o, s1, s2, s3⟩
          · rw [s1]
            refine ⟨_, rfl, rfl, .inl ⟨rfl, ht, by omega, by omega, by omega, fun g hg => ?_, fun p hp => ?_, fun p hp => ?_⟩⟩
            · obtain ⟨i, i0, i1, hi⟩ := mem_ix hg; exact r2 i g i0 i1 hi
            · obtain ⟨i, i0, i1, hi⟩ := mem_ix hp; exact (s2 i p i0 i1 hi).1
            · obtain ⟨i, i0, i1, hi⟩ := mem_ix hp; exact (s2 i p i0 i1 hi).2
          · rw [s1]
            exact ⟨_, rfl, rfl, .inr ⟨s2, s3⟩⟩
        · rw [r1]
          exact ⟨_, rfl, rfl, .inr ⟨r2, r3⟩⟩
      · rw [if_neg c2, if_neg c2]
        exact ⟨_, rfl, rfl, .inr ⟨by simp, fun h => c2 (by rw [h.len])⟩⟩
    · rw [if_pos (by rw [Bool.or_eq_true, decide_eq_true_eq, decide_eq_true_eq]; omega), ifP c1]
      exact ⟨_, rfl, rfl, .inr ⟨by simp, fun h => c1 ⟨by have := h.n1; omega, by have := h.n4; omega⟩⟩⟩
  · rw [if_pos (fault_no hc), if_neg hc]
    exact ⟨f, rfl, rfl, .inr ⟨hc, fun h => ht h.task⟩⟩
/-- The goals of all parties. -/
noncomputable def allGoals (t : TTask) (goals : List (List Int)) : List Int := setOf (fun x => ∃ g ∈ goals, x ∈ g) t.facts
theorem union_all {t : TTask} {goals : List (List Int)} (hn : t.facts ≤ 24) (hg : ∀ g ∈ goals, SetN g t.facts) : merging_union goals = some (allGoals t goals) := by
  unfold merging_union
  obtain ⟨s', h1, h2⟩ := forR_inv (body := merging_union_l1 goals) (n := (goals.length : Int)) (s := []) (fun j c => c = setOf (fun x => ∃ i g, 0 ≤ i ∧ i < j ∧ ix goals i = some g ∧ x ∈ g) t.facts) (by omega) (by
    refine (setN_nil t.facts).eq_of fun x _ _ => ⟨fun h => (by cases h), ?_⟩
    rintro ⟨i, g, h0, h1, _⟩; omega) (fun j c h0 h1 hP => by
    obtain ⟨g, hj, _⟩ := ix_of (l := goals) h0 h1
    unfold merging_union_l1
    rw [hj]
    simp only [Option.bind_some]
    rw [hP, union_eq (n := t.facts) (by omega) (setN_setOf _ _) (hg g (ix_mem hj))]
    refine ⟨_, rfl, setOf_congr fun x x0 x1 => ?_⟩
    rw [mem_setOf]
    constructor
    · rintro (⟨_, _, i, g', i0, i1, hi, hx⟩ | hx)
      · exact ⟨i, g', i0, by omega, hi, hx⟩
      · exact ⟨j, g, h0, by omega, hj, hx⟩
    · rintro ⟨i, g', i0, i1, hi, hx⟩
      by_cases e : i = j
      · subst e; rw [hj] at hi; cases hi; exact .inr hx
      · exact .inl ⟨x0, x1, i, g', i0, by omega, hi, hx⟩)
  rw [h1, h2]
  simp only [Option.bind_some]
  refine congrArg some (setOf_congr fun x _ _ => ⟨fun ⟨i, g, _, _, hi, hx⟩ => ⟨g, ix_mem hi, hx⟩, fun ⟨g, hm, hx⟩ => ?_⟩)
  obtain ⟨i, i0, i1, hi⟩ := mem_ix hm
  exact ⟨i, g, i0, i1, hi, hx⟩
theorem mkL_eq {α : Type} {b : Nat} {n : Nat} {z : α} (h : b * n ≤ 281474976710656) (hn : n ≤ 9223372036854775807) : mkL b (n : Int) z = some (List.replicate n z) := by
  rw [mkL, if_pos ⟨by omega, by omega, by omega⟩]; simp
theorem ix_replicate {α : Type} {n : Nat} {z a : α} {i : Int} (h : ix (List.replicate n z) i = some a) : a = z := List.eq_of_mem_replicate (ix_mem h)
theorem atOk_zero (plans : List (List Int)) : AtOk plans (List.replicate plans.length 0) := ⟨by simp, fun p l a _ h => by rw [ix_replicate h]; omega⟩
/-- Turns that perform all plans and reach all goals. -/
noncomputable def goodT (t : TTask) (goals plans : List (List Int)) (l : List Int) : Prop := good t plans (allGoals t goals) t.init (List.replicate plans.length 0) l
theorem good_rng {t : TTask} {plans : List (List Int)} {gs : List Int} : ∀ {l s at_ : List Int}, good t plans gs s at_ l → ∀ p ∈ l, 0 ≤ p ∧ p < plans.length
  | [], _, _, _, p, hp => by cases hp
  | q :: l, s, at_, h, p, hp => by
    obtain ⟨op, h1, _, h3⟩ := h
    obtain ⟨m, a, g1, _, _⟩ := nxt_some h1
    rcases List.mem_cons.1 hp with rfl | hp
    · exact ⟨(ix_lo g1).1, (ix_lo g1).2.1⟩
    · exact good_rng h3 p hp
theorem drop_ix {α : Type} {l : List α} {j : Int} {a : α} (h : ix l j = some a) : l.drop j.toNat = a :: l.drop (j + 1).toNat := by
  obtain ⟨h0, h1, h2⟩ := ix_lo h
  obtain ⟨hlt, rfl⟩ := List.getElem?_eq_some_iff.1 h2
  rw [show (j + 1).toNat = j.toNat + 1 by omega]
  exact List.drop_eq_getElem_cons hlt
theorem mCheck_eq (t : TTask) (goals plans : List (List Int)) (turns : List Int) : ∃ b f, merging_Check t goals plans turns = some (b, f) ∧
    ((f = ⟨0, 0⟩ ∧ PartiesOk t goals plans ∧ turns.length ≤ 60 ∧ (∀ p ∈ turns, 0 ≤ p ∧ p < plans.length) ∧ b = dec (goodT t goals plans turns)) ∨
     (b = false ∧ f.code ≠ 0 ∧ ((ref8_PartiesFault t goals plans = some f) ∨ (PartiesOk t goals plans ∧ ((60 < turns.length ∧ f = ⟨2, -5⟩) ∨ (turns.length ≤ 60 ∧ (¬ ∀ p ∈ turns, 0 ≤ p ∧ p < plans.length) ∧ f = ⟨3, -6⟩)))))) := by
  obtain ⟨f, h1, h2, h3⟩ := parties_eq t goals plans
  unfold merging_Check
  rw [h1]
  simp only [Option.bind_some]
  rcases h3 with ⟨rfl, hp⟩ | ⟨hc, hn⟩
  · rw [if_neg (by simp)]
    by_cases c1 : 60 < (turns.length : Int)
    · rw [if_pos c1]
      exact ⟨_, _, rfl, .inr ⟨rfl, by simp, .inr ⟨hp, .inl ⟨by omega, rfl⟩⟩⟩⟩
    · rw [if_neg c1]
      have ht := hp.task
      have hn := ht.n1
      have h4 := hp.n4
      rw [rng_list (l := turns) (fun x => 0 ≤ x ∧ x < plans.length) (false, (⟨3, -6⟩ : TFault)) (fun i a hi => by
        unfold merging_Check_l1
        rw [hi]
        simp only [Option.bind_some]
        by_cases g : 0 ≤ a ∧ a < plans.length
        · rw [if_neg (by simp; omega)]; exact .inl ⟨g, rfl⟩
        · rw [if_pos (by simp; omega)]; exact .inr ⟨g, rfl⟩)]
      simp only [Option.bind_some]
      by_cases c2 : ∀ p ∈ turns, 0 ≤ p ∧ p < plans.length
      · rw [ifP c2]
        simp only []
        rw [mkL_eq (by omega) (by omega)]
        simp only [Option.bind_some]
        have key := rngX_inv (body := merging_Check_l2 t plans turns) (n := (turns.length : Int)) (s := (List.replicate plans.length 0, t.init))
          (fun j p => AtOk plans p.1 ∧ SetN p.2 t.facts ∧ (goodT t goals plans turns ↔ good t plans (allGoals t goals) p.2 p.1 (turns.drop j.toNat)))
          (fun o => o = (false, ⟨0, 0⟩) ∧ ¬ goodT t goals plans turns) (by omega) ⟨atOk_zero _, ht.init, by simp [goodT]⟩ (fun j ⟨c9, s⟩ j0 j1 ⟨k1, k2, k3⟩ => by
          dsimp only at k1 k2 k3 ⊢
          obtain ⟨p, hj, _⟩ := ix_of (l := turns) j0 j1
          obtain ⟨p0, p1⟩ := c2 p (ix_mem hj)
          obtain ⟨l, hl, _⟩ := ix_of (l := plans) p0 p1
          obtain ⟨a, ha, a0, a1⟩ := k1.get hl
          have hd := drop_ix hj
          rw [hd] at k3
          unfold merging_Check_l2
          simp only [hj, Option.bind_some, ha, hl]
          by_cases c3 : a = (l.length : Int)
          · rw [if_pos c3]
            simp only [Option.bind_some, if_true]
            refine .inr ⟨_, rfl, rfl, fun h => ?_⟩
            obtain ⟨op, g1, _⟩ := k3.1 h
            obtain ⟨l', a', e1, e2, e3⟩ := nxt_some g1
            rw [hl] at e1; cases e1
            rw [ha] at e2; cases e2
            have := (ix_lo e3).2.1
            omega
          · rw [if_neg c3]
            obtain ⟨op, hop, _⟩ := ix_of (l := l) a0 (by omega)
            obtain ⟨o0, o1⟩ := hp.op l (ix_mem hl) op (ix_mem hop)
            have hnx := nxt_of hl ha hop
            simp only [Option.bind_some, hop, can_eq ht o0 o1 k2, dec_not]
            by_cases c4 : can t s op
            · rw [ifNN c4, next_eq ht o0 o1 k2]
              simp only [Option.bind_some]
              have hl6 := hp.six l (ix_mem hl)
              rw [w64_of (by omega) (by omega), ← bump_eq ha]
              refine .inl ⟨_, rfl, k1.bump hnx, setN_aft _ _ _, k3.trans ⟨?_, fun h => ⟨op, hnx, c4, h⟩⟩⟩
              rintro ⟨op', g1, g2, g3⟩
              rw [hnx] at g1; cases g1
              exact g3
            · rw [ifP c4]
              refine .inr ⟨_, rfl, rfl, fun h => ?_⟩
              obtain ⟨op', g1, g2, g3⟩ := k3.1 h
              rw [hnx] at g1; cases g1
              exact c4 g2)
        rcases key with ⟨⟨c9, s⟩, r1, r2, r3, r4⟩ | ⟨o, r1, rfl, r2⟩
        · dsimp only at r2 r3 r4
          rw [r1]
          simp only [Option.bind_some]
          have e0 : turns.drop (turns.length : Int).toNat = [] := by simp
          rw [e0] at r4
          have hlen : (plans.length : Int) = c9.length := by rw [r2.len]
          have key := rngX_test (body := merging_Check_l3 plans c9) (n := (plans.length : Int)) (fun j => match ix plans j, ix c9 j with | some l, some a => if dec (a = (l.length : Int)) = true then none else some (false, (⟨0, 0⟩ : TFault)) | _, _ => none) (by omega) (fun j j0 j1 _ => by
            obtain ⟨l, hl, _⟩ := ix_of (l := plans) j0 j1
            obtain ⟨a, ha, a0, a1⟩ := r2.get hl
            unfold merging_Check_l3
            simp only [hl, ha, Option.bind_some]
            by_cases e : a = (l.length : Int)
            · rw [if_neg (by omega), ifP e]
            · rw [if_pos (by omega), ifN e])
          have hall : (∀ j, 0 ≤ j → j < (plans.length : Int) → (match ix plans j, ix c9 j with | some l, some a => if dec (a = (l.length : Int)) = true then none else some (false, (⟨0, 0⟩ : TFault)) | _, _ => none) = none) ↔ allDone plans c9 := by
            constructor
            · intro h p l a hl ha
              have := h p (ix_lo hl).1 (ix_lo hl).2.1
              simp only [hl, ha] at this
              split at this
              · exact dec_true.1 ‹_›
              · cases this
            · intro h j j0 j1
              obtain ⟨l, hl, _⟩ := ix_of (l := plans) j0 j1
              obtain ⟨a, ha, _⟩ := r2.get hl
              simp only [hl, ha]
              rw [ifP (h j l a hl ha)]
          rcases key with ⟨s1, s2⟩ | ⟨j, o, j0, j1, s2, _, s3⟩
          · rw [s1]
            simp only [Option.bind_some]
            rw [union_all hn hp.goal]
            simp only [Option.bind_some]
            have := r3.len
            rw [contains_eq (part := allGoals t goals) r3.1 (inc_setOf _ _) (by omega)]
            refine ⟨_, _, rfl, .inl ⟨rfl, hp, by omega, c2, dec_congr ?_⟩⟩
            rw [r4]
            exact ⟨fun h => ⟨hall.1 s2, h⟩, fun h => h.2⟩
          · rw [s3]
            have hnd : ¬ allDone plans c9 := fun h => by have := hall.2 h j j0 j1; rw [this] at s2; cases s2
            obtain ⟨l, hl, _⟩ := ix_of (l := plans) j0 j1
            obtain ⟨a, ha, _⟩ := r2.get hl
            simp only [hl, ha] at s2
            split at s2
            · cases s2
            · cases s2
              exact ⟨_, _, rfl, .inl ⟨rfl, hp, by omega, c2, (dec_no fun h => hnd (r4.1 h).1).symm⟩⟩
        · rw [r1]
          exact ⟨_, _, rfl, .inl ⟨rfl, hp, by omega, c2, (dec_no r2).symm⟩⟩
      · rw [ifN c2]
        exact ⟨_, _, rfl, .inr ⟨rfl, by simp, .inr ⟨hp, .inr ⟨by omega, c2, rfl⟩⟩⟩⟩
  · rw [if_pos (fault_no hc)]
    exact ⟨_, _, rfl, .inr ⟨rfl, hc, .inl h2⟩⟩
end Ab
end
section
namespace Ab
open Go
/-- Where x has a value, y has the same one. -/
def Lt {α : Type} (x y : Option α) : Prop := ∀ r, x = some r → y = some r
theorem Lt.rfl' {α : Type} {x : Option α} : Lt x x := fun _ h => h
theorem Lt.bind {α β : Type} {x y : Option α} {f g : α → Option β} (h : Lt x y) (k : ∀ a, Lt (f a) (g a)) : Lt (x.bind f) (y.bind g) := fun r hr => by
  obtain ⟨a, h1, h2⟩ := bind_some hr
  rw [h a h1]; exact k a r h2
theorem Lt.ite {α : Type} {c : Prop} [Decidable c] {x y x' y' : Option α} (h : Lt x y) (k : Lt x' y') : Lt (if c then x else x') (if c then y else y') := fun r hr => by
  split at hr
  · rw [if_pos ‹_›]; exact h r hr
  · rw [if_neg ‹_›]; exact k r hr
theorem Lt.rngN {S O : Type} {f g : Int → S → Option (S ⊕ O)} (h : ∀ i s, Lt (f i s) (g i s)) : ∀ (k : Nat) (i : Int) (s : S), Lt (rngN f k i s) (rngN g k i s)
  | 0, _, _ => Lt.rfl'
  | k + 1, i, s => fun r hr => by
    simp only [Ab.rngN] at hr ⊢
    cases hf : f i s with
    | none => rw [hf] at hr; cases hr
    | some x =>
      rw [h i s x hf]
      rw [hf] at hr
      cases x with
      | inl s' => exact Lt.rngN h k (i + 1) s' r hr
      | inr o => exact hr
theorem Lt.rngX {S O : Type} {f g : Int → S → Option (S ⊕ O)} {lo n : Int} {s : S} (h : ∀ i s, Lt (f i s) (g i s)) : Lt (rngX lo n f s) (rngX lo n g s) := Lt.rngN h _ _ _
/-- A step that asks its part for no more than its values. -/
def Mono {A R : Type} (F : (A → Option R) → A → Option R) : Prop := ∀ f g, (∀ a, Lt (f a) (g a)) → ∀ a, Lt (F f a) (F g a)
theorem recN_up {A R : Type} {F : (A → Option R) → A → Option R} (hF : Mono F) : ∀ (n : Nat) (a : A), Lt (recN F n a) (recN F (n + 1) a)
  | 0, a => fun r h => by cases h
  | n + 1, a => hF _ _ (recN_up hF n) a
theorem recN_le {A R : Type} {F : (A → Option R) → A → Option R} (hF : Mono F) {n m : Nat} (h : n ≤ m) (a : A) : Lt (recN F n a) (recN F m a) := by
  induction h with
  | refl => exact Lt.rfl'
  | step _ ih => exact fun r hr => recN_up hF _ a r (ih r hr)
theorem Rec_recN {A R : Type} {F : (A → Option R) → A → Option R} (hF : Mono F) {n : Nat} {a : A} {r : R} (h : recN F n a = some r) : Rec F a = some r := by
  obtain ⟨r', h1, m, h2⟩ := Rec_of h
  have e1 := recN_le hF (Nat.le_max_left n m) a r h
  have e2 := recN_le hF (Nat.le_max_right n m) a r' h2
  rw [h1, ← e2, e1]
/-- Whole from step: μ sinks. -/
theorem Rec_inv {A R : Type} {F : (A → Option R) → A → Option R} (hF : Mono F) (P : A → Prop) (V : A → R → Prop) (μ : A → Nat)
    (hb : ∀ f a, P a → (∀ a', P a' → μ a' < μ a → ∃ r, f a' = some r ∧ V a' r) → ∃ r, F f a = some r ∧ V a r) {a : A} (ha : P a) : ∃ r, Rec F a = some r ∧ V a r := by
  have key : ∀ (n : Nat) (a : A), P a → μ a < n → ∃ r, recN F n a = some r ∧ V a r := by
    intro n
    induction n with
    | zero => intro a _ h; omega
    | succ n ih => exact fun a ha hn => hb (recN F n) a ha fun a' ha' hm => ih a' ha' (by omega)
  obtain ⟨r, h1, h2⟩ := key (μ a + 1) a ha (by omega)
  exact ⟨r, Rec_recN hF h1, h2⟩
end Ab
end
section
namespace Ab
open Go
theorem bind_map_congr {α β γ : Type} {x : Option α} {f : α → Option γ} {g : α → Option β} {k : β → γ} (h : ∀ a, f a = (g a).map k) : x.bind f = (x.bind g).map k := by
  cases x with
  | none => rfl
  | some a => exact h a
theorem ite_map_congr {β γ : Type} {c : Prop} [Decidable c] {x y : Option γ} {x' y' : Option β} {k : β → γ} (h : x = x'.map k) (h' : y = y'.map k) : (if c then x else y) = (if c then x' else y').map k := by
  split
  · exact h
  · exact h'
theorem rngN_map {S O O' : Type} {b1 : Int → S → Option (S ⊕ O)} {b2 : Int → S → Option (S ⊕ O')} (g : O → O') (h : ∀ i s, b2 i s = (b1 i s).map (Sum.map id g)) : ∀ (k : Nat) (i : Int) (s : S), rngN b2 k i s = (rngN b1 k i s).map (Sum.map id g)
  | 0, _, _ => rfl
  | k + 1, i, s => by
    simp only [rngN]
    rw [h]
    cases b1 i s with
    | none => rfl
    | some x =>
      cases x with
      | inl s' => exact rngN_map g h k (i + 1) s'
      | inr o => rfl
theorem rngX_map {S O O' : Type} {b1 : Int → S → Option (S ⊕ O)} {b2 : Int → S → Option (S ⊕ O')} (g : O → O') (h : ∀ i s, b2 i s = (b1 i s).map (Sum.map id g)) {lo n : Int} {s : S} : rngX lo n b2 s = (rngX lo n b1 s).map (Sum.map id g) := rngN_map g h _ _ _
theorem turns_mono (t : TTask) (plans : List (List Int)) : Mono (merging_merger_turns_w1_b t plans) := by
  intro f g h ⟨sv, atv, l, l6⟩
  unfold merging_merger_turns_w1_b
  dsimp only
  refine Lt.bind Lt.rfl' fun _ => Lt.ite Lt.rfl' (Lt.bind (Lt.rngX fun i s => ?_) fun x => Lt.rfl')
  obtain ⟨c12, c13, d⟩ := s
  unfold merging_merger_turns_w1_l1
  dsimp only
  repeat (first | exact Lt.rfl' | exact h _ | refine Lt.ite ?_ ?_ | refine Lt.bind ?_ fun _ => ?_)
section
variable {t : TTask} {plans : List (List Int)} {gs : List Int}
/-- No turns lead on from a node that is remembered. -/
def InvM (t : TTask) (plans : List (List Int)) (gs : List Int) (m : List (ByteArray × Int)) : Prop := ∀ s at_ : List Int, SetN s t.facts → AtOk plans at_ → 0 < Option.getD (mget m (keyK [s, at_])) 0 → ∀ l, ¬ good t plans gs s at_ l
structure Plans6 (t : TTask) (plans : List (List Int)) : Prop where
  n4 : plans.length ≤ 4
  six : ∀ p ∈ plans, p.length ≤ 6
  op : ∀ p ∈ plans, ∀ x ∈ p, 0 ≤ x ∧ x < t.operators.length
theorem AtOk.small (hp : Plans6 t plans) {at_ : List Int} (h : AtOk plans at_) : small at_ := fun x hx => by
  obtain ⟨i, i0, i1, hi⟩ := mem_ix hx
  obtain ⟨l, hl, _⟩ := ix_of (l := plans) i0 (by rw [← h.len]; exact i1)
  have := h.rng i l x hl hi
  have := hp.six l (ix_mem hl)
  omega
theorem SetN.small (h1 : t.facts ≤ 24) {s : List Int} (h : SetN s t.facts) : small s := fun x hx => by have := h.2 x hx; omega
theorem nodeKey (ht : TaskOk t) (hp : Plans6 t plans) {s at_ : List Int} (hs : SetN s t.facts) (ha : AtOk plans at_) : belief_Key [s, at_] = some (keyK [s, at_]) := by
  have := hs.len; have := ht.n1; have := ha.len; have := hp.n4
  exact key2_eq (SetN.small ht.n1 hs) (ha.small hp) (by omega) (by omega)
/-- What a search finds. -/
def Found (t : TTask) (plans : List (List Int)) (gs s at_ out : List Int) (ok : Bool) : Prop := (ok = true ∧ Least t plans gs s at_ out) ∨ (ok = false ∧ out = [] ∧ ∀ l, ¬ good t plans gs s at_ l)
abbrev Node := List Int × List Int × List Int × List (ByteArray × Int)
def NodeOk (t : TTask) (plans : List (List Int)) (gs : List Int) (a : Node) : Prop := SetN a.1 t.facts ∧ AtOk plans a.2.1 ∧ a.2.2.1 = gs ∧ InvM t plans gs a.2.2.2
def NodeV (t : TTask) (plans : List (List Int)) (gs : List Int) (a : Node) (r : List Int × Bool × List Int × List (ByteArray × Int)) : Prop := r.2.2.1 = gs ∧ InvM t plans gs r.2.2.2 ∧ Found t plans gs a.1 a.2.1 r.1 r.2.1
theorem turnsLoop (ht : TaskOk t) (hp : Plans6 t plans) {f : Node → Option (List Int × Bool × List Int × List (ByteArray × Int))} {s at_ : List Int} (hs : SetN s t.facts) (ha : AtOk plans at_)
    (ih : ∀ a : Node, NodeOk t plans gs a → left plans a.2.1 < left plans at_ → ∃ r, f a = some r ∧ NodeV t plans gs a r) {m : List (ByteArray × Int)} (hm : InvM t plans gs m) :
    (∃ m' d, rngX 0 (plans.length : Int) (merging_merger_turns_w1_l1 s at_ t plans f) (gs, m, true) = some (.inl (gs, m', d)) ∧ InvM t plans gs m' ∧ (∀ q l, ¬ good t plans gs s at_ (q :: l)) ∧ (d = true ↔ allDone plans at_)) ∨
    ∃ r, rngX 0 (plans.length : Int) (merging_merger_turns_w1_l1 s at_ t plans f) (gs, m, true) = some (.inr r) ∧ NodeV t plans gs (s, at_, gs, m) r := by
  have hlen := ha.len
  have h4 := hp.n4
  rcases rngX_inv (body := merging_merger_turns_w1_l1 s at_ t plans f) (n := (plans.length : Int)) (s := (gs, m, true))
    (fun j x => x.1 = gs ∧ InvM t plans gs x.2.1 ∧ (∀ q l, q < j → ¬ good t plans gs s at_ (q :: l)) ∧ (x.2.2 = true ↔ ∀ p l a, 0 ≤ p → p < j → ix plans p = some l → ix at_ p = some a → a = l.length))
    (fun r => NodeV t plans gs (s, at_, gs, m) r) (by omega)
    ⟨rfl, hm, fun q l hq h => by have := good_rng h q (by simp); omega, by simp; intro p l a h0 h1; omega⟩ (fun p ⟨g', m', d⟩ p0 p1 ⟨k1, k2, k3, k4⟩ => by
      dsimp only at k1 k2 k3 k4 ⊢
      subst k1
      obtain ⟨l, hl, _⟩ := ix_of (l := plans) p0 p1
      obtain ⟨a, hav, a0, a1⟩ := ha.get hl
      unfold merging_merger_turns_w1_l1
      simp only [hl, hav, Option.bind_some]
      have step : ∀ {q : Int} {l' : List Int}, q < p + 1 → (q = p → ¬ good t plans g' s at_ (q :: l')) → ¬ good t plans g' s at_ (q :: l') := fun hq hn => by
        rename_i q l'
        by_cases e : q = p
        · exact hn e
        · exact k3 q l' (by omega)
      have hj2 : ∀ x : List Int × List (ByteArray × Int) × Bool, merging_merger_turns_w1_j2 x = some (.inl x) := fun _ => rfl
      by_cases c1 : a = (l.length : Int)
      · rw [if_pos c1, hj2]
        refine .inl ⟨_, rfl, rfl, k2, fun q l' hq => step hq ?_, ?_⟩
        · rintro rfl ⟨op, g1, _⟩
          obtain ⟨l2, a2, e1, e2, e3⟩ := nxt_some g1
          rw [hl] at e1; cases e1
          rw [hav] at e2; cases e2
          have := (ix_lo e3).2.1
          omega
        · dsimp only
          rw [k4]
          constructor
          · intro h q l' a' q0 q1 e1 e2
            by_cases e : q = p
            · subst e; rw [hl] at e1; cases e1; rw [hav] at e2; cases e2; exact c1
            · exact h q l' a' q0 (by omega) e1 e2
          · exact fun h q l' a' q0 q1 => h q l' a' q0 (by omega)
      · rw [if_neg c1]
        obtain ⟨op, hop, _⟩ := ix_of (l := l) a0 (by omega)
        obtain ⟨o0, o1⟩ := hp.op l (ix_mem hl) op (ix_mem hop)
        have hnx := nxt_of hl hav hop
        have hnd : ∀ b : Bool, b = false → (b = true ↔ ∀ q l a, 0 ≤ q → q < p + 1 → ix plans q = some l → ix at_ q = some a → a = l.length) := fun b hb => by
          subst hb
          exact ⟨fun h => (by cases h), fun h => absurd (h p l a p0 (by omega) hl hav) c1⟩
        simp only [hop, Option.bind_some, can_eq ht o0 o1 hs, dec_not]
        by_cases c2 : can t s op
        · rw [ifNN c2, clone_eq (by omega)]
          simp only [Option.bind_some, hav, next_eq ht o0 o1 hs]
          have hl6 := hp.six l (ix_mem hl)
          rw [w64_of (by omega) (by omega), ← bump_eq hav]
          have hlt := nxt_left hnx
          obtain ⟨r, r1, r2, r3, r4⟩ := ih (aft t s op, bump at_ p, g', m') ⟨setN_aft _ _ _, ha.bump hnx, rfl, k2⟩ (by dsimp only; omega)
          rw [r1]
          simp only [Option.bind_some]
          rcases r4 with ⟨ok, r4⟩ | ⟨ok, _, r4⟩
          · rw [if_pos ok]
            have hlen := good_len (ha.bump hnx) r4.1
            have hsum : left plans (bump at_ p) ≤ 24 := by
              rw [← hlen]
              have : ∀ (pl : List (List Int)) (b : List Int), (∀ x ∈ pl, x.length ≤ 6) → left pl b ≤ 6 * pl.length := by
                intro pl
                induction pl with
                | nil => intro b _; simp [left]
                | cons x pl ihp =>
                  intro b hb
                  cases b with
                  | nil => simp [left]
                  | cons y b =>
                    have h1 := hb x (by simp)
                    have h2 := ihp b fun z hz => hb z (by simp [hz])
                    simp only [left, List.zip_cons_cons, List.map_cons, List.sum_cons, List.length_cons] at h2 ⊢
                    omega
              have := this plans (bump at_ p) hp.six
              rw [hlen]; omega
            rw [app, if_pos (by simp; omega)]
            simp only [Option.bind_some]
            refine .inr ⟨_, rfl, r2, r3, .inl ⟨rfl, ⟨op, hnx, c2, r4.1⟩, fun m2 hm2 => ?_⟩⟩
            match m2, hm2 with
            | [], hm2 => exact absurd (hm2.1 p l a hl hav) c1
            | q :: m3, hm2 =>
              rcases Int.lt_trichotomy q p with hq | hq | hq
              · exact absurd hm2 (k3 q m3 hq)
              · subst hq
                obtain ⟨op', e1, e2, e3⟩ := hm2
                rw [hnx] at e1; cases e1
                exact .inr ⟨rfl, r4.2 m3 e3⟩
              · exact .inl hq
          · rw [if_neg (by rw [ok]; simp), hj2]
            refine .inl ⟨_, rfl, r2, r3, fun q l' hq => step hq ?_, hnd _ rfl⟩
            rintro rfl ⟨op', e1, e2, e3⟩
            rw [hnx] at e1; cases e1
            exact r4 l' e3
        · rw [ifP c2, hj2]
          refine .inl ⟨_, rfl, rfl, k2, fun q l' hq => step hq ?_, hnd _ rfl⟩
          rintro rfl ⟨op', e1, e2, e3⟩
          rw [hnx] at e1; cases e1
          exact c2 e2) with ⟨⟨g', m', d⟩, r1, r2, r3, r4, r5⟩ | ⟨r, r1, r2⟩
  · dsimp only at r2 r3 r4 r5
    subst r2
    refine .inl ⟨m', d, r1, r3, fun q l h => r4 q l (good_rng h q (by simp)).2 h, r5.trans ⟨fun h p l a e1 e2 => h p l a (ix_lo e1).1 (ix_lo e1).2.1 e1 e2, fun h p l a _ _ e1 e2 => h p l a e1 e2⟩⟩
  · exact .inr ⟨r, r1, r2⟩
theorem InvM.set (ht : TaskOk t) (hp : Plans6 t plans) {m : List (ByteArray × Int)} (hm : InvM t plans gs m) {s at_ : List Int} (hs : SetN s t.facts) (ha : AtOk plans at_) (hn : ∀ l, ¬ good t plans gs s at_ l) : InvM t plans gs (mset m (keyK [s, at_]) 1) := fun s' a' hs' ha' h => by
  rw [mget_mset] at h
  split at h
  · rename_i e
    have := keyK_inj (l := [s', a']) (l' := [s, at_]) (by simp [SetN.small ht.n1 hs', ha'.small hp]) (by simp [SetN.small ht.n1 hs, ha.small hp]) e
    simp only [List.cons.injEq, and_true] at this
    obtain ⟨rfl, rfl⟩ := this
    exact hn
  · exact hm s' a' hs' ha' h
theorem turnsEnd (ht : TaskOk t) (hp : Plans6 t plans) (hg : SetN gs t.facts) {s at_ : List Int} (hs : SetN s t.facts) (ha : AtOk plans at_) {d : Bool} (h1 : ∀ q l, ¬ good t plans gs s at_ (q :: l)) (h2 : d = true ↔ allDone plans at_) :
    ∃ b, (Option.bind (if d = true then Option.bind (strips_Contains s gs) fun a97 => some a97 else some false) fun t22 => some t22) = some b ∧ (b = true → Least t plans gs s at_ []) ∧ (b = false → ∀ l, ¬ good t plans gs s at_ l) := by
  have := hs.len; have := ht.n1
  rw [contains_eq hs.1 hg.1 (by omega)]
  by_cases c : d = true
  · rw [if_pos c]
    refine ⟨_, rfl, fun h => ⟨⟨h2.1 c, dec_true.1 h⟩, fun m hm => ?_⟩, fun h l hl => ?_⟩
    · cases m with
      | nil => trivial
      | cons q m => exact absurd hm (h1 q m)
    · cases l with
      | nil => rw [dec_false] at h; exact h hl.2
      | cons q l => exact h1 q l hl
  · rw [if_neg c]
    refine ⟨_, rfl, fun h => by simp at h, fun h l hl => ?_⟩
    cases l with
    | nil => exact c (h2.2 hl.1)
    | cons q l => exact h1 q l hl
theorem turns_rec (ht : TaskOk t) (hp : Plans6 t plans) (hg : SetN gs t.facts) {a : Node} (h : NodeOk t plans gs a) : ∃ r, Rec (merging_merger_turns_w1_b t plans) a = some r ∧ NodeV t plans gs a r := by
  refine Rec_inv (turns_mono t plans) (NodeOk t plans gs) (NodeV t plans gs) (fun a => left plans a.2.1) (fun f ⟨s, at_, g, m⟩ ⟨k1, k2, k3, k4⟩ ih => ?_) h
  dsimp only at k1 k2 k3 k4 ih
  subst k3
  unfold merging_merger_turns_w1_b
  dsimp only
  rw [nodeKey ht hp k1 k2]
  simp only [Option.bind_some]
  by_cases c : 0 < Option.getD (mget m (keyK [s, at_])) 0
  · rw [if_pos c]
    exact ⟨_, rfl, rfl, k4, .inr ⟨rfl, rfl, k4 s at_ k1 k2 c⟩⟩
  · rw [if_neg c]
    rcases turnsLoop ht hp k1 k2 ih k4 with ⟨m', d, r1, r2, r3, r4⟩ | ⟨r, r1, r2⟩
    · rw [r1]
      simp only [Option.bind_some]
      obtain ⟨b, b1, b2, b3⟩ := turnsEnd ht hp hg k1 k2 r3 r4
      obtain ⟨b', b4, b5⟩ := bind_some b1
      cases b5
      rw [b4]
      simp only [Option.bind_some]
      cases b with
      | true => exact ⟨_, rfl, rfl, r2, .inl ⟨rfl, b2 rfl⟩⟩
      | false => exact ⟨_, rfl, rfl, r2.set ht hp k1 k2 (b3 rfl), .inr ⟨rfl, rfl, b3 rfl⟩⟩
    · rw [r1]
      exact ⟨_, rfl, r2⟩
theorem turns_top (ht : TaskOk t) (hp : Plans6 t plans) (hg : SetN gs t.facts) {s at_ : List Int} {m : List (ByteArray × Int)} (hs : SetN s t.facts) (ha : AtOk plans at_) (hm : InvM t plans gs m) :
    ∃ m' out ok, merging_merger_turns_w s t plans at_ gs m = some (gs, m', out, ok) ∧ Found t plans gs s at_ out ok := by
  unfold merging_merger_turns_w
  rw [nodeKey ht hp hs ha]
  simp only [Option.bind_some]
  by_cases c : 0 < Option.getD (mget m (keyK [s, at_])) 0
  · rw [if_pos c]
    exact ⟨_, _, _, rfl, .inr ⟨rfl, rfl, hm s at_ hs ha c⟩⟩
  · rw [if_neg c]
    rw [rngX_map (b1 := merging_merger_turns_w1_l1 s at_ t plans (fun a => merging_merger_turns_w1 a.1 a.2.1 t plans a.2.2.1 a.2.2.2)) (b2 := merging_merger_turns_w_l1 s t plans at_) (fun o => (o.2.2.1, o.2.2.2, o.1, o.2.1)) (fun i ⟨x, y, z⟩ => by
      unfold merging_merger_turns_w_l1 merging_merger_turns_w1_l1 merging_merger_turns_w_j2 merging_merger_turns_w1_j2
      dsimp only
      repeat (first | rfl | refine ite_map_congr ?_ ?_ | refine bind_map_congr fun _ => ?_))]
    rcases turnsLoop ht hp hs ha (f := fun a => merging_merger_turns_w1 a.1 a.2.1 t plans a.2.2.1 a.2.2.2) (gs := gs) (fun a hA _ => turns_rec ht hp hg hA) hm with ⟨m', d, r1, r2, r3, r4⟩ | ⟨r, r1, r2⟩
    · rw [r1]
      simp only [Option.map_some, Sum.map_inl, id_eq, Option.bind_some]
      obtain ⟨b, b1, b2, b3⟩ := turnsEnd ht hp hg hs ha r3 r4
      obtain ⟨b', b4, b5⟩ := bind_some b1
      cases b5
      rw [b4]
      simp only [Option.bind_some]
      cases b with
      | true => exact ⟨_, _, _, rfl, .inl ⟨rfl, b2 rfl⟩⟩
      | false => exact ⟨_, _, _, rfl, .inr ⟨rfl, rfl, b3 rfl⟩⟩
    · rw [r1]
      obtain ⟨out, ok, g', m'⟩ := r
      obtain ⟨q1, q2, q3⟩ := r2
      dsimp only at q1 q2 q3
      subst q1
      exact ⟨_, _, _, rfl, q3⟩
end
theorem merge_eq (t : TTask) (goals plans : List (List Int)) : ∃ l ok f, merging_Merge t goals plans = some (l, ok, f) ∧ ref8_PartiesFault t goals plans = some f ∧
    ((f = ⟨0, 0⟩ ∧ PartiesOk t goals plans ∧ ((ok = true ∧ goodT t goals plans l ∧ ∀ m, goodT t goals plans m → lexLe l m) ∨ (ok = false ∧ l = [] ∧ ∀ m, ¬ goodT t goals plans m))) ∨ (f.code ≠ 0 ∧ ¬ PartiesOk t goals plans ∧ l = [] ∧ ok = false)) := by
  obtain ⟨f, h1, h2, h3⟩ := parties_eq t goals plans
  unfold merging_Merge
  rw [h1]
  simp only [Option.bind_some]
  rcases h3 with ⟨rfl, hp⟩ | ⟨hc, hn⟩
  · rw [if_neg (by simp)]
    have h4 := hp.n4
    have hn := hp.task.n1
    rw [union_all hn hp.goal]
    simp only [Option.bind_some]
    rw [mkL_eq (by omega) (by omega)]
    simp only [Option.bind_some]
    obtain ⟨m', out, ok, e1, e2⟩ := turns_top (gs := allGoals t goals) hp.task ⟨hp.n4, hp.six, hp.op⟩ (setN_setOf _ _) (m := []) hp.task.init (atOk_zero plans) (fun _ _ _ _ h => by simp [mget] at h)
    rw [e1]
    refine ⟨_, _, _, rfl, h2, .inl ⟨rfl, hp, ?_⟩⟩
    rcases e2 with ⟨q1, q2⟩ | ⟨q1, q2, q3⟩
    · exact .inl ⟨q1, q2.1, q2.2⟩
    · exact .inr ⟨q1, q2, q3⟩
  · rw [if_pos (fault_no hc)]
    exact ⟨_, _, _, rfl, h2, .inr ⟨hc, hn, rfl, rfl⟩⟩
end Ab
end
section
namespace Ab
open Go
theorem ends_snoc {t : TTask} {p s : List Int} {op : Int} : ends t s (p ++ [op]) = (ends t s p).bind fun e => if dec (can t e op) = true then some (aft t e op) else none := by
  rw [ends_append]
  cases ends t s p with
  | none => rfl
  | some e => simp only [Option.bind_some, ends]
theorem turnsWork_eq {t : TTask} {goals plans : List (List Int)} (hp : PartiesOk t goals plans) {turns : List Int} (hl : turns.length ≤ 60) (hr : ∀ p ∈ turns, 0 ≤ p ∧ p < plans.length) : ref8_TurnsWork t goals plans turns = some (dec (goodT t goals plans turns)) := by
  have ht := hp.task
  have hn := ht.n1
  have h4 := hp.n4
  unfold ref8_TurnsWork
  rw [mkL_eq (by omega) (by omega)]
  simp only [Option.bind_some]
  have key := rngX_inv (body := ref8_TurnsWork_l1 plans turns) (n := (turns.length : Int)) (s := (List.replicate plans.length 0, []))
    (fun j p => AtOk plans p.1 ∧ (p.2.length : Int) = j ∧ (∀ x ∈ p.2, 0 ≤ x ∧ x < t.operators.length) ∧ (goodT t goals plans turns ↔ ∃ s, ends t t.init p.2 = some s ∧ good t plans (allGoals t goals) s p.1 (turns.drop j.toNat)))
    (fun o => o = false ∧ ¬ goodT t goals plans turns) (by omega) ⟨atOk_zero _, rfl, by simp, by simp [goodT, ends]⟩ (fun j ⟨c5, c6⟩ j0 j1 ⟨k1, k2, k2', k3⟩ => by
    dsimp only at k1 k2 k2' k3 ⊢
    obtain ⟨p, hj, _⟩ := ix_of (l := turns) j0 j1
    obtain ⟨p0, p1⟩ := hr p (ix_mem hj)
    obtain ⟨l, hl, _⟩ := ix_of (l := plans) p0 p1
    obtain ⟨a, ha, a0, a1⟩ := k1.get hl
    rw [drop_ix hj] at k3
    unfold ref8_TurnsWork_l1
    simp only [hj, Option.bind_some, ha, hl]
    by_cases c3 : (l.length : Int) ≤ a
    · rw [if_pos c3]
      refine .inr ⟨_, rfl, rfl, fun h => ?_⟩
      obtain ⟨s, _, op, g1, _⟩ := k3.1 h
      obtain ⟨l', a', e1, e2, e3⟩ := nxt_some g1
      rw [hl] at e1; cases e1
      rw [ha] at e2; cases e2
      have := (ix_lo e3).2.1
      omega
    · rw [if_neg c3]
      obtain ⟨op, hop, _⟩ := ix_of (l := l) a0 (by omega)
      have ho := hp.op l (ix_mem hl) op (ix_mem hop)
      have hnx := nxt_of hl ha hop
      have hl6 := hp.six l (ix_mem hl)
      simp only [Option.bind_some, hop]
      rw [app, if_pos (by simp; omega)]
      simp only [Option.bind_some]
      rw [w64_of (by omega) (by omega), ← bump_eq ha]
      refine .inl ⟨_, rfl, k1.bump hnx, by simp; omega, fun x hx => ?_, k3.trans ?_⟩
      · simp only [List.mem_append, List.mem_singleton] at hx
        rcases hx with hx | rfl
        · exact k2' x hx
        · exact ho
      · dsimp only
        rw [ends_snoc]
        constructor
        · rintro ⟨s, g1, op', g2, g3, g4⟩
          rw [hnx] at g2; cases g2
          exact ⟨_, by rw [g1]; simp only [Option.bind_some]; rw [ifP g3], g4⟩
        · rintro ⟨s', g1, g2⟩
          obtain ⟨s, e1, e2⟩ := bind_some g1
          split at e2
          · cases e2
            exact ⟨s, e1, op, hnx, dec_true.1 ‹_›, g2⟩
          · cases e2)
  rcases key with ⟨⟨c5, c6⟩, r1, r2, r3, r3', r4⟩ | ⟨o, r1, rfl, r2⟩
  · dsimp only at r2 r3 r3' r4
    rw [r1]
    simp only [Option.bind_some]
    have e0 : turns.drop (turns.length : Int).toNat = [] := by simp
    rw [e0] at r4
    have key := rngX_test (body := ref8_TurnsWork_l2 plans c5) (n := (plans.length : Int)) (fun j => match ix plans j, ix c5 j with | some l, some a => if dec (a = (l.length : Int)) = true then none else some false | _, _ => none) (by omega) (fun j j0 j1 _ => by
      obtain ⟨l, hl, _⟩ := ix_of (l := plans) j0 j1
      obtain ⟨a, ha, a0, a1⟩ := r2.get hl
      unfold ref8_TurnsWork_l2
      simp only [hl, ha, Option.bind_some]
      by_cases e : a = (l.length : Int)
      · rw [if_neg (by omega), ifP e]
      · rw [if_pos (by omega), ifN e])
    have hall : (∀ j, 0 ≤ j → j < (plans.length : Int) → (match ix plans j, ix c5 j with | some l, some a => if dec (a = (l.length : Int)) = true then none else some false | _, _ => none) = none) ↔ allDone plans c5 := by
      constructor
      · intro h p l a hl ha
        have := h p (ix_lo hl).1 (ix_lo hl).2.1
        simp only [hl, ha] at this
        split at this
        · exact dec_true.1 ‹_›
        · cases this
      · intro h j j0 j1
        obtain ⟨l, hl, _⟩ := ix_of (l := plans) j0 j1
        obtain ⟨a, ha, _⟩ := r2.get hl
        simp only [hl, ha]
        rw [ifP (h j l a hl ha)]
    rcases key with ⟨s1, s2⟩ | ⟨j, o, j0, j1, s2, _, s3⟩
    · rw [s1]
      simp only [Option.bind_some]
      rw [rEnds_eq ht r3']
      simp only [Option.bind_some]
      have hd := hall.1 s2
      cases he : ends t t.init c6 with
      | none =>
        simp only []
        obtain ⟨b, b1, b2⟩ := forR_inv (body := ref8_TurnsWork_l3 goals ([], false)) (n := (goals.length : Int)) (s := false) (fun j b => b = false) (by omega) rfl (fun j b j0 j1 hb => by
          subst hb
          unfold ref8_TurnsWork_l3
          exact ⟨false, by simp, rfl⟩)
        rw [b1, b2]
        simp only [Option.bind_some]
        rw [dec_no]
        intro h
        obtain ⟨s, g1, _⟩ := r4.1 h
        rw [he] at g1; cases g1
      | some e =>
        simp only []
        obtain ⟨b, b1, b2⟩ := forR_inv (body := ref8_TurnsWork_l3 goals (e, true)) (n := (goals.length : Int)) (s := true) (fun j b => b = dec (∀ i g, 0 ≤ i → i < j → ix goals i = some g → ∀ x ∈ g, x ∈ e)) (by omega) (by rw [dec_of]; intro i g h0 h1; omega) (fun j b j0 j1 hb => by
          obtain ⟨g, hg, _⟩ := ix_of (l := goals) j0 j1
          unfold ref8_TurnsWork_l3
          rw [hg]
          simp only [Option.bind_some, subset_eq]
          by_cases c : b = true
          · rw [if_pos c]
            refine ⟨_, rfl, dec_congr ?_⟩
            rw [c] at hb
            have hb := dec_true.1 hb.symm
            constructor
            · intro h i g' i0 i1 hi
              by_cases e : i = j
              · subst e; rw [hg] at hi; cases hi; exact h
              · exact hb i g' i0 (by omega) hi
            · exact fun h => h j g j0 (by omega) hg
          · rw [if_neg c]
            have c : b = false := by simpa using c
            refine ⟨_, rfl, ?_⟩
            rw [c] at hb
            have hb := dec_false.1 hb.symm
            rw [dec_no]
            exact fun h => hb fun i g' i0 i1 hi => h i g' i0 (by omega) hi)
        rw [b1, b2]
        simp only [Option.bind_some]
        refine congrArg some (dec_congr ?_)
        rw [r4]
        constructor
        · intro h
          refine ⟨e, he, hd, fun x hx => ?_⟩
          obtain ⟨_, _, g, hg, hxg⟩ := mem_setOf.1 hx
          obtain ⟨i, i0, i1, hi⟩ := mem_ix hg
          exact h i g i0 i1 hi x hxg
        · rintro ⟨s, g1, _, g3⟩ i g i0 i1 hi x hx
          rw [he] at g1; cases g1
          have := (hp.goal g (ix_mem hi)).2 x hx
          exact g3 x (mem_setOf.2 ⟨this.1, this.2, g, ix_mem hi, hx⟩)
    · rw [s3]
      have hnd : ¬ allDone plans c5 := fun h => by have := hall.2 h j j0 j1; rw [this] at s2; cases s2
      obtain ⟨l, hl, _⟩ := ix_of (l := plans) j0 j1
      obtain ⟨a, ha, _⟩ := r2.get hl
      simp only [hl, ha] at s2
      split at s2
      · cases s2
      · cases s2
        simp only [Option.bind_some]
        rw [dec_no]
        intro h
        obtain ⟨s, _, g2, _⟩ := r4.1 h
        exact hnd g2
  · rw [r1]
    simp only [Option.bind_some]
    rw [dec_no r2]
/-! ### All turns, one after the other -/
theorem left_zero : ∀ plans : List (List Int), left plans (List.replicate plans.length 0) = (plans.map List.length).sum
  | [] => rfl
  | l :: plans => by
    have := left_zero plans
    simp only [left, List.length_cons, List.replicate_succ, List.zip_cons_cons, List.map_cons, List.sum_cons] at this ⊢
    omega
theorem steps8_eq {plans : List (List Int)} (h4 : plans.length ≤ 4) (h6 : ∀ p ∈ plans, p.length ≤ 6) : ref8_Steps plans = some (left plans (List.replicate plans.length 0) : Int) := by
  unfold ref8_Steps
  obtain ⟨n, h1, h2⟩ := forR_inv (body := ref8_Steps_l1 plans) (n := (plans.length : Int)) (s := 0) (fun j n => n = (((plans.take j.toNat).map List.length).sum : Nat) ∧ n ≤ 6 * j) (by omega) (by simp) (fun j n j0 j1 ⟨k1, k2⟩ => by
    obtain ⟨p, hp, g2⟩ := ix_of (l := plans) j0 j1
    have := h6 p (ix_mem hp)
    unfold ref8_Steps_l1
    rw [hp]
    simp only [Option.bind_some]
    rw [w64_of (by omega) (by omega)]
    refine ⟨_, rfl, ?_, by omega⟩
    rw [show (j + 1).toNat = j.toNat + 1 by omega, List.take_add_one, g2, k1]
    simp)
  rw [h1, h2.1, left_zero]
  simp
def adv (at_ l : List Int) : List Int := l.foldl bump at_
theorem good_split {t : TTask} {plans : List (List Int)} {gs : List Int} : ∀ {l m s at_ : List Int}, good t plans gs s at_ (l ++ m) → ∃ s', good t plans gs s' (adv at_ l) m
  | [], m, s, at_, h => ⟨s, h⟩
  | p :: l, m, s, at_, h => by
    obtain ⟨op, _, _, h3⟩ := h
    exact good_split (l := l) h3
structure Begun (plans : List (List Int)) (l : List Int) : Prop where
  at_ok : AtOk plans (adv (List.replicate plans.length 0) l)
  len : l.length + left plans (adv (List.replicate plans.length 0) l) = left plans (List.replicate plans.length 0)
  rng : ∀ p ∈ l, 0 ≤ p ∧ p < plans.length
  cnt : ∀ p : Int, 0 ≤ p → p < plans.length → ix (adv (List.replicate plans.length 0) l) p = some (l.count p : Int)
theorem begun_nil (plans : List (List Int)) : Begun plans [] where
  at_ok := atOk_zero plans
  len := by simp [adv]
  rng := by simp
  cnt p h0 h1 := by
    obtain ⟨a, ha, _⟩ := ix_of (l := List.replicate plans.length (0 : Int)) h0 (by simpa using h1)
    rw [adv, List.foldl_nil, ha, ix_replicate ha]; rfl
theorem Begun.snoc {plans : List (List Int)} {l : List Int} (h : Begun plans l) {p op : Int} (hn : nxt plans (adv (List.replicate plans.length 0) l) p = some op) : Begun plans (l ++ [p]) := by
  have e : adv (List.replicate plans.length 0) (l ++ [p]) = bump (adv (List.replicate plans.length 0) l) p := by simp [adv]
  obtain ⟨m, a, g1, g2, g3⟩ := nxt_some hn
  have hlo := ix_lo g1
  refine ⟨by rw [e]; exact h.at_ok.bump hn, ?_, ?_, fun q q0 q1 => ?_⟩
  · rw [e]
    have := nxt_left hn
    have := h.len
    simp; omega
  · intro q hq
    simp only [List.mem_append, List.mem_singleton] at hq
    rcases hq with hq | rfl
    · exact h.rng q hq
    · exact ⟨hlo.1, hlo.2.1⟩
  · rw [e, ix_bump g2 q0]
    by_cases c : q = p
    · subst c
      rw [if_pos rfl]
      have := h.cnt q q0 q1
      rw [g2] at this; cases this
      simp
    · rw [if_neg c, h.cnt q q0 q1]
      have : ¬ p = q := fun e => c e.symm
      simp [List.count_append, List.count_singleton, this]
def TurnsV (t : TTask) (goals plans : List (List Int)) (l : List Int) (r : List Int × Bool) : Prop :=
  (r.2 = true ∧ ∃ m, r.1 = l ++ m ∧ goodT t goals plans (l ++ m) ∧ ∀ m', goodT t goals plans (l ++ m') → lexLe m m') ∨ (r.2 = false ∧ ∀ m', ¬ goodT t goals plans (l ++ m'))
theorem turns8_mono (t : TTask) (goals plans : List (List Int)) : Mono (ref8_Turns_w_b t goals plans) := by
  intro f g h l
  unfold ref8_Turns_w_b
  refine Lt.bind Lt.rfl' fun _ => Lt.ite Lt.rfl' (Lt.bind (Lt.rngX fun i s => ?_) fun x => Lt.rfl')
  unfold ref8_Turns_w_l1
  skip
  repeat (first | exact Lt.rfl' | exact h _ | refine Lt.ite ?_ ?_ | refine Lt.bind ?_ fun _ => ?_)
theorem count_eq {l : List Int} (hl : l.length ≤ 1000) (p : Int) : forR 0 (l.length : Int) (ref8_Turns_w_l3 l p) 0 = some (l.count p : Int) := by
  obtain ⟨n, h1, h2⟩ := forR_inv (body := ref8_Turns_w_l3 l p) (n := (l.length : Int)) (s := 0) (fun j n => n = ((l.take j.toNat).count p : Int)) (by omega) (by simp) (fun j n j0 j1 k1 => by
    obtain ⟨q, hq, g2⟩ := ix_of (l := l) j0 j1
    unfold ref8_Turns_w_l3
    rw [hq]
    simp only [Option.bind_some]
    have hc : (l.take j.toNat).count p ≤ (l.take j.toNat).length := List.count_le_length
    rw [List.length_take] at hc
    rw [w64_of (by omega) (by omega), show (j + 1).toNat = j.toNat + 1 by omega, List.take_add_one, g2, List.count_append]
    by_cases c : q = p
    · rw [if_pos c]
      exact ⟨_, rfl, by rw [k1, c]; simp⟩
    · rw [if_neg c]
      exact ⟨_, rfl, by rw [k1]; simp [List.count_singleton, c]⟩)
  rw [h1, h2]
  simp
theorem turns8_step {t : TTask} {goals plans : List (List Int)} (hp : PartiesOk t goals plans) (f : List Int → Option (List Int × Bool)) (l : List Int) (hb : Begun plans l)
    (ih : ∀ l', Begun plans l' → left plans (adv (List.replicate plans.length 0) l') < left plans (adv (List.replicate plans.length 0) l) → ∃ r, f l' = some r ∧ TurnsV t goals plans l' r) :
    ∃ r, ref8_Turns_w_b t goals plans f l = some r ∧ TurnsV t goals plans l r := by
  have hlb : left plans (List.replicate plans.length 0) ≤ 24 := by
    rw [left_zero]
    have : ∀ pl : List (List Int), (∀ x ∈ pl, x.length ≤ 6) → (pl.map List.length).sum ≤ 6 * pl.length := by
      intro pl
      induction pl with
      | nil => simp
      | cons x pl ihp =>
        intro h
        have h1 := h x (by simp)
        have h2 := ihp fun z hz => h z (by simp [hz])
        simp only [List.map_cons, List.sum_cons, List.length_cons]
        omega
    have := this plans hp.six
    have := hp.n4
    omega
  have hlen := hb.len
  have glen : ∀ m, goodT t goals plans (l ++ m) → (l ++ m).length = left plans (List.replicate plans.length 0) := fun m h => good_len (atOk_zero plans) h
  unfold ref8_Turns_w_b
  rw [steps8_eq hp.n4 hp.six]
  simp only [Option.bind_some]
  by_cases c : (l.length : Int) = (left plans (List.replicate plans.length 0) : Nat)
  · rw [if_pos c, turnsWork_eq hp (by omega) hb.rng]
    refine ⟨_, rfl, ?_⟩
    have e0 : ∀ m, goodT t goals plans (l ++ m) → m = [] := fun m h => by
      have := glen m h
      rw [List.length_append] at this
      exact List.eq_nil_of_length_eq_zero (by omega)
    by_cases g : goodT t goals plans l
    · rw [dec_of g]
      exact .inl ⟨rfl, [], by simp, by simpa using g, fun m h => by rw [e0 m h]; trivial⟩
    · rw [dec_no g]
      exact .inr ⟨rfl, fun m h => by have := e0 m h; subst this; exact g (by simpa using h)⟩
  · rw [if_neg c]
    have hne : ∀ m, goodT t goals plans (l ++ m) → m ≠ [] := fun m h e => by
      have := glen m h
      subst e
      rw [List.append_nil] at this
      omega
    rcases rngX_inv (body := ref8_Turns_w_l1 plans l f) (n := (plans.length : Int)) (s := ()) (fun j _ => ∀ q m, q < j → ¬ goodT t goals plans (l ++ q :: m)) (fun r => TurnsV t goals plans l r) (by omega) (fun q m hq h => by
      have := (good_rng h q (by simp)).1; omega) (fun p _ p0 p1 hP => by
        unfold ref8_Turns_w_l1
        skip
        rw [count_eq (by omega)]
        obtain ⟨pl, hl, _⟩ := ix_of (l := plans) p0 p1
        have ha := hb.cnt p p0 p1
        have hj2 : ref8_Turns_w_j2 () = some (.inl ()) := rfl
        simp only [Option.bind_some, hl]
        have step : (∀ m, ¬ goodT t goals plans (l ++ p :: m)) → ∀ q m, q < p + 1 → ¬ goodT t goals plans (l ++ q :: m) := fun hn q m hq => by
          by_cases e : q = p
          · subst e; exact hn m
          · exact hP q m (by omega)
        by_cases c1 : (l.count p : Int) = pl.length
        · rw [if_pos c1, hj2]
          refine .inl ⟨(), rfl, step fun m h => ?_⟩
          obtain ⟨s', op, g1, _⟩ := good_split (l := l) h
          obtain ⟨l', a', e1, e2, e3⟩ := nxt_some g1
          rw [hl] at e1; cases e1
          rw [ha] at e2; cases e2
          have := (ix_lo e3).2.1
          omega
        · rw [if_neg c1, app, if_pos (by simp; omega)]
          simp only [Option.bind_some, List.nil_append]
          rw [app, if_pos (by simp; omega)]
          simp only [Option.bind_some]
          have hrg := hb.at_ok.rng p pl _ hl ha
          obtain ⟨op, hop, _⟩ := ix_of (l := pl) (i := (l.count p : Int)) (by omega) (by omega)
          have hnx := nxt_of hl ha hop
          have hb2 := hb.snoc hnx
          have hlt := nxt_left hnx
          have e : adv (List.replicate plans.length 0) (l ++ [p]) = bump (adv (List.replicate plans.length 0) l) p := by simp [adv]
          obtain ⟨⟨r, ok⟩, r1, r2⟩ := ih (l ++ [p]) hb2 (by rw [e]; omega)
          rw [r1]
          simp only [Option.bind_some]
          rcases r2 with ⟨k1, m, k2, k3, k4⟩ | ⟨k1, k2⟩
          · dsimp only at k1 k2
            subst k1 k2
            rw [if_pos rfl]
            refine .inr ⟨_, rfl, .inl ⟨rfl, p :: m, by simp, by simpa using k3, fun m' h => ?_⟩⟩
            match m', h with
            | [], h => exact absurd rfl (hne [] h)
            | q :: m2, h =>
              rcases Int.lt_trichotomy q p with hq | hq | hq
              · exact absurd h (hP q m2 hq)
              · subst hq; exact .inr ⟨rfl, k4 m2 (by simpa using h)⟩
              · exact .inl hq
          · dsimp only at k1
            subst k1
            rw [if_neg (by simp), hj2]
            exact .inl ⟨(), rfl, step fun m h => k2 m (by simpa using h)⟩) with ⟨_, r1, r2⟩ | ⟨r, r1, r2⟩
    · rw [r1]
      refine ⟨_, rfl, .inr ⟨rfl, fun m h => ?_⟩⟩
      match m, h with
      | [], h => exact hne [] h rfl
      | q :: m2, h => exact r2 q m2 (good_rng h q (by simp)).2 h
    · rw [r1]
      exact ⟨_, rfl, r2⟩
theorem turns8_eq {t : TTask} {goals plans : List (List Int)} (hp : PartiesOk t goals plans) : ∃ r, ref8_Turns t goals plans [] = some r ∧ TurnsV t goals plans [] r := by
  have h : ∀ l, Begun plans l → ∃ r, ref8_Turns_w t goals plans l = some r ∧ TurnsV t goals plans l r := fun l hl =>
    Rec_inv (turns8_mono t goals plans) (Begun plans) (TurnsV t goals plans) (fun l => left plans (adv (List.replicate plans.length 0) l)) (fun f l hl ih => turns8_step hp f l hl ih) hl
  exact turns8_step hp (ref8_Turns_w t goals plans) [] (begun_nil plans) fun l' hl' _ => h l' hl'
/-! ### The small task -/
theorem merged_ok : PartiesOk stepT [[1]] [[1, 0]] where
  task := step_ok
  n1 := by decide
  n4 := by decide
  len := rfl
  goal g hg := by simp only [List.mem_singleton] at hg; subst hg; exact setN1 1 (by decide) (by decide)
  six p hp := by simp only [List.mem_singleton] at hp; subst hp; decide
  op p hp := by simp only [List.mem_singleton] at hp; subst hp; simp [stepT]
theorem merged_good : goodT stepT [[1]] [[1, 0]] [0, 0] := by
  refine ⟨1, rfl, fun x hx => (by cases hx), 0, rfl, fun x hx => ?_, ?_, fun x hx => ?_⟩
  · have : x = 0 := by simpa [opAt, stepT] using hx
    subst this
    exact mem_setOf.2 ⟨by decide, by decide, .inr ⟨by simp [stepT], by simp [opAt, stepT]⟩⟩
  · intro p l a h1 h2
    obtain ⟨p0, p1, _⟩ := ix_lo h1
    have : p = 0 := by simp at p1; omega
    subst this
    cases h1; cases h2; rfl
  · obtain ⟨_, _, g, hg, hx⟩ := mem_setOf.1 hx
    simp only [List.mem_singleton] at hg
    subst hg
    have : x = 1 := by simpa using hx
    subst this
    exact mem_setOf.2 ⟨by decide, by decide, .inl (by simp [opAt, stepT])⟩
theorem merged_true : law8_merged = some true := by
  have h0 : law8_step = some stepT := rfl
  obtain ⟨l, ok, f, h1, h2, h3⟩ := merge_eq stepT [[1]] [[1, 0]]
  rcases h3 with ⟨rfl, hp, h3⟩ | ⟨_, h, _⟩
  · rcases h3 with ⟨rfl, g1, g2⟩ | ⟨_, _, g⟩
    · have hl : l = [0, 0] := by
        have e := good_len (atOk_zero [[1, 0]]) g1
        have r := good_rng g1
        have e : l.length = 2 := e
        match l, e, r with
        | [a, b], _, r =>
          have ra := r a (by simp); have rb := r b (by simp)
          simp at ra rb
          rw [show a = 0 by omega, show b = 0 by omega]
      subst hl
      obtain ⟨b, f2, c1, c2⟩ := mCheck_eq stepT [[1]] [[1, 0]] [0, 0]
      unfold law8_merged
      simp only [h0, Option.bind_some, h1, c1]
      rcases c2 with ⟨rfl, _, _, _, rfl⟩ | ⟨rfl, c2, c3⟩
      · rw [dec_of g1, numbers_eq, dec_of rfl]; simp
      · rcases c3 with c3 | ⟨_, c3 | c3⟩
        · rw [h2] at c3; cases c3; exact absurd rfl c2
        · simp at c3
        · exact absurd (good_rng g1) c3.2.1
    · exact absurd merged_good (g _)
  · exact absurd merged_ok h
/-! ### Laws -/
theorem MergingMergeMatchesSpec_true (t : TTask) (goals plans : List (List Int)) : law8_MergingMergeMatchesSpec t goals plans = some true := by
  obtain ⟨l, ok, f, h1, h2, h3⟩ := merge_eq t goals plans
  unfold law8_MergingMergeMatchesSpec
  simp only [h1, h2, Option.bind_some]
  rcases h3 with ⟨rfl, hp, h3⟩ | ⟨hc, _, rfl, rfl⟩
  · rw [if_pos rfl, steps8_eq hp.n4 hp.six]
    simp only [Option.bind_some]
    split
    · rw [merged_true]; rfl
    · obtain ⟨⟨w, is⟩, e1, e2⟩ := turns8_eq hp
      rw [e1]
      simp only [Option.bind_some, if_true]
      have hok : ok = is := by
        rcases h3 with ⟨rfl, g1, _⟩ | ⟨rfl, _, g⟩ <;> rcases e2 with ⟨k1, m, k2, k3, k4⟩ | ⟨k1, k2⟩ <;> simp only at k1 <;> subst k1
        · rfl
        · exact absurd (by simpa using g1) (k2 l)
        · exact absurd (by simpa using k3) (g m)
        · rfl
      rw [if_pos hok]
      rcases h3 with ⟨rfl, g1, g2⟩ | ⟨rfl, rfl, g⟩
      · rw [if_pos rfl, numbers_eq]
        simp only [Option.bind_some]
        rcases e2 with ⟨k1, m, k2, k3, k4⟩ | ⟨k1, k2⟩
        · simp only [List.nil_append] at k2 k3 k4
          have : l = w := by
            rw [k2]
            exact (g2 m k3).antisymm (k4 l g1)
          rw [ifP this, merged_true]; rfl
        · exact absurd (by simpa using g1) (k2 l)
      · simp [merged_true]
  · rw [if_neg hc]
    simp [merged_true]
end Ab
end
