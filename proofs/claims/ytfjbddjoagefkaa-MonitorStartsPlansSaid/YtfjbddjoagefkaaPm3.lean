/-
  THE LAWS of monitor, plainly.
-/
import Derived.Test.YtfjbddjoagefkaaPm2
namespace Ab
open Go

def stepT : TTask := ⟨2, [0], [1], [⟨[0], [1], [0], 1⟩, ⟨[], [1], [], 3⟩]⟩
theorem setN1 (a : Int) {n : Int} (h0 : 0 ≤ a) (h1 : a < n) : SetN [a] n := ⟨by simp, by simp [h0, h1]⟩
theorem step_ok : TaskOk stepT where
  n0 := by decide
  n1 := by decide
  init := setN1 0 (by decide) (by decide)
  goal := setN1 1 (by decide) (by decide)
  ops := by decide
  op o ho := by
    simp only [stepT, List.mem_cons, List.not_mem_nil, or_false] at ho
    rcases ho with rfl | rfl
    · exact ⟨⟨setN1 0 (by decide) (by decide), setN1 1 (by decide) (by decide), setN1 0 (by decide) (by decide), by simp⟩, by decide, by decide⟩
    · exact ⟨⟨setN_nil _, setN1 1 (by decide) (by decide), setN_nil _, by simp⟩, by decide, by decide⟩
theorem step_plan : PlanOk stepT [0] := ⟨by decide, by simp [stepT]⟩
theorem nd_step0 : nd stepT [] = ⟨[1], false⟩ := by
  simp only [nd]
  rw [← SetN.eq (l := stepT.goal) step_ok.goal]; rfl
theorem nd_step1 : nd stepT [0] = ⟨[0], false⟩ := by
  rw [nd, nd_step0]
  have e : opAt stepT 0 = ⟨[0], [1], [0], 1⟩ := rfl
  rw [e, ifN (by simp)]
  congr 1
  refine (SetN.eq_of (l := [0]) (setN1 0 (by decide) (by decide)) fun x _ _ => ?_).symm
  simp
theorem two_of {α : Type} {l : List α} {a b : α} (hl : l.length = 2) (h0 : ix l 0 = some a) (h1 : ix l 1 = some b) : l = [a, b] := by
  match l, hl with
  | [x, y], _ =>
    simp [ix] at h0 h1
    rw [h0, h1]
theorem watched_true : law8_watched = some true := by
  unfold law8_watched
  rw [show law8_step = some stepT from rfl]
  simp only [Option.bind_some]
  obtain ⟨l, c, f, h1, h2, h3⟩ := conditions_eq stepT [0]
  rcases h3 with ⟨rfl, _, _, e1, e2, e3, e4⟩ | ⟨_, h, _⟩
  · have hl : l = [[0], [1]] := two_of e1 (by rw [e3 0 (by decide) (by decide)]; show some (nd stepT [0]).facts = _; rw [nd_step1]) (by rw [e3 1 (by decide) (by decide)]; show some (nd stepT []).facts = _; rw [nd_step0])
    have hc : c = [true, true] := two_of e2 (by rw [e4 0 (by decide) (by decide)]; show some (!(nd stepT [0]).never) = _; rw [nd_step1]; rfl) (by rw [e4 1 (by decide) (by decide)]; show some (!(nd stepT []).never) = _; rw [nd_step0]; rfl)
    rw [h1, hl, hc]
    simp only [Option.bind_some, if_true]
    obtain ⟨pf, sf, _, _, k3, k4, h⟩ := resume_eq stepT [0] [0]
    have w0 : works stepT [0] [0] := by
      rw [nd_works step_ok (fun x hx => step_plan.2 x hx) (setN1 0 (by decide) (by decide)), nd_step1]; simp
    have w1 : ¬ works stepT [0] [] := by
      rw [nd_works step_ok (by simp) (setN1 0 (by decide) (by decide)), nd_step0]; simp
    have hr : monitor_Resume stepT [0] [0] = some (0, true, ⟨0, 0⟩) := by
      rcases h with ⟨_, _, _, _, _, ⟨n, g1, g2, g3, g4, _⟩ | ⟨_, g⟩⟩ | ⟨g, _⟩
      · have : n = 0 := by
          rcases Int.lt_or_eq_of_le g2 with c | c
          · have : n = 1 := by simp at g3; omega
            subst this; exact absurd g4 w1
          · exact c.symm
        rw [g1, this]
      · exact absurd w0 (g 0 (by decide) (by decide))
      · exfalso
        rcases g with g | g
        · rcases k3 with ⟨rfl, _⟩ | ⟨_, k⟩
          · exact g rfl
          · exact k ⟨step_ok, setN1 0 (by decide) (by decide)⟩
        · rcases k4 with ⟨rfl, _⟩ | ⟨_, k⟩
          · exact g rfl
          · exact k ⟨step_ok, step_plan⟩
    rw [hr]
    simp only [Option.bind_some, if_true]
    simp [equal_Sets, rngX, rngN, equal_Sets_l1, ix, numbers_eq, equal_Truths, equal_Truths_l1, dec]
  · exact absurd ⟨step_ok, step_plan⟩ h

theorem subL_drop {α : Type} {l : List α} {i : Int} (h0 : 0 ≤ i) (h1 : i ≤ l.length) : subL l i (l.length : Int) = some (l.drop i.toNat) := by
  rw [subL, if_pos (by omega)]
  rw [show ((l.length : Int)).toNat = l.length by omega, List.take_length]
theorem subL_take {α : Type} {l : List α} {i : Int} (h0 : 0 ≤ i) (h1 : i ≤ l.length) : subL l 0 i = some (l.take i.toNat) := by
  rw [subL, if_pos (by omega)]; rfl

theorem MonitorConditionsAreExact_true (t : TTask) (plan s : List Int) (i : Int) : law8_MonitorConditionsAreExact t plan s i = some true := by
  unfold law8_MonitorConditionsAreExact
  simp only [watched_true, Option.bind_some]
  obtain ⟨l, c, f, h1, h2, h3⟩ := conditions_eq t plan
  rw [h1]
  simp only [Option.bind_some, in_eq, dec_not]
  rcases h3 with ⟨rfl, ht, hp, e1, e2, e3, e4⟩ | ⟨hc, _⟩
  · rw [stateOk_eq ht.n0 ht.n1]
    simp only [Option.bind_some, dec_not]
    rw [if_neg (by simp)]
    have hl := hp.1
    by_cases hs : SetN s t.facts
    · rw [ifNN hs]
      by_cases hi : 0 ≤ i ∧ i ≤ plan.length
      · simp only [Option.bind_some]
        rw [ifNN hi, if_neg (by rw [w64_of (by omega) (by omega)]; simp [e1, e2]), subL_drop hi.1 hi.2]
        have hr : ∀ x ∈ plan.drop i.toNat, 0 ≤ x ∧ x < t.operators.length := fun x hx => hp.2 x (drop_mem hx)
        simp only [Option.bind_some, rWorks_eq ht hr, e4 i hi.1 hi.2, e3 i hi.1 hi.2, subset_eq]
        have hw := nd_works ht hr hs
        cases hn : (nd t (plan.drop i.toNat)).never with
        | true =>
          rw [if_neg (by simp), dec_no (fun h => by have := (hw.1 h).1; rw [hn] at this; cases this)]
          rfl
        | false =>
          rw [if_pos (by simp), if_pos]
          · rfl
          · rw [dec_inj, hw, hn]; simp
      · simp only [Option.bind_some]
        rw [if_pos (dec_of hi)]
    · rw [if_pos (dec_of hs)]
      rfl
  · rw [if_pos (by simpa using hc)]
    rfl

theorem MonitorMissingSuffices_true (t : TTask) (plan s : List Int) (i : Int) : law8_MonitorMissingSuffices t plan s i = some true := by
  unfold law8_MonitorMissingSuffices
  simp only [watched_true, Option.bind_some]
  obtain ⟨pf, sf, _, _, h⟩ := missing_eq t plan s i
  rcases h with ⟨_, _, ht, hs, hp, ⟨i0, i1, h⟩ | ⟨_, h⟩⟩ | ⟨hc, h⟩
  · rw [h]
    simp only [Option.bind_some]
    by_cases hn : (nd t (plan.drop i.toNat)).never = true
    · rw [if_pos (by simp [hn])]
    · have hf : (nd t (plan.drop i.toNat)).never = false := by simpa using hn
      have h0 := ht.n0; have h1 := ht.n1
      rw [if_neg (by simp [hf]), if_pos (by omega), if_neg hn]
      rw [forR_setOf (b := 8) (fun x => x ∈ s ∨ x ∈ setOf (fun x => x ∈ (nd t (plan.drop i.toNat)).facts ∧ x ∉ s) t.facts) h0 (by omega) (fun j c g0 g1 => by
        unfold law8_MonitorMissingSuffices_l1
        simp only [has_eq, Option.bind_some]
        have e : (if dec (j ∈ s) = true then some true else some (dec (j ∈ setOf (fun x => x ∈ (nd t (plan.drop i.toNat)).facts ∧ x ∉ s) t.facts))) = some (dec (j ∈ s ∨ j ∈ setOf (fun x => x ∈ (nd t (plan.drop i.toNat)).facts ∧ x ∉ s) t.facts)) := by
          by_cases c1 : j ∈ s
          · rw [ifP c1, dec_of (.inl c1)]
          · rw [ifN c1]; exact congrArg some (dec_congr ⟨.inr, fun h => h.resolve_left c1⟩)
        rw [e]
        simp only [Option.bind_some]
        refine ⟨fun hq => ?_, fun hq => ?_⟩
        · rw [ifP hq]; cases app 8 c [j] <;> rfl
        · rw [ifN hq]; rfl)]
      simp only [Option.bind_some]
      have hr : ∀ x ∈ plan.drop i.toNat, 0 ≤ x ∧ x < t.operators.length := fun x hx => hp.2 x (drop_mem hx)
      rw [subL_drop i0 i1]
      simp only [Option.bind_some, rWorks_eq ht hr]
      rw [ifP]
      · rfl
      · rw [nd_works ht hr (setN_setOf _ _)]
        refine ⟨hf, fun x hx => ?_⟩
        have hb := (nd_set t _).2 x hx
        refine mem_setOf.2 ⟨hb.1, hb.2, ?_⟩
        by_cases c : x ∈ s
        · exact .inl c
        · exact .inr (mem_setOf.2 ⟨hb.1, hb.2, hx, c⟩)
  · rw [h]
    simp
  · rw [h]
    simp

theorem MonitorResumes_true (t : TTask) (plan s : List Int) : law8_MonitorResumes t plan s = some true := by
  unfold law8_MonitorResumes
  simp only [watched_true, Option.bind_some]
  obtain ⟨pf, sf, _, _, _, _, h⟩ := resume_eq t plan s
  rcases h with ⟨_, _, ht, hs, hp, ⟨n, h, n0, n1, hw, _⟩ | ⟨h, _⟩⟩ | ⟨hc, h⟩
  · rw [h]
    simp only [Option.bind_some, in_eq, dec_not]
    rw [if_neg (by simp), ifNN ⟨n0, n1⟩, subL_drop n0 n1]
    simp only [Option.bind_some]
    obtain ⟨b, f, g1, _, g3⟩ := solves_eq ⟨t.facts, s, t.goal, t.operators⟩ (plan.drop n.toNat)
    rw [g1]
    simp only [Option.bind_some]
    rcases g3 with ⟨rfl, _, _, rfl⟩ | ⟨_, g, _⟩
    · rw [if_pos rfl, ifP (works_init.2 hw)]
      rfl
    · exact absurd ⟨⟨ht.n0, ht.n1, hs, ht.goal, ht.ops, ht.op⟩, by have := hp.1; simp; omega, fun x hx => hp.2 x (drop_mem hx)⟩ g
  · rw [h]; simp
  · rw [h]; simp

theorem MonitorStartsPlans_true (t : TTask) (plan : List Int) (i : Int) : law8_MonitorStartsPlans t plan i = some true := by
  unfold law8_MonitorStartsPlans
  simp only [watched_true, Option.bind_some]
  obtain ⟨b, f, g1, _, g3⟩ := solves_eq t plan
  rw [g1]
  simp only [Option.bind_some, in_eq, dec_not]
  rcases g3 with ⟨rfl, ht, hp, rfl⟩ | ⟨hc, _, rfl⟩
  · rw [if_neg (by simp)]
    simp only [dec_not]
    by_cases hw : works t t.init plan
    · rw [ifNN hw]
      simp only [Option.bind_some]
      by_cases hi : 0 ≤ i ∧ i ≤ plan.length
      · rw [ifNN hi, subL_take hi.1 hi.2]
        simp only [Option.bind_some]
        have htk : ∀ x ∈ plan.take i.toNat, 0 ≤ x ∧ x < t.operators.length := fun x hx => hp.2 x (List.mem_of_mem_take hx)
        rw [rEnds_eq ht htk]
        obtain ⟨e, h1, h2⟩ := hw
        have hsplit : ends t t.init plan = (ends t t.init (plan.take i.toNat)).bind fun e => ends t e (plan.drop i.toNat) := by
          rw [← ends_append, List.take_append_drop]
        cases he : ends t t.init (plan.take i.toNat) with
        | none => rw [hsplit, he] at h1; cases h1
        | some m =>
          have hm := ends_setN ht.init he
          have hwm : works t m (plan.drop i.toNat) := ⟨e, by rw [hsplit, he] at h1; exact h1, h2⟩
          simp only [Option.bind_some, if_true]
          obtain ⟨pf, sf, _, _, k3, k4, h⟩ := resume_eq t plan m
          rcases h with ⟨_, _, _, _, _, ⟨n, h, n0, n1, _, hmax⟩ | ⟨_, h⟩⟩ | ⟨hc, _⟩
          · rw [h]
            simp only [Option.bind_some, if_true]
            rw [if_pos]
            · rfl
            · rcases Int.lt_or_le n i with c | c
              · exact absurd hwm (hmax i c hi.2)
              · exact c
          · exact absurd hwm (h i hi.1 hi.2)
          · exfalso
            rcases hc with g | g
            · rcases k3 with ⟨rfl, _⟩ | ⟨_, k⟩
              · exact g rfl
              · exact k ⟨ht, hm⟩
            · rcases k4 with ⟨rfl, _⟩ | ⟨_, k⟩
              · exact g rfl
              · exact k ⟨ht, hp⟩
      · rw [ifP hi]
    · rw [ifP hw]
      rfl
  · rw [if_pos (by simpa using hc)]
    rfl
end Ab
