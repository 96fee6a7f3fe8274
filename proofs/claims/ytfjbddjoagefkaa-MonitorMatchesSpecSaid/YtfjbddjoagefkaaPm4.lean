/-
  THE LAW of monitor's specification, plainly.
-/
import Derived.Test.YtfjbddjoagefkaaPm3
namespace Ab
open Go

theorem lost_eq {t : TTask} {rest s : List Int} (b : Bool) : (nd t rest).facts.filter (fun x => dec (x ∉ s)) = if (nd t rest).never = true then [] else setOf (fun x => x ∈ (nd t rest).facts ∧ x ∉ s) t.facts := by
  by_cases c : (nd t rest).never = true
  · rw [if_pos c, nd_never c]; rfl
  · rw [if_neg c]
    have hf := nd_set t rest
    refine (hf.1.filter _).ext (inc_setOf _ _) fun x => ?_
    rw [List.mem_filter, dec_true, mem_setOf]
    exact ⟨fun h => ⟨(hf.2 x h.1).1, (hf.2 x h.1).2, h⟩, fun h => h.2.2⟩

theorem specLoop {t : TTask} {plan s : List Int} {i : Int} {l : List (List Int)} {c : List Bool} {f h : TFault} {m : List Int} {is : Bool} {c6 c10 : Int} (ht : TaskOk t) (hp : PlanOk t plan)
    (hl : ∀ k : Int, 0 ≤ k → k ≤ plan.length → ix l k = some (nd t (plan.drop k.toNat)).facts) (hc : ∀ k : Int, 0 ≤ k → k ≤ plan.length → ix c k = some (!(nd t (plan.drop k.toNat)).never))
    (hm : c10 = 0 → 0 ≤ i → i ≤ plan.length → m = (if (nd t (plan.drop i.toNat)).never = true then [] else setOf (fun x => x ∈ (nd t (plan.drop i.toNat)).facts ∧ x ∉ s) t.facts) ∧ is = !(nd t (plan.drop i.toNat)).never) :
    ∃ last : Int, Loop (law8_MonitorMatchesSpec_l1 t plan s i (l, c, f) (m, is, h) c6 c10) (-1, 0) = some (.inl last) ∧ (c6 = 0 → (last = -1 ∧ ∀ k : Int, 0 ≤ k → k ≤ plan.length → ¬ works t s (plan.drop k.toNat)) ∨ (0 ≤ last ∧ last ≤ plan.length ∧ works t s (plan.drop last.toNat) ∧ ∀ k : Int, last < k → k ≤ plan.length → ¬ works t s (plan.drop k.toNat))) := by
  have hpl := hp.1
  have hn := ht.n1
  obtain ⟨o, h1, last, rfl, h2⟩ := Loop_inv (body := law8_MonitorMatchesSpec_l1 t plan s i (l, c, f) (m, is, h) c6 c10) (fun p => 0 ≤ p.2 ∧ p.2 ≤ plan.length + 1 ∧ (c6 = 0 → (p.1 = -1 ∧ ∀ k : Int, 0 ≤ k → k < p.2 → ¬ works t s (plan.drop k.toNat)) ∨ (0 ≤ p.1 ∧ p.1 < p.2 ∧ works t s (plan.drop p.1.toNat) ∧ ∀ k : Int, p.1 < k → k < p.2 → ¬ works t s (plan.drop k.toNat))))
    (fun o => ∃ last : Int, o = .inl last ∧ (c6 = 0 → (last = -1 ∧ ∀ k : Int, 0 ≤ k → k ≤ plan.length → ¬ works t s (plan.drop k.toNat)) ∨ (0 ≤ last ∧ last ≤ plan.length ∧ works t s (plan.drop last.toNat) ∧ ∀ k : Int, last < k → k ≤ plan.length → ¬ works t s (plan.drop k.toNat)))) (fun p => (plan.length + 1 - p.2).toNat)
    (s := (-1, 0)) ⟨by simp, by dsimp only; omega, fun _ => .inl ⟨rfl, fun k k0 k1 => by dsimp only at k1; omega⟩⟩ (fun ⟨last, k⟩ ⟨k0, k1, hP⟩ => by
      dsimp only at k0 k1 hP ⊢
      unfold law8_MonitorMatchesSpec_l1
      dsimp only
      by_cases ck : k ≤ plan.length
      · left
        have hr : ∀ x ∈ plan.drop k.toNat, 0 ≤ x ∧ x < t.operators.length := fun x hx => hp.2 x (drop_mem hx)
        have hf := (nd_set t (plan.drop k.toNat)).len
        rw [if_pos ck, subL_drop k0 ck]
        simp only [Option.bind_some, condition_eq ht hr, hc k k0 ck, hl k k0 ck, numbers_eq, rWorks_eq ht hr, dec_not]
        rw [if_neg (by simp)]
        simp only [Option.bind_some]
        rw [ifNN trivial]
        have hw : w64 (k + 1) = k + 1 := w64_of (by omega) (by omega)
        -- what is remembered
        have hlast : ∃ last', (Option.bind (Option.bind (if c6 = 0 then some (dec (works t s (plan.drop k.toNat))) else some false) fun t31 => if t31 = true then some k else some last) (fun x => some x) = some last') ∧ (c6 = 0 → (last' = -1 ∧ ∀ j : Int, 0 ≤ j → j < k + 1 → ¬ works t s (plan.drop j.toNat)) ∨ (0 ≤ last' ∧ last' < k + 1 ∧ works t s (plan.drop last'.toNat) ∧ ∀ j : Int, last' < j → j < k + 1 → ¬ works t s (plan.drop j.toNat))) := by
          by_cases e6 : c6 = 0
          · rw [if_pos e6]
            simp only [Option.bind_some]
            by_cases cw : works t s (plan.drop k.toNat)
            · rw [ifP cw]
              exact ⟨k, rfl, fun _ => .inr ⟨k0, by omega, cw, fun j g0 g1 => by omega⟩⟩
            · rw [ifN cw]
              refine ⟨last, rfl, fun _ => ?_⟩
              rcases hP e6 with ⟨q1, q2⟩ | ⟨q1, q2, q3, q4⟩
              · refine .inl ⟨q1, fun j g0 g1 => ?_⟩
                by_cases e : j = k
                · rw [e]; exact cw
                · exact q2 j g0 (by omega)
              · refine .inr ⟨q1, by omega, q3, fun j g0 g1 => ?_⟩
                by_cases e : j = k
                · rw [e]; exact cw
                · exact q4 j g0 (by omega)
          · rw [if_neg e6]
            exact ⟨last, rfl, fun h => absurd h e6⟩
        obtain ⟨last', e1, e2⟩ := hlast
        have e1' : (Option.bind (if c6 = 0 then some (dec (works t s (plan.drop k.toNat))) else some false) fun t31 => if t31 = true then some k else some last) = some last' := by
          rw [← e1]; cases (Option.bind (if c6 = 0 then some (dec (works t s (plan.drop k.toNat))) else some false) fun t31 => if t31 = true then some k else some last) <;> rfl
        rw [e1']
        simp only [Option.bind_some]
        have fin : ∃ s', law8_MonitorMatchesSpec_j2 k last' = some (.inl s') ∧ (0 ≤ s'.2 ∧ s'.2 ≤ plan.length + 1 ∧ (c6 = 0 → (s'.1 = -1 ∧ ∀ k : Int, 0 ≤ k → k < s'.2 → ¬ works t s (plan.drop k.toNat)) ∨ (0 ≤ s'.1 ∧ s'.1 < s'.2 ∧ works t s (plan.drop s'.1.toNat) ∧ ∀ k : Int, s'.1 < k → k < s'.2 → ¬ works t s (plan.drop k.toNat)))) ∧ (plan.length + 1 - s'.2).toNat < (plan.length + 1 - k).toNat := by
          unfold law8_MonitorMatchesSpec_j2
          rw [hw]
          exact ⟨_, rfl, ⟨by dsimp only; omega, by dsimp only; omega, e2⟩, by dsimp only; omega⟩
        by_cases ci : c10 = 0 ∧ k = i
        · obtain ⟨c0, rfl⟩ := ci
          rw [if_pos (by simp [c0])]
          rw [forR_filter (l := (nd t (plan.drop k.toNat)).facts) (b := 8) (fun x => x ∉ s) (fun j a c' hj => by
            unfold law8_MonitorMatchesSpec_l3
            simp only [hj, Option.bind_some, has_eq, dec_not]
            refine ⟨fun hq => ?_, fun hq => ?_⟩
            · rw [ifP hq]; cases app 8 c' [a] <;> rfl
            · rw [ifN hq]; rfl) [] (by simp; omega)]
          simp only [Option.bind_some, List.nil_append]
          obtain ⟨rfl, rfl⟩ := hm c0 k0 ck
          rw [lost_eq true, if_neg (by simp)]
          simp only [Option.bind_some]
          rw [ifNN trivial]
          exact fin
        · rw [if_neg (by simpa using ci)]
          exact fin
      · right
        rw [if_neg ck]
        refine ⟨_, rfl, last, rfl, fun e => ?_⟩
        rcases hP e with ⟨q1, q2⟩ | ⟨q1, q2, q3, q4⟩
        · exact .inl ⟨q1, fun j g0 g1 => q2 j g0 (by omega)⟩
        · exact .inr ⟨q1, by omega, q3, fun j g0 g1 => q4 j g0 (by omega)⟩)
  exact ⟨last, h1, h2⟩

theorem MonitorMatchesSpec_true (t : TTask) (plan s : List Int) (i : Int) : law8_MonitorMatchesSpec t plan s i = some true := by
  unfold law8_MonitorMatchesSpec
  simp only [watched_true, Option.bind_some]
  obtain ⟨l, c, f, c1, c2, c3⟩ := conditions_eq t plan
  obtain ⟨pf, sf, r1, r2, r3, r4, r5⟩ := resume_eq t plan s
  obtain ⟨pf', sf', m1, m2, m3⟩ := missing_eq t plan s i
  rw [r1] at m1; cases m1
  rw [r2] at m2; cases m2
  rw [r1] at c2; cases c2
  rw [c1, r1, r2]
  simp only [Option.bind_some]
  have hif : ∀ x y : Int × Int, (if (sf.code = 0) then some x else some y) = some (if sf.code = 0 then x else y) := fun x y => by split <;> rfl
  rcases r4 with ⟨rfl, ht, hp⟩ | ⟨hpf, hnp⟩
  · -- the plan is valid
    obtain ⟨_, _, _, e1, e2, e3, e4⟩ := c3.resolve_right (fun h => h.1 rfl)
    have hpl := hp.1
    rcases r3 with ⟨rfl, _, hs⟩ | ⟨hsf, hns⟩
    · -- so is the state
      obtain ⟨_, _, _, _, _, m3⟩ := m3.resolve_right (fun h => absurd h.1 (by simp))
      obtain ⟨_, _, _, _, _, r5⟩ := r5.resolve_right (fun h => absurd h.1 (by simp))
      have hres : ∃ (n : Int) (ok : Bool), monitor_Resume t plan s = some (n, ok, ⟨0, 0⟩) ∧ ((ok = true ∧ 0 ≤ n ∧ n ≤ plan.length ∧ works t s (plan.drop n.toNat) ∧ ∀ k : Int, n < k → k ≤ plan.length → ¬ works t s (plan.drop k.toNat)) ∨ (ok = false ∧ n = 0 ∧ ∀ k : Int, 0 ≤ k → k ≤ plan.length → ¬ works t s (plan.drop k.toNat))) := by
        rcases r5 with ⟨n, g1, g2⟩ | ⟨g1, g2⟩
        · exact ⟨n, true, g1, .inl ⟨rfl, g2⟩⟩
        · exact ⟨0, false, g1, .inr ⟨rfl, rfl, g2⟩⟩
      obtain ⟨n, ok, q1, q2⟩ := hres
      have hmis : ∃ (m : List Int) (is : Bool) (h : TFault), monitor_Missing t plan s i = some (m, is, h) ∧ ((0 ≤ i ∧ i ≤ plan.length) ∧ h = ⟨0, 0⟩ ∧ m = (if (nd t (plan.drop i.toNat)).never = true then [] else setOf (fun x => x ∈ (nd t (plan.drop i.toNat)).facts ∧ x ∉ s) t.facts) ∧ is = (!(nd t (plan.drop i.toNat)).never) ∨ ¬ (0 ≤ i ∧ i ≤ plan.length) ∧ h = ⟨3, -8⟩ ∧ m = [] ∧ is = false) := by
        rcases m3 with ⟨i0, i1, g⟩ | ⟨hi, g⟩
        · exact ⟨_, _, _, g, .inl ⟨⟨i0, i1⟩, rfl, rfl, rfl⟩⟩
        · exact ⟨_, _, _, g, .inr ⟨hi, rfl, rfl, rfl⟩⟩
      obtain ⟨m, is, h, p1, p2⟩ := hmis
      rw [q1, p1]
      simp only [Option.bind_some, if_true, in_eq, at_eq, dec_not]
      rw [if_neg (by simp)]
      -- the fault of Missing
      have hc10 : (if dec (¬ (0 ≤ i ∧ i ≤ (plan.length : Int))) = true then some (3, -8) else some ((0 : Int), (0 : Int))) = some (h.code, h.index) := by
        rcases p2 with ⟨hi, rfl, _⟩ | ⟨hi, rfl, _⟩
        · rw [ifNN hi]
        · rw [ifP hi]
      rw [hc10]
      simp only [Option.bind_some]
      obtain ⟨last, l1, l2⟩ := specLoop (s := s) (i := i) (l := l) (c := c) (f := ⟨0, 0⟩) (h := h) (m := m) (is := is) (c6 := 0) (c10 := h.code) ht hp e3 e4 (fun h0 i0 i1 => by
        rcases p2 with ⟨_, _, g1, g2⟩ | ⟨hi, _⟩
        · exact ⟨g1, g2⟩
        · exact absurd ⟨i0, i1⟩ hi)
      rw [if_neg, if_neg, l1]
      · simp only [Option.bind_some]
        rcases l2 rfl with ⟨rfl, g⟩ | ⟨g0, g1, g2, g3⟩
        · rcases q2 with ⟨_, n0, n1, hw, _⟩ | ⟨rfl, rfl, _⟩
          · exact absurd hw (g n n0 n1)
          · simp
        · rcases q2 with ⟨rfl, n0, n1, hw, hmax⟩ | ⟨_, _, hno⟩
          · have : n = last := by
              rcases Int.lt_trichotomy n last with c | c | c
              · exact absurd g2 (hmax last c g1)
              · exact c
              · exact absurd hw (g3 n c n1)
            subst this
            simp [n0]
          · exact absurd g2 (hno last g0 g1)
      · rw [w64_of (by omega) (by omega)]; simp [e1, e2]
      · rcases p2 with ⟨hi, rfl, _⟩ | ⟨hi, rfl, rfl, rfl⟩
        · simp
        · simp
    · -- the state is not
      rcases m3 with ⟨rfl, _⟩ | ⟨_, m3⟩
      · exact absurd rfl hsf
      rcases r5 with ⟨rfl, _⟩ | ⟨_, r5⟩
      · exact absurd rfl hsf
      rw [r5, m3]
      simp only [Option.bind_some, hsf, if_false]
      rw [if_neg (by simp), if_neg (by simp)]
      simp only [if_true, Option.bind_some]
      obtain ⟨last, l1, _⟩ := specLoop (s := s) (i := i) (l := l) (c := c) (f := ⟨0, 0⟩) (h := sf) (m := []) (is := false) (c6 := sf.code) (c10 := sf.code) ht hp e3 e4 (fun h0 => absurd h0 hsf)
      rw [if_neg, if_neg, l1]
      · simp [hsf]
      · rw [w64_of (by omega) (by omega)]; simp [e1, e2]
      · simp
  · -- the plan is not valid
    rcases c3 with ⟨rfl, _⟩ | ⟨_, _, rfl, rfl⟩
    · exact absurd rfl hpf
    rcases m3 with ⟨_, rfl, _⟩ | ⟨_, m3⟩
    · exact absurd rfl hpf
    rcases r5 with ⟨_, rfl, _⟩ | ⟨_, r5⟩
    · exact absurd rfl hpf
    rw [r5, m3]
    simp only [Option.bind_some]
    rw [if_neg (by simp)]
    by_cases hsf : sf.code = 0
    · simp only [hsf, if_true, Option.bind_some, hpf, if_false]
      simp [hpf, w64_of]
    · simp only [hsf, if_false, Option.bind_some]
      simp [hpf, w64_of]
end Ab
