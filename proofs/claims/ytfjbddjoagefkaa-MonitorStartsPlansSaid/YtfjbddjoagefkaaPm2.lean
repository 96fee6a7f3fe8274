/-
  PLAIN LAWS of monitor: Conditions, Resume, Missing; the reference; the small example.
-/
import Derived.Test.YtfjbddjoagefkaaPm1
namespace Ab
open Go

theorem drop_mem {α : Type} {l : List α} {k : Nat} {x : α} (h : x ∈ l.drop k) : x ∈ l := List.mem_of_mem_drop h

theorem conditions_eq (t : TTask) (plan : List Int) : ∃ l c f, monitor_Conditions t plan = some (l, c, f) ∧ ref1_PlanFault t plan = some f ∧
    ((f = ⟨0, 0⟩ ∧ TaskOk t ∧ PlanOk t plan ∧ l.length = plan.length + 1 ∧ c.length = plan.length + 1 ∧ (∀ k : Int, 0 ≤ k → k ≤ plan.length → ix l k = some (nd t (plan.drop k.toNat)).facts) ∧ (∀ k : Int, 0 ≤ k → k ≤ plan.length → ix c k = some (!(nd t (plan.drop k.toNat)).never))) ∨
     (f.code ≠ 0 ∧ ¬ (TaskOk t ∧ PlanOk t plan) ∧ l = [] ∧ c = [])) := by
  obtain ⟨f, h1, h2, h3⟩ := planFault_eq t plan
  unfold monitor_Conditions
  rw [h1, h2]
  simp only [Option.bind_some]
  rcases h3 with ⟨rfl, ht, hp⟩ | ⟨hc, hn⟩
  · rw [if_neg (by simp)]
    obtain ⟨c, n1, n2, n3⟩ := needs_eq ht hp
    rw [n1]
    simp only [Option.bind_some]
    have hl := hp.1
    obtain ⟨s', g1, g2⟩ := forR_inv (body := monitor_Conditions_l1 c) (n := (c.length : Int)) (s := ([], [])) (fun j p => p = ((c.take j.toNat).map (·.facts), (c.take j.toNat).map fun n => !n.never)) (by omega) (by simp) (fun j p h0 h1 hP => by
      obtain ⟨a, ha, ga⟩ := ix_of (l := c) h0 h1
      have ht : c.take (j + 1).toNat = c.take j.toNat ++ [a] := by rw [show (j + 1).toNat = j.toNat + 1 by omega, List.take_add_one, ga]; rfl
      have hle : (c.take j.toNat).length ≤ 61 := by rw [List.length_take]; omega
      subst hP
      unfold monitor_Conditions_l1
      rw [ha]
      simp only [Option.bind_some]
      rw [app, if_pos (by simp at hle ⊢; omega)]
      simp only [Option.bind_some]
      rw [app, if_pos (by simp at hle ⊢; omega)]
      refine ⟨_, rfl, ?_⟩
      rw [ht]; simp)
    rw [g1, g2]
    rw [show ((c.length : Int)).toNat = c.length by omega, List.take_length]
    refine ⟨_, _, _, rfl, rfl, .inl ⟨rfl, ht, hp, by simp [n2], by simp [n2], fun k k0 k1 => ?_, fun k k0 k1 => ?_⟩⟩
    · have := n3 k k0 k1
      simp only [ix, k0, if_true] at this ⊢
      rw [List.getElem?_map, this]; rfl
    · have := n3 k k0 k1
      simp only [ix, k0, if_true] at this ⊢
      rw [List.getElem?_map, this]; rfl
  · rw [if_pos (fault_no hc)]
    exact ⟨_, _, _, rfl, rfl, .inr ⟨hc, hn, rfl, rfl⟩⟩

theorem check_eq (t : TTask) (plan s : List Int) : ∃ pf sf, ref1_PlanFault t plan = some pf ∧ ref1_StateFault t s = some sf ∧ monitor_check t plan s = some (if sf.code = 0 then pf else sf) ∧
    ((sf = ⟨0, 0⟩ ∧ TaskOk t ∧ SetN s t.facts) ∨ (sf.code ≠ 0 ∧ ¬ (TaskOk t ∧ SetN s t.facts))) ∧ ((pf = ⟨0, 0⟩ ∧ TaskOk t ∧ PlanOk t plan) ∨ (pf.code ≠ 0 ∧ ¬ (TaskOk t ∧ PlanOk t plan))) := by
  obtain ⟨sf, h1, h2, h3⟩ := stateFault_eq t s
  obtain ⟨pf, g1, g2, g3⟩ := planFault_eq t plan
  refine ⟨pf, sf, g2, h2, ?_, h3, g3⟩
  unfold monitor_check
  rw [h1]
  simp only [Option.bind_some]
  rcases h3 with ⟨rfl, ht, hs⟩ | ⟨hc, hn⟩
  · rw [if_neg (by simp), if_pos rfl]
    obtain ⟨v, v1, v2, v3⟩ := validate_eq t
    unfold strips_PlanFault at g1
    rw [v1] at g1
    rcases v3 with ⟨rfl, _⟩ | ⟨_, h⟩
    · simp only [Option.bind_some] at g1
      rw [if_neg (by simp)] at g1
      exact g1
    · exact absurd ht h
  · rw [if_pos (fault_no hc), if_neg hc]

theorem resume_eq (t : TTask) (plan s : List Int) : ∃ pf sf, ref1_PlanFault t plan = some pf ∧ ref1_StateFault t s = some sf ∧
    ((sf = ⟨0, 0⟩ ∧ TaskOk t ∧ SetN s t.facts) ∨ (sf.code ≠ 0 ∧ ¬ (TaskOk t ∧ SetN s t.facts))) ∧ ((pf = ⟨0, 0⟩ ∧ TaskOk t ∧ PlanOk t plan) ∨ (pf.code ≠ 0 ∧ ¬ (TaskOk t ∧ PlanOk t plan))) ∧
    ((sf = ⟨0, 0⟩ ∧ pf = ⟨0, 0⟩ ∧ TaskOk t ∧ SetN s t.facts ∧ PlanOk t plan ∧ ((∃ n : Int, monitor_Resume t plan s = some (n, true, ⟨0, 0⟩) ∧ 0 ≤ n ∧ n ≤ plan.length ∧ works t s (plan.drop n.toNat) ∧ ∀ k : Int, n < k → k ≤ plan.length → ¬ works t s (plan.drop k.toNat)) ∨
        (monitor_Resume t plan s = some (0, false, ⟨0, 0⟩) ∧ ∀ k : Int, 0 ≤ k → k ≤ plan.length → ¬ works t s (plan.drop k.toNat)))) ∨
     ((sf.code ≠ 0 ∨ pf.code ≠ 0) ∧ monitor_Resume t plan s = some (0, false, if sf.code = 0 then pf else sf))) := by
  obtain ⟨pf, sf, h1, h2, h3, h4, h5⟩ := check_eq t plan s
  refine ⟨pf, sf, h1, h2, h4, h5, ?_⟩
  unfold monitor_Resume
  rw [h3]
  simp only [Option.bind_some]
  rcases h4 with ⟨rfl, ht, hs⟩ | ⟨hc, _⟩
  · rcases h5 with ⟨rfl, _, hp⟩ | ⟨hc, _⟩
    · left
      refine ⟨rfl, rfl, ht, hs, hp, ?_⟩
      rw [if_neg (by simp)]
      obtain ⟨c, n1, n2, n3⟩ := needs_eq ht hp
      rw [n1]
      simp only [Option.bind_some]
      have hl := hp.1
      have hsl := hs.len
      have hn := ht.n1
      have wk : ∀ k : Int, works t s (plan.drop k.toNat) ↔ (nd t (plan.drop k.toNat)).never = false ∧ ∀ x ∈ (nd t (plan.drop k.toNat)).facts, x ∈ s := fun k => nd_works ht (fun x hx => hp.2 x (drop_mem hx)) hs
      obtain ⟨o, g1, g2⟩ := Loop_inv (body := monitor_Resume_l1 s c) (fun i => -1 ≤ i ∧ i ≤ plan.length ∧ ∀ k : Int, i < k → k ≤ plan.length → ¬ works t s (plan.drop k.toNat))
        (fun o => (o = .inl () ∧ ∀ k : Int, 0 ≤ k → k ≤ plan.length → ¬ works t s (plan.drop k.toNat)) ∨ ∃ n : Int, o = .inr (n, true, ⟨0, 0⟩) ∧ 0 ≤ n ∧ n ≤ plan.length ∧ works t s (plan.drop n.toNat) ∧ ∀ k : Int, n < k → k ≤ plan.length → ¬ works t s (plan.drop k.toNat))
        (fun i => (i + 1).toNat) (s := (plan.length : Int)) ⟨by omega, by omega, fun k h1 h2 => by omega⟩ (fun i ⟨i0, i1, i2⟩ => by
          unfold monitor_Resume_l1
          by_cases ci : 0 ≤ i
          · rw [if_pos ci, n3 i ci i1]
            have hf := nd_set t (plan.drop i.toNat)
            simp only [Option.bind_some]
            rw [contains_eq hs.1 hf.1 (by omega)]
            simp only [Option.bind_some]
            have e : (if (!(nd t (plan.drop i.toNat)).never) = true then some (dec (∀ x ∈ (nd t (plan.drop i.toNat)).facts, x ∈ s)) else some false) = some (dec (works t s (plan.drop i.toNat))) := by
              rw [dec_congr (wk i)]
              cases (nd t (plan.drop i.toNat)).never <;> simp [dec]
            rw [e]
            simp only [Option.bind_some]
            by_cases cw : works t s (plan.drop i.toNat)
            · rw [ifP cw]
              exact .inr ⟨_, rfl, .inr ⟨i, rfl, ci, i1, cw, i2⟩⟩
            · rw [ifN cw, w64_of (by omega) (by omega)]
              refine .inl ⟨_, rfl, ⟨by omega, by omega, fun k k0 k1 => ?_⟩, by omega⟩
              by_cases e : k = i
              · rw [e]; exact cw
              · exact i2 k (by omega) k1
          · rw [if_neg ci]
            exact .inr ⟨_, rfl, .inl ⟨rfl, fun k k0 k1 => i2 k (by omega) k1⟩⟩)
      rw [g1]
      rcases g2 with ⟨rfl, g⟩ | ⟨n, rfl, g⟩
      · exact .inr ⟨rfl, g⟩
      · exact .inl ⟨n, rfl, g⟩
    · right
      refine ⟨.inr hc, ?_⟩
      rw [if_pos (by simp [hc])]
  · right
    refine ⟨.inl hc, ?_⟩
    rw [if_pos (by simp [hc])]

theorem missing_eq (t : TTask) (plan s : List Int) (i : Int) : ∃ pf sf, ref1_PlanFault t plan = some pf ∧ ref1_StateFault t s = some sf ∧
    ((sf = ⟨0, 0⟩ ∧ pf = ⟨0, 0⟩ ∧ TaskOk t ∧ SetN s t.facts ∧ PlanOk t plan ∧ ((0 ≤ i ∧ i ≤ plan.length ∧ monitor_Missing t plan s i = some (if (nd t (plan.drop i.toNat)).never = true then [] else setOf (fun x => x ∈ (nd t (plan.drop i.toNat)).facts ∧ x ∉ s) t.facts, !(nd t (plan.drop i.toNat)).never, ⟨0, 0⟩)) ∨
        (¬ (0 ≤ i ∧ i ≤ plan.length) ∧ monitor_Missing t plan s i = some ([], false, ⟨3, -8⟩)))) ∨
     ((sf.code ≠ 0 ∨ pf.code ≠ 0) ∧ monitor_Missing t plan s i = some ([], false, if sf.code = 0 then pf else sf))) := by
  obtain ⟨pf, sf, h1, h2, h3, h4, h5⟩ := check_eq t plan s
  refine ⟨pf, sf, h1, h2, ?_⟩
  unfold monitor_Missing
  rw [h3]
  simp only [Option.bind_some]
  rcases h4 with ⟨rfl, ht, hs⟩ | ⟨hc, _⟩
  · rcases h5 with ⟨rfl, _, hp⟩ | ⟨hc, _⟩
    · left
      refine ⟨rfl, rfl, ht, hs, hp, ?_⟩
      rw [if_neg (by simp)]
      by_cases ci : 0 ≤ i ∧ i ≤ plan.length
      · left
        refine ⟨ci.1, ci.2, ?_⟩
        rw [if_neg (by simp; omega)]
        obtain ⟨c, n1, n2, n3⟩ := needs_eq ht hp
        rw [n1]
        simp only [Option.bind_some, n3 i ci.1 ci.2]
        have hn := ht.n1
        have hsl := hs.len
        rw [update_eq (n := t.facts) (by omega) hs.1 (by omega) (nd_set t _) (setN_nil _)]
        cases (nd t (plan.drop i.toNat)).never <;> simp
      · exact .inr ⟨ci, by rw [if_pos (by simp; omega)]⟩
    · right
      refine ⟨.inr hc, ?_⟩
      rw [if_pos (by simp [hc])]
  · right
    refine ⟨.inl hc, ?_⟩
    rw [if_pos (by simp [hc])]

/-! ### The reference -/
theorem full_eq {n : Int} (h0 : 0 ≤ n) (h1 : n ≤ 1000) : ref8_Full n = some (setOf (fun _ => True) n) := by
  unfold ref8_Full
  rw [if_pos (by omega), forR_setOf (b := 8) (fun _ => True) h0 (by omega) (fun j c _ _ => by
    unfold ref8_Full_l1
    refine ⟨fun _ => ?_, fun h => absurd trivial h⟩
    cases app 8 c [j] <;> rfl)]
  rfl
theorem without_eq {l : List Int} (hl : l.length ≤ 1000) (n : Int) : ref8_without l n = some (l.filter fun x => dec (x ≠ n)) := by
  unfold ref8_without
  rw [forR_filter (l := l) (b := 8) (fun x => x ≠ n) (fun j a c h => by
    unfold ref8_without_l1
    rw [h]
    simp only [Option.bind_some]
    refine ⟨fun hq => ?_, fun hq => ?_⟩
    · rw [if_neg hq]
      cases app 8 c [a] <;> rfl
    · rw [if_pos (Classical.not_not.1 hq)]; rfl) [] (by simp; omega)]
  rfl
theorem condition_eq {t : TTask} (ht : TaskOk t) {rest : List Int} (hp : ∀ x ∈ rest, 0 ≤ x ∧ x < t.operators.length) : ref8_Condition t rest = some ((nd t rest).facts, !(nd t rest).never) := by
  have h0 := ht.n0; have h1 := ht.n1
  have hf := nd_set t rest
  unfold ref8_Condition
  rw [full_eq h0 (by omega)]
  simp only [Option.bind_some, rWorks_eq ht hp, dec_not]
  have hw : works t (setOf (fun _ => True) t.facts) rest ↔ (nd t rest).never = false := by
    rw [nd_works ht hp (setN_setOf _ _)]
    exact ⟨fun h => h.1, fun h => ⟨h, fun x hx => mem_setOf.2 ⟨(hf.2 x hx).1, (hf.2 x hx).2, trivial⟩⟩⟩
  by_cases c : (nd t rest).never = true
  · rw [if_pos (dec_of (by rw [hw, c]; simp)), nd_never c, c]; rfl
  · have cf : (nd t rest).never = false := by simpa using c
    rw [ifNN (hw.2 cf), if_pos (by omega)]
    have hlen : (setOf (fun _ => True) t.facts).length ≤ 1000 := by have := (setN_setOf (fun _ => True) t.facts).len; omega
    rw [forR_setOf (b := 8) (fun x => x ∈ (nd t rest).facts) h0 (by omega) (fun j c' g0 g1 => by
      unfold ref8_Condition_l1
      rw [without_eq hlen]
      simp only [Option.bind_some, rWorks_eq ht hp, dec_not]
      have hs : SetN ((setOf (fun _ => True) t.facts).filter fun x => dec (x ≠ j)) t.facts := ⟨(inc_setOf _ _).filter _, fun x hx => (setN_setOf _ _).2 x (List.mem_filter.1 hx).1⟩
      have e : works t ((setOf (fun _ => True) t.facts).filter fun x => dec (x ≠ j)) rest ↔ j ∉ (nd t rest).facts := by
        rw [nd_works ht hp hs]
        constructor
        · rintro ⟨_, h⟩ hj
          have := h j hj
          rw [List.mem_filter, dec_true] at this
          exact this.2 rfl
        · intro h
          refine ⟨cf, fun x hx => ?_⟩
          rw [List.mem_filter, dec_true]
          exact ⟨mem_setOf.2 ⟨(hf.2 x hx).1, (hf.2 x hx).2, trivial⟩, fun e => h (e ▸ hx)⟩
      refine ⟨fun hq => ?_, fun hq => ?_⟩
      · rw [if_pos (dec_of (fun h => (e.1 h) hq))]
        cases app 8 c' [j] <;> rfl
      · rw [ifNN (e.2 hq)]; rfl)]
    simp only [Option.bind_some, cf, Bool.not_false]
    rw [← hf.eq]

theorem numbers_eq (a b : List Int) : equal_Numbers a b = some (dec (a = b)) := by
  unfold equal_Numbers
  by_cases hl : (a.length : Int) = b.length
  · rw [if_pos hl]
    rcases rngX_test (body := equal_Numbers_l1 a b) (n := (a.length : Int)) (fun j => if dec (ix a j = ix b j) = true then none else some false) (by omega) (fun j h0 h1 _ => by
      obtain ⟨x, hx, _⟩ := ix_of (l := a) h0 h1
      obtain ⟨y, hy, _⟩ := ix_of (l := b) (i := j) h0 (by omega)
      unfold equal_Numbers_l1
      rw [hx, hy]
      simp only [Option.bind_some]
      by_cases e : x = y
      · rw [if_pos e, ifP (by rw [e])]
      · rw [if_neg e, ifN (by simpa using e)]) with ⟨h1, h2⟩ | ⟨j, o, h0, h1, h2, _, h4⟩
    · rw [h1, dec_of]
      · rfl
      · refine List.ext_getElem? fun k => ?_
        by_cases hk : k < a.length
        · have := h2 k (by omega) (by omega)
          split at this
          · rename_i e
            have := dec_true.1 e
            rwa [ix_nat, ix_nat] at this
          · cases this
        · rw [List.getElem?_eq_none (by omega), List.getElem?_eq_none (by omega)]
    · rw [h4]
      split at h2
      · cases h2
      · rename_i e
        cases h2
        rw [dec_no (fun h => e (dec_of (by rw [h])))]; rfl
  · rw [if_neg hl, dec_no (fun h => hl (by rw [h]))]
end Ab
