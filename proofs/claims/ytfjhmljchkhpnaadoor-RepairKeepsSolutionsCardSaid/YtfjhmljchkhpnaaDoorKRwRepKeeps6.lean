/-
  Texts that the proof stands on.
-/
import Derived.Test.YtfjhmljchkhpnaaDoorKRwRepKeeps5
set_option linter.all false
section
namespace Ab
open Go
theorem bs_nil (t : TTask) (plan : List Int) : Bs t plan 0 [] [] [] :=
  have hnil : ∀ {α : Type} (i : Int), ix ([] : List α) i = none := fun i => by simp [ix]
  { node := fun i n h => by rw [hnil] at h; cases h
    m1 := fun i n h => by rw [hnil] at h; cases h
    m2 := fun s a v _ _ _ h => by cases h
    qs := fun b row h => by rw [hnil] at h; cases h
    qn := fun i n h => by rw [hnil] at h; cases h
    nd := by simp
    un := fun k hk => by cases hk
    vl := fun k hk => by cases hk
    ql := Nat.le_refl _
    rl := fun b row h => by rw [hnil] at h; cases h }
theorem pot_nil {U : Nat} (hU : univ.length = U) {c : Int} {m : Mp'} (hm : m.length = 0) (hl : late c m = 0) : pot c m = 2 * U := by
  unfold pot
  rw [hU, hm, hl, Nat.sub_zero, Nat.add_zero]
theorem first_add {t : TTask} (ht : TaskOk t) {plan : List Int} (hp : PlanOk t plan) : ∃ m ns q, repair_searcher_add_w2 (⟨t.init, 0, -1, -1, 0⟩ : Trepair_node) t plan ([] : List Trepair_node) ([] : List (List Int)) ([] : List (ByteArray × Int)) = some (m, ns, q) ∧ Rd t plan 0 m ns q ∧ Sat m t.init 0 0 := by
  obtain ⟨U, hU⟩ : ∃ U, univ.length = U := ⟨_, rfl⟩
  have hpot := pot_nil hU (c := 0) (m := []) rfl rfl
  have h0 : ([] : List Trepair_node).length + pot 0 ([] : Mp') ≤ 2 * univ.length := by
    rw [hpot, hU, List.length_nil, Nat.zero_add]
    exact Nat.le_refl _
  obtain ⟨m, ns, q, h1, h2, h3, h4⟩ := add_spec ht hp.1 (Int.le_refl 0) (bs_nil t plan) h0 (nv := ⟨t.init, 0, -1, -1, 0⟩) ⟨ht.init, Int.le_refl 0, Int.natCast_nonneg _, Int.le_refl 0⟩ (.inl rfl) (Int.le_refl 0)
    ⟨[], .root (by show (-1 : Int) < 0; decide), by show (-1 : Int) < 0; decide, by
      simp only
      rw [if_neg (by decide)]
      exact ⟨by simp, rfl, .nil⟩⟩
  have hN : ns.length + pot 0 m ≤ 2 * univ.length := by
    have := h3.nsl
    rw [hpot, List.length_nil, Nat.zero_add] at this
    rw [hU]; exact this
  clear h0 hpot hU
  refine ⟨m, ns, q, h1, ⟨h2, hN, ?_⟩, h4⟩
  obtain ⟨v, g1, g2⟩ := h4
  obtain ⟨i, n, k1, _, _, k4⟩ := h2.m2 _ _ _ ht.init (by decide) (Int.natCast_nonneg _) g1
  have := (h2.node i n k1).1.ch0
  obtain ⟨row, p, l1, _⟩ := h2.qn i n k1
  have h9 := (ix_lo l1).2.1
  have g3 : v ≤ 0 := g2
  clear hN
  omega
theorem plan_spec (t : TTask) (plan : List Int) : ∃ r e, repair_Plan t plan = some r ∧ ref1_PlanFault t plan = some e ∧
    ((e.code ≠ 0 ∧ ¬ (TaskOk t ∧ PlanOk t plan) ∧ r = ([], 0, false, e)) ∨
     (e = ⟨0, 0⟩ ∧ TaskOk t ∧ PlanOk t plan ∧ Many t ∧ r = ([], 0, false, ⟨10, -7⟩)) ∨
     (e = ⟨0, 0⟩ ∧ TaskOk t ∧ PlanOk t plan ∧ (∃ l : List (List Int), l.Nodup ∧ l.length ≤ 2000 ∧ ∀ s, s ∈ l ↔ Rt t s) ∧ ((r = ([], 0, false, ⟨0, 0⟩) ∧ ∀ st, (∀ x ∈ st, (0 : Int) ≤ x ∧ x < t.operators.length) → ¬ works t t.init st) ∨ Res t plan r))) := by
  obtain ⟨e, h1, h2, h3⟩ := planFault_eq t plan
  unfold repair_Plan
  rw [h1]
  simp only [Option.bind_some]
  rcases h3 with ⟨rfl, ht, hp⟩ | ⟨hc, hn⟩
  · rw [if_neg (by simp)]
    obtain ⟨b, b1, b2, b3⟩ := breadth_spec ht
    rw [belief_Next_w, b1]
    simp only [Option.bind_some]
    cases b with
    | false =>
      rw [if_pos (by rfl)]
      exact ⟨_, _, rfl, h2, .inr (.inl ⟨rfl, ht, hp, b2 rfl, rfl⟩)⟩
    | true =>
      rw [if_neg (by simp)]
      obtain ⟨m, ns, q, a1, a2, a3⟩ := first_add ht hp
      rw [a1]
      simp only [Option.bind_some]
      obtain ⟨o, o1, o2⟩ := plan_outer ht hp a2 a3
      rw [o1]
      rcases o2 with ⟨rfl, o2⟩ | ⟨x, rfl, o2⟩
      · exact ⟨_, _, rfl, h2, .inr (.inr ⟨rfl, ht, hp, b3 rfl, .inl ⟨rfl, o2⟩⟩)⟩
      · exact ⟨_, _, rfl, h2, .inr (.inr ⟨rfl, ht, hp, b3 rfl, .inr o2⟩)⟩
  · rw [if_pos (fault_no hc)]
    exact ⟨_, _, rfl, h2, .inl ⟨hc, hn, rfl⟩⟩
theorem dm_self (a : List Int) : dm a a = 0 := by have := dm_le (Ed.refl a); omega
theorem near_eq : repair_Plan stepT [1] = some ([1], 0, true, ⟨0, 0⟩) := by
  obtain ⟨r, e, h1, h2, h3⟩ := plan_spec stepT [1]
  have hp : PlanOk stepT [1] := ⟨by decide, by simp [stepT]⟩
  have hv : ∀ x ∈ ([1] : List Int), (0 : Int) ≤ x ∧ x < stepT.operators.length := by simp [stepT]
  have hw : works stepT stepT.init [1] := by
    refine ⟨aft stepT stepT.init 1, ?_, fun x hx => ?_⟩
    · simp only [ends]
      rw [if_pos (dec_of (show can stepT stepT.init 1 from fun x hx => by simp [opAt, stepT] at hx))]
    · refine mem_setOf.2 ⟨?_, ?_, .inl ?_⟩ <;> simp [stepT] at hx <;> subst hx <;> simp [stepT, opAt]
  rcases h3 with ⟨_, hn, _⟩ | ⟨_, _, _, ⟨l, l1, l2, l3⟩, _⟩ | ⟨_, _, _, _, ⟨_, h⟩ | ⟨st, d, hF, h⟩⟩
  · exact absurd ⟨step_ok, hp⟩ hn
  · have := nodup_len (S := allS 2 0) l1 (fun s hs => by
      have := (l3 s hs).setN step_ok
      exact mem_allS this.1 fun x hx => by have := this.2 x hx; simp only [stepT] at this; omega)
    rw [allS_len] at this
    omega
  · exact absurd hw (h _ hv)
  · have hd := hF.low [1] hv hw
    rw [dm_self] at hd
    have h0 := hF.d0
    have : d = 0 := by omega
    subst this
    have := hF.ed.eq rfl
    subst this
    rcases h with ⟨_, h⟩ | ⟨h, _⟩
    · rw [h1, h]
    · simp at h
theorem nearest_true : law8_nearest = some true := by
  unfold law8_nearest
  rw [show law8_step = some stepT from rfl, distance_eq (by decide) (by decide)]
  simp only [Option.bind_some, near_eq]
  rw [show dm [1, 2] [2, 3] = 2 by decide]
  simp [numbers_eq, dec]
/-- RepairKeepsSolutions, plainly. -/
theorem RepairKeepsSolutions_true (t : TTask) (plan : List Int) : law8_RepairKeepsSolutions t plan = some true := by
  unfold law8_RepairKeepsSolutions
  simp only [nearest_true, Option.bind_some]
  obtain ⟨r, e, h1, h2, h3⟩ := plan_spec t plan
  obtain ⟨b, f, g1, g2, g3⟩ := solves_eq t plan
  rw [h1, g1]
  simp only [Option.bind_some]
  by_cases hc : r.2.2.2.code = 0 ∧ f.code = 0 ∧ b = true
  · obtain ⟨c1, c2, rfl⟩ := hc
    rw [if_neg (by simp [c1, c2])]
    rcases g3 with ⟨rfl, ht, ho, hb⟩ | ⟨g, _⟩
    · have hw := dec_true.1 hb.symm
      rcases h3 with ⟨k, _, rfl⟩ | ⟨_, _, _, _, rfl⟩ | ⟨_, _, hp, _, ⟨rfl, k⟩ | ⟨st, d, hF, ⟨k1, rfl⟩ | ⟨k1, rfl⟩⟩⟩
      · exact absurd c1 k
      · simp at c1
      · exact absurd hw (k _ ho.2)
      · have hd := hF.low plan ho.2 hw
        rw [dm_self] at hd
        have h0 := hF.d0
        have : d = 0 := by omega
        subst this
        have := hF.ed.eq rfl
        subst this
        simp only [Option.bind_some]
        simp [numbers_eq, dec]
      · simp at c1
    · exact absurd c2 g
  · rw [if_pos]
    simp only [Bool.or_eq_true, Bool.not_eq_true', decide_eq_false_iff_not]
    cases b <;> simp_all <;> omega
end Ab
end
