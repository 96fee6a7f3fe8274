/-
  PLAIN LAWS of monitor: the conditions for the rest of a plan.
-/
import Derived.Test.YtfjbddjoagefkaaPs3
namespace Ab
open Go

/-- The condition for the rest of a plan. -/
noncomputable def nd (t : TTask) : List Int → Tmonitor_need
  | [] => ⟨setOf (· ∈ t.goal) t.facts, false⟩
  | op :: r => if dec ((nd t r).never = true ∨ ∃ x ∈ (nd t r).facts, x ∈ (opAt t op).del) = true then ⟨[], true⟩
    else ⟨setOf (fun x => (x ∈ (nd t r).facts ∧ x ∉ (opAt t op).add) ∨ x ∈ (opAt t op).pre) t.facts, false⟩
theorem nd_set (t : TTask) (r : List Int) : SetN (nd t r).facts t.facts := by
  cases r with
  | nil => exact setN_setOf _ _
  | cons op r =>
    simp only [nd]
    split
    · exact setN_nil _
    · exact setN_setOf _ _
theorem nd_never {t : TTask} {r : List Int} (h : (nd t r).never = true) : (nd t r).facts = [] := by
  cases r with
  | nil => simp [nd] at h
  | cons op r =>
    simp only [nd] at h ⊢
    split at h
    · rename_i c; rw [if_pos c]
    · cases h
/-- A condition is exact. -/
theorem nd_works {t : TTask} (ht : TaskOk t) : ∀ {rest s : List Int}, (∀ x ∈ rest, 0 ≤ x ∧ x < t.operators.length) → SetN s t.facts → (works t s rest ↔ (nd t rest).never = false ∧ ∀ x ∈ (nd t rest).facts, x ∈ s)
  | [], s, _, hs => by
    simp only [works, ends, nd, true_and, Option.some.injEq]
    constructor
    · rintro ⟨e, rfl, h⟩ x hx
      exact h x (mem_setOf.1 hx).2.2
    · intro h
      exact ⟨s, rfl, fun x hx => h x (mem_setOf.2 ⟨(ht.goal.2 x hx).1, (ht.goal.2 x hx).2, hx⟩)⟩
  | op :: r, s, hp, hs => by
    have hop := hp op (by simp)
    obtain ⟨⟨k1, k2, k3, k4⟩, _⟩ := ht.at hop.1 hop.2
    have ih := nd_works ht (rest := r) (s := aft t s op) (fun x hx => hp x (by simp [hx])) (setN_aft t s op)
    have e : works t s (op :: r) ↔ can t s op ∧ works t (aft t s op) r := by
      unfold works
      by_cases c : can t s op
      · rw [ends, ifP c]; simp only [c, true_and]
      · rw [ends, ifN c]; simp only [c, false_and, iff_false]
        rintro ⟨e, h, _⟩; cases h
    rw [e, ih]
    have hf := nd_set t r
    simp only [nd]
    by_cases c : (nd t r).never = true ∨ ∃ x ∈ (nd t r).facts, x ∈ (opAt t op).del
    · rw [ifP c]
      simp only [Bool.true_eq_false, false_and, iff_false]
      rintro ⟨_, h1, h2⟩
      rcases c with c | ⟨x, g1, g2⟩
      · rw [c] at h1; cases h1
      · have := (mem_setOf.1 (h2 x g1)).2.2
        rcases this with h | h
        · exact k4 x h g2
        · exact h.2 g2
    · rw [ifN c]
      have hn : (nd t r).never = false := by
        cases h : (nd t r).never with
        | false => rfl
        | true => exact absurd (.inl h) c
      simp only [hn, true_and]
      constructor
      · rintro ⟨h1, h2⟩ x hx
        obtain ⟨x0, x1, h | h⟩ := mem_setOf.1 hx
        · rcases (mem_setOf.1 (h2 x h.1)).2.2 with g | g
          · exact absurd g h.2
          · exact g.1
        · exact h1 x h
      · intro h
        refine ⟨fun x hx => h x (mem_setOf.2 ⟨(k1.2 x hx).1, (k1.2 x hx).2, .inr hx⟩), fun x hx => mem_setOf.2 ⟨(hf.2 x hx).1, (hf.2 x hx).2, ?_⟩⟩
        by_cases g : x ∈ (opAt t op).add
        · exact .inl g
        · exact .inr ⟨h x (mem_setOf.2 ⟨(hf.2 x hx).1, (hf.2 x hx).2, .inl ⟨hx, g⟩⟩), fun g2 => c (.inr ⟨x, hx, g2⟩)⟩

theorem needs_eq {t : TTask} {plan : List Int} (ht : TaskOk t) (hp : PlanOk t plan) : ∃ c, monitor_needs t plan = some c ∧ c.length = plan.length + 1 ∧ ∀ k : Int, 0 ≤ k → k ≤ plan.length → ix c k = some (nd t (plan.drop k.toNat)) := by
  have hl := hp.1
  have hn := ht.n1
  have hn0 := ht.n0
  unfold monitor_needs
  rw [w64_of (by omega) (by omega)]
  rw [show mkL 32 ((plan.length : Int) + 1) (⟨[], false⟩ : Tmonitor_need) = some (List.replicate (plan.length + 1) ⟨[], false⟩) by
    rw [mkL, if_pos (by omega)]
    rw [show ((plan.length : Int) + 1).toNat = plan.length + 1 by omega]]
  simp only [Option.bind_some]
  rw [union_eq (n := t.facts) (by omega) ht.goal (setN_nil _)]
  simp only [Option.bind_some]
  obtain ⟨a, ha, _⟩ := ix_of (l := List.replicate (plan.length + 1) (⟨[], false⟩ : Tmonitor_need)) (i := (plan.length : Int)) (by omega) (by simp; omega)
  rw [ha]
  simp only [Option.bind_some]
  have e0 : (⟨setOf (fun x => x ∈ t.goal ∨ x ∈ ([] : List Int)) t.facts, false⟩ : Tmonitor_need) = nd t (plan.drop plan.length) := by
    rw [List.drop_length]; simp [nd]
  rw [e0]
  obtain ⟨o, h1, h2, h3⟩ := Loop_inv (body := monitor_needs_l1 t plan) (fun p => -1 ≤ p.2 ∧ p.2 < plan.length ∧ p.1.length = plan.length + 1 ∧ (∀ k : Int, p.2 < k → k ≤ plan.length → ix p.1 k = some (nd t (plan.drop k.toNat))) ∧ ∀ k : Int, 0 ≤ k → k ≤ p.2 → ix p.1 k = some ⟨[], false⟩)
    (fun c => c.length = plan.length + 1 ∧ ∀ k : Int, 0 ≤ k → k ≤ plan.length → ix c k = some (nd t (plan.drop k.toNat))) (fun p => (p.2 + 1).toNat)
    (s := ((List.replicate (plan.length + 1) (⟨[], false⟩ : Tmonitor_need)).set ((plan.length : Int).toNat) (nd t (plan.drop plan.length)), (plan.length : Int) - 1))
    ⟨by dsimp only; omega, by dsimp only; omega, by simp, fun k k0 k1 => by
      dsimp only at k0 ⊢
      rw [ix_put (by omega) (by simp; omega) (by omega), if_pos (by omega), show k.toNat = plan.length by omega], fun k k0 k1 => by
      dsimp only at k1 ⊢
      rw [ix_put (by omega) (by simp; omega) (by omega), if_neg (by omega)]
      simp [ix, k0, List.getElem?_replicate]; omega⟩
    (fun ⟨c, i⟩ ⟨g1, g2, g3, g4, g5⟩ => by
      dsimp only at g1 g2 g3 g4 g5 ⊢
      unfold monitor_needs_l1
      dsimp only
      by_cases ci : 0 ≤ i
      · rw [if_pos ci]
        obtain ⟨op, hop, gop⟩ := ix_of (l := plan) (i := i) ci g2
        have hm := hp.2 op (ix_mem hop)
        obtain ⟨⟨k1, k2, k3, k4⟩, _⟩ := ht.at hm.1 hm.2
        have l3 := k3.len; have l2 := k2.len
        have hd : plan.drop i.toNat = op :: plan.drop (i + 1).toNat := by
          obtain ⟨hlt, rfl⟩ := List.getElem?_eq_some_iff.1 gop
          rw [show (i + 1).toNat = i.toNat + 1 by omega]
          exact List.drop_eq_getElem_cons hlt
        have hlater := g4 (i + 1) (by omega) (by omega)
        rw [hop, w64_of (n := i + 1) (by omega) (by omega)]
        simp only [Option.bind_some, ix_op hm.1 hm.2, hlater]
        have hf := nd_set t (plan.drop (i + 1).toNat)
        rw [meets_eq k3.1 (by omega)]
        simp only [Option.bind_some]
        have hc : (if (nd t (plan.drop (i + 1).toNat)).never = true then some true else some (dec (∃ x ∈ (nd t (plan.drop (i + 1).toNat)).facts, x ∈ (opAt t op).del))) = some (dec ((nd t (plan.drop (i + 1).toNat)).never = true ∨ ∃ x ∈ (nd t (plan.drop (i + 1).toNat)).facts, x ∈ (opAt t op).del)) := by
          by_cases c1 : (nd t (plan.drop (i + 1).toNat)).never = true
          · rw [if_pos c1, dec_of (.inl c1)]
          · rw [if_neg c1]
            exact congrArg some (dec_congr ⟨.inr, fun h => h.resolve_left c1⟩)
        rw [hc]
        simp only [Option.bind_some, g5 i ci (Int.le_refl _)]
        have hu : strips_Update (nd t (plan.drop (i + 1).toNat)).facts [] (opAt t op).add = some (setOf (fun x => x ∈ (nd t (plan.drop (i + 1).toNat)).facts ∧ x ∉ (opAt t op).add) t.facts) := by
          rw [update_eq (n := t.facts) (by omega) k2.1 (by omega) hf (setN_nil _)]
          simp
        have hu2 : strips_Union (setOf (fun x => x ∈ (nd t (plan.drop (i + 1).toNat)).facts ∧ x ∉ (opAt t op).add) t.facts) (opAt t op).pre = some (setOf (fun x => (x ∈ (nd t (plan.drop (i + 1).toNat)).facts ∧ x ∉ (opAt t op).add) ∨ x ∈ (opAt t op).pre) t.facts) := by
          rw [union_eq (n := t.facts) (by omega) (setN_setOf _ _) k1]
          exact congrArg some (setOf_congr fun x x0 x1 => by rw [mem_setOf]; simp [x0, x1])
        rw [hu]
        simp only [Option.bind_some, hu2]
        have fin : ∀ v : Tmonitor_need, v = nd t (plan.drop i.toNat) → -1 ≤ w64 (i - 1) ∧ w64 (i - 1) < plan.length ∧ (c.set i.toNat v).length = plan.length + 1 ∧ (∀ k : Int, w64 (i - 1) < k → k ≤ plan.length → ix (c.set i.toNat v) k = some (nd t (plan.drop k.toNat))) ∧ ∀ k : Int, 0 ≤ k → k ≤ w64 (i - 1) → ix (c.set i.toNat v) k = some ⟨[], false⟩ := fun v hv => by
          rw [w64_of (n := i - 1) (by omega) (by omega)]
          refine ⟨by omega, by omega, by simp [g3], fun k k0 k1 => ?_, fun k k0 k1 => ?_⟩
          · rw [ix_put ci (by omega) (by omega)]
            by_cases e : k = i
            · rw [if_pos e, hv, e]
            · rw [if_neg e]; exact g4 k (by omega) k1
          · rw [ix_put ci (by omega) (by omega), if_neg (by omega)]
            exact g5 k k0 (by omega)
        have hw : w64 (i - 1) = i - 1 := w64_of (by omega) (by omega)
        by_cases cc : (nd t (plan.drop (i + 1).toNat)).never = true ∨ ∃ x ∈ (nd t (plan.drop (i + 1).toNat)).facts, x ∈ (opAt t op).del
        · rw [ifP cc]
          refine .inl ⟨_, rfl, fin _ ?_, by dsimp only; omega⟩
          rw [hd, nd, ifP cc]
        · rw [ifN cc]
          refine .inl ⟨_, rfl, fin _ ?_, by dsimp only; omega⟩
          rw [hd, nd, ifN cc]
      · rw [if_neg ci]
        exact .inr ⟨c, rfl, g3, fun k k0 k1 => g4 k (by omega) k1⟩)
  rw [h1]
  exact ⟨o, rfl, h2, h3⟩
end Ab
