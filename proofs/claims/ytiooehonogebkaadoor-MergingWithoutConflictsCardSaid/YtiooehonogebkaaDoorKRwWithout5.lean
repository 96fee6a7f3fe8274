/-
  Texts that the proof stands on.
-/
import Derived.Test.YtiooehonogebkaaDoorKRwWithout4
set_option linter.all false
section
namespace Ab
open Go
structure PartiesOk (t : TTask) (goals plans : List (List Int)) : Prop where
  task : TaskOk t
  n1 : 1 ≤ plans.length
  n4 : plans.length ≤ 4
  len : goals.length = plans.length
  goal : ∀ g ∈ goals, SetN g t.facts
  six : ∀ p ∈ plans, p.length ≤ 6
  op : ∀ p ∈ plans, ∀ x ∈ p, 0 ≤ x ∧ x < t.operators.length
theorem parties_eq (t : TTask) (goals plans : List (List Int)) : ∃ f, merging_check t goals plans = some f ∧ ref8_PartiesFault t goals plans = some f ∧ ((f = ⟨0, 0⟩ ∧ PartiesOk t goals plans) ∨ (f.code ≠ 0 ∧ ¬ PartiesOk t goals plans)) := by
  obtain ⟨f, h1, h2, h3⟩ := validate_eq t
  unfold merging_check ref8_PartiesFault
  rw [h1, h2]
  simp only [Option.bind_some]
  rcases h3 with ⟨rfl, ht⟩ | ⟨hc, ht⟩
  · rw [if_neg (by simp), if_pos rfl, in_eq]
    simp only [Option.bind_some, dec_not, at_eq]
    by_cases c1 : 1 ≤ (plans.length : Int) ∧ (plans.length : Int) ≤ 4
    · rw [if_neg (by rw [Bool.or_eq_true, decide_eq_true_eq, decide_eq_true_eq]; omega), ifNN c1]
      by_cases c2 : (goals.length : Int) = plans.length
      · rw [if_pos c2, if_pos c2]
        have b1 : ∀ j : Int, 0 ≤ j → j < goals.length → ∃ g, ix goals j = some g ∧ merging_check_l1 t goals j () = some (if dec (SetN g t.facts) = true then .inl () else .inr ⟨5, w64 (-10 - j)⟩) ∧ ref8_PartiesFault_l1 t goals j () = some (if dec (SetN g t.facts) = true then .inl () else .inr ⟨5, w64 (-10 - j)⟩) := fun j h0 h1 => by
          obtain ⟨g, hg, _⟩ := ix_of (l := goals) h0 h1
          refine ⟨g, hg, ?_, ?_⟩
          · unfold merging_check_l1
            rw [hg]
            simp only [Option.bind_some, isSet_eq, dec_not]
            by_cases e : SetN g t.facts
            · rw [ifNN e, ifP e]
            · rw [ifP e, ifN e]
          · unfold ref8_PartiesFault_l1
            rw [hg]
            have := ht.n0; have := ht.n1
            simp only [Option.bind_some, rIsSet_eq g (n := t.facts) (by omega) (by omega), dec_not, at_eq]
            by_cases e : SetN g t.facts
            · rw [ifNN e, ifP e]
            · rw [ifP e, ifN e]
        have e1 : rngX 0 (goals.length : Int) (merging_check_l1 t goals) () = rngX 0 (goals.length : Int) (ref8_PartiesFault_l1 t goals) () :=
          (rngX_eq (fun _ _ => True) (by omega) trivial (fun j s h0 h1 _ => by
            obtain ⟨o, _, e1, e2⟩ := b1 j h0 h1
            exact ⟨by rw [e1, e2], by rw [e1]; simp, fun _ _ => trivial⟩)).1
        rw [e1]
        have rng : ∀ a : Int, ((decide (a < 0)) || (decide ((t.operators.length : Int) ≤ a))) = true ↔ ¬ (0 ≤ a ∧ a < t.operators.length) := fun a => by simp; omega
        have b2 : ∀ j : Int, 0 ≤ j → j < plans.length → ∃ p, ix plans j = some p ∧ ∃ r : Unit ⊕ TFault, merging_check_l2 t plans j () = some r ∧ ref8_PartiesFault_l2 t plans j () = some r ∧ (r = .inl () ∨ ∃ f : TFault, r = .inr f ∧ f.code ≠ 0) ∧ (r = .inl () ↔ (p.length ≤ 6 ∧ ∀ x ∈ p, 0 ≤ x ∧ x < t.operators.length)) := fun j h0 h1 => by
          obtain ⟨p, hp, _⟩ := ix_of (l := plans) h0 h1
          refine ⟨p, hp, ?_⟩
          unfold merging_check_l2 ref8_PartiesFault_l2
          rw [hp]
          simp only [Option.bind_some]
          by_cases c3 : 6 < (p.length : Int)
          · rw [if_pos c3, if_pos c3]
            exact ⟨.inr ⟨2, w64 (-20 - j)⟩, rfl, rfl, .inr ⟨_, rfl, by simp⟩, ⟨fun h => by simp at h, fun h => by omega⟩⟩
          · rw [if_neg c3, if_neg c3]
            obtain ⟨q, q2, q3⟩ := rSteps_eq (n := (t.operators.length : Int)) (by omega) (by have := ht.ops; omega) p
            rw [q2, rng_list (l := p) (fun x => 0 ≤ x ∧ x < t.operators.length) (⟨3, w64 (-20 - j)⟩ : TFault) (fun i a hi => by
              unfold merging_check_l3
              rw [hi]
              simp only [Option.bind_some]
              by_cases g : 0 ≤ a ∧ a < t.operators.length
              · rw [if_neg (by rw [rng]; exact fun h => h g)]; exact .inl ⟨g, rfl⟩
              · rw [if_pos ((rng a).2 g)]; exact .inr ⟨g, rfl⟩)]
            simp only [Option.bind_some, at_eq]
            by_cases g : ∀ x ∈ p, 0 ≤ x ∧ x < t.operators.length
            · rw [ifP g]
              rcases q3 with ⟨rfl, _⟩ | ⟨_, k⟩
              · rw [if_pos rfl]
                exact ⟨.inl (), rfl, rfl, .inl rfl, ⟨fun _ => ⟨by omega, g⟩, fun _ => rfl⟩⟩
              · exact absurd ⟨by omega, g⟩ k
            · rw [ifN g]
              rcases q3 with ⟨_, k⟩ | ⟨k, _⟩
              · exact absurd k.2 g
              · rw [if_neg k]
                exact ⟨.inr ⟨3, w64 (-20 - j)⟩, rfl, rfl, .inr ⟨_, rfl, by simp⟩, ⟨fun h => by simp at h, fun h => absurd h.2 g⟩⟩
        have e2 : rngX 0 (plans.length : Int) (merging_check_l2 t plans) () = rngX 0 (plans.length : Int) (ref8_PartiesFault_l2 t plans) () :=
          (rngX_eq (fun _ _ => True) (by omega) trivial (fun j s h0 h1 _ => by
            obtain ⟨o, _, r, e1, e2, _⟩ := b2 j h0 h1
            exact ⟨by rw [e1, e2], by rw [e1]; simp, fun _ _ => trivial⟩)).1
        rw [e2]
        rcases rngX_inv (body := ref8_PartiesFault_l1 t goals) (n := (goals.length : Int)) (fun j _ => ∀ i g, 0 ≤ i → i < j → ix goals i = some g → SetN g t.facts) (fun o => o.code ≠ 0 ∧ ¬ PartiesOk t goals plans) (s := ()) (by omega) (fun i g h0 h1 => by omega) (fun j s h0 h1 hP => by
          obtain ⟨g, hg, _, e2⟩ := b1 j h0 h1
          rw [e2]
          by_cases e : SetN g t.facts
          · rw [ifP e]
            refine .inl ⟨(), rfl, fun i g' g0 g1 hi => ?_⟩
            by_cases e' : i = j
            · subst e'; rw [hg] at hi; cases hi; exact e
            · exact hP i g' g0 (by omega) hi
          · rw [ifN e]
            exact .inr ⟨_, rfl, by simp, fun h => e (h.goal g (ix_mem hg))⟩) with ⟨u, r1, r2⟩ | ⟨o, r1, r2, r3⟩
        · rw [r1]
          simp only [Option.bind_some]
          rcases rngX_inv (body := ref8_PartiesFault_l2 t plans) (n := (plans.length : Int)) (fun j _ => ∀ i p, 0 ≤ i → i < j → ix plans i = some p → p.length ≤ 6 ∧ ∀ x ∈ p, 0 ≤ x ∧ x < t.operators.length) (fun o => o.code ≠ 0 ∧ ¬ PartiesOk t goals plans) (s := ()) (by omega) (fun i g h0 h1 => by omega) (fun j s h0 h1 hP => by
            obtain ⟨p, hp, r, _, e2, e3, e4⟩ := b2 j h0 h1
            rw [e2]
            rcases e3 with rfl | ⟨f, rfl, hf⟩
            · refine .inl ⟨(), rfl, fun i p' g0 g1 hi => ?_⟩
              by_cases e' : i = j
              · subst e'; rw [hp] at hi; cases hi; exact e4.1 rfl
              · exact hP i p' g0 (by omega) hi
            · exact .inr ⟨_, rfl, hf, fun h => by have := e4.2 ⟨h.six p (ix_mem hp), h.op p (ix_mem hp)⟩; cases this⟩) with ⟨v, s1, s2⟩ | ⟨o, s1, s2, s3⟩
          · rw [s1]
            refine ⟨_, rfl, rfl, .inl ⟨rfl, ht, by omega, by omega, by omega, fun g hg => ?_, fun p hp => ?_, fun p hp => ?_⟩⟩
            · obtain ⟨i, i0, i1, hi⟩ := mem_ix hg; exact r2 i g i0 i1 hi
            · obtain ⟨i, i0, i1, hi⟩ := mem_ix hp; exact (s2 i p i0 i1 hi).1
            · obtain ⟨i, i0, i1, hi⟩ := mem_ix hp; exact (s2 i p i0 i1 hi).2
          · rw [s1]
            exact ⟨_, rfl, rfl, .inr ⟨s2, s3⟩⟩
        · rw [r1]
          exact ⟨_, rfl, rfl, .inr ⟨r2, r3⟩⟩
      · rw [if_neg c2, if_neg c2]
        exact ⟨_, rfl, rfl, .inr ⟨by simp, fun h => c2 (by rw [h.len])⟩⟩
    · rw [if_pos (by rw [Bool.or_eq_true, decide_eq_true_eq, decide_eq_true_eq]; omega), ifP c1]
      exact ⟨_, rfl, rfl, .inr ⟨by simp, fun h => c1 ⟨by have := h.n1; omega, by have := h.n4; omega⟩⟩⟩
  · rw [if_pos (fault_no hc), if_neg hc]
    exact ⟨f, rfl, rfl, .inr ⟨hc, fun h => ht h.task⟩⟩
/-- The goals of all parties. -/
noncomputable def allGoals (t : TTask) (goals : List (List Int)) : List Int := setOf (fun x => ∃ g ∈ goals, x ∈ g) t.facts
theorem union_all {t : TTask} {goals : List (List Int)} (hn : t.facts ≤ 24) (hg : ∀ g ∈ goals, SetN g t.facts) : merging_union goals = some (allGoals t goals) := by
  unfold merging_union
  obtain ⟨s', h1, h2⟩ := forR_inv (body := merging_union_l1 goals) (n := (goals.length : Int)) (s := []) (fun j c => c = setOf (fun x => ∃ i g, 0 ≤ i ∧ i < j ∧ ix goals i = some g ∧ x ∈ g) t.facts) (by omega) (by
    refine (setN_nil t.facts).eq_of fun x _ _ => ⟨fun h => (by cases h), ?_⟩
    rintro ⟨i, g, h0, h1, _⟩; omega) (fun j c h0 h1 hP => by
    obtain ⟨g, hj, _⟩ := ix_of (l := goals) h0 h1
    unfold merging_union_l1
    rw [hj]
    simp only [Option.bind_some]
    rw [hP, union_eq (n := t.facts) (by omega) (setN_setOf _ _) (hg g (ix_mem hj))]
    refine ⟨_, rfl, setOf_congr fun x x0 x1 => ?_⟩
    rw [mem_setOf]
    constructor
    · rintro (⟨_, _, i, g', i0, i1, hi, hx⟩ | hx)
      · exact ⟨i, g', i0, by omega, hi, hx⟩
      · exact ⟨j, g, h0, by omega, hj, hx⟩
    · rintro ⟨i, g', i0, i1, hi, hx⟩
      by_cases e : i = j
      · subst e; rw [hj] at hi; cases hi; exact .inr hx
      · exact .inl ⟨x0, x1, i, g', i0, by omega, hi, hx⟩)
  rw [h1, h2]
  simp only [Option.bind_some]
  refine congrArg some (setOf_congr fun x _ _ => ⟨fun ⟨i, g, _, _, hi, hx⟩ => ⟨g, ix_mem hi, hx⟩, fun ⟨g, hm, hx⟩ => ?_⟩)
  obtain ⟨i, i0, i1, hi⟩ := mem_ix hm
  exact ⟨i, g, i0, i1, hi, hx⟩
theorem mkL_eq {α : Type} {b : Nat} {n : Nat} {z : α} (h : b * n ≤ 281474976710656) (hn : n ≤ 9223372036854775807) : mkL b (n : Int) z = some (List.replicate n z) := by
  rw [mkL, if_pos ⟨by omega, by omega, by omega⟩]; simp
theorem ix_replicate {α : Type} {n : Nat} {z a : α} {i : Int} (h : ix (List.replicate n z) i = some a) : a = z := List.eq_of_mem_replicate (ix_mem h)
theorem atOk_zero (plans : List (List Int)) : AtOk plans (List.replicate plans.length 0) := ⟨by simp, fun p l a _ h => by rw [ix_replicate h]; omega⟩
/-- Turns that perform all plans and reach all goals. -/
noncomputable def goodT (t : TTask) (goals plans : List (List Int)) (l : List Int) : Prop := good t plans (allGoals t goals) t.init (List.replicate plans.length 0) l
theorem good_rng {t : TTask} {plans : List (List Int)} {gs : List Int} : ∀ {l s at_ : List Int}, good t plans gs s at_ l → ∀ p ∈ l, 0 ≤ p ∧ p < plans.length
  | [], _, _, _, p, hp => by cases hp
  | q :: l, s, at_, h, p, hp => by
    obtain ⟨op, h1, _, h3⟩ := h
    obtain ⟨m, a, g1, _, _⟩ := nxt_some h1
    rcases List.mem_cons.1 hp with rfl | hp
    · exact ⟨(ix_lo g1).1, (ix_lo g1).2.1⟩
    · exact good_rng h3 p hp
theorem drop_ix {α : Type} {l : List α} {j : Int} {a : α} (h : ix l j = some a) : l.drop j.toNat = a :: l.drop (j + 1).toNat := by
  obtain ⟨h0, h1, h2⟩ := ix_lo h
  obtain ⟨hlt, rfl⟩ := List.getElem?_eq_some_iff.1 h2
  rw [show (j + 1).toNat = j.toNat + 1 by omega]
  exact List.drop_eq_getElem_cons hlt
theorem mCheck_eq (t : TTask) (goals plans : List (List Int)) (turns : List Int) : ∃ b f, merging_Check t goals plans turns = some (b, f) ∧
    ((f = ⟨0, 0⟩ ∧ PartiesOk t goals plans ∧ turns.length ≤ 60 ∧ (∀ p ∈ turns, 0 ≤ p ∧ p < plans.length) ∧ b = dec (goodT t goals plans turns)) ∨
     (b = false ∧ f.code ≠ 0 ∧ ((ref8_PartiesFault t goals plans = some f) ∨ (PartiesOk t goals plans ∧ ((60 < turns.length ∧ f = ⟨2, -5⟩) ∨ (turns.length ≤ 60 ∧ (¬ ∀ p ∈ turns, 0 ≤ p ∧ p < plans.length) ∧ f = ⟨3, -6⟩)))))) := by
  obtain ⟨f, h1, h2, h3⟩ := parties_eq t goals plans
  unfold merging_Check
  rw [h1]
  simp only [Option.bind_some]
  rcases h3 with ⟨rfl, hp⟩ | ⟨hc, hn⟩
  · rw [if_neg (by simp)]
    by_cases c1 : 60 < (turns.length : Int)
    · rw [if_pos c1]
      exact ⟨_, _, rfl, .inr ⟨rfl, by simp, .inr ⟨hp, .inl ⟨by omega, rfl⟩⟩⟩⟩
    · rw [if_neg c1]
      have ht := hp.task
      have hn := ht.n1
      have h4 := hp.n4
      rw [rng_list (l := turns) (fun x => 0 ≤ x ∧ x < plans.length) (false, (⟨3, -6⟩ : TFault)) (fun i a hi => by
        unfold merging_Check_l1
        rw [hi]
        simp only [Option.bind_some]
        by_cases g : 0 ≤ a ∧ a < plans.length
        · rw [if_neg (by simp; omega)]; exact .inl ⟨g, rfl⟩
        · rw [if_pos (by simp; omega)]; exact .inr ⟨g, rfl⟩)]
      simp only [Option.bind_some]
      by_cases c2 : ∀ p ∈ turns, 0 ≤ p ∧ p < plans.length
      · rw [ifP c2]
        simp only []
        rw [mkL_eq (by omega) (by omega)]
        simp only [Option.bind_some]
        have key := rngX_inv (body := merging_Check_l2 t plans turns) (n := (turns.length : Int)) (s := (List.replicate plans.length 0, t.init))
          (fun j p => AtOk plans p.1 ∧ SetN p.2 t.facts ∧ (goodT t goals plans turns ↔ good t plans (allGoals t goals) p.2 p.1 (turns.drop j.toNat)))
          (fun o => o = (false, ⟨0, 0⟩) ∧ ¬ goodT t goals plans turns) (by omega) ⟨atOk_zero _, ht.init, by simp [goodT]⟩ (fun j ⟨c9, s⟩ j0 j1 ⟨k1, k2, k3⟩ => by
          dsimp only at k1 k2 k3 ⊢
          obtain ⟨p, hj, _⟩ := ix_of (l := turns) j0 j1
          obtain ⟨p0, p1⟩ := c2 p (ix_mem hj)
          obtain ⟨l, hl, _⟩ := ix_of (l := plans) p0 p1
          obtain ⟨a, ha, a0, a1⟩ := k1.get hl
          have hd := drop_ix hj
          rw [hd] at k3
          unfold merging_Check_l2
          simp only [hj, Option.bind_some, ha, hl]
          by_cases c3 : a = (l.length : Int)
          · rw [if_pos c3]
            simp only [Option.bind_some, if_true]
            refine .inr ⟨_, rfl, rfl, fun h => ?_⟩
            obtain ⟨op, g1, _⟩ := k3.1 h
            obtain ⟨l', a', e1, e2, e3⟩ := nxt_some g1
            rw [hl] at e1; cases e1
            rw [ha] at e2; cases e2
            have := (ix_lo e3).2.1
            omega
          · rw [if_neg c3]
            obtain ⟨op, hop, _⟩ := ix_of (l := l) a0 (by omega)
            obtain ⟨o0, o1⟩ := hp.op l (ix_mem hl) op (ix_mem hop)
            have hnx := nxt_of hl ha hop
            simp only [Option.bind_some, hop, can_eq ht o0 o1 k2, dec_not]
            by_cases c4 : can t s op
            · rw [ifNN c4, next_eq ht o0 o1 k2]
              simp only [Option.bind_some]
              have hl6 := hp.six l (ix_mem hl)
              rw [w64_of (by omega) (by omega), ← bump_eq ha]
              refine .inl ⟨_, rfl, k1.bump hnx, setN_aft _ _ _, k3.trans ⟨?_, fun h => ⟨op, hnx, c4, h⟩⟩⟩
              rintro ⟨op', g1, g2, g3⟩
              rw [hnx] at g1; cases g1
              exact g3
            · rw [ifP c4]
              refine .inr ⟨_, rfl, rfl, fun h => ?_⟩
              obtain ⟨op', g1, g2, g3⟩ := k3.1 h
              rw [hnx] at g1; cases g1
              exact c4 g2)
        rcases key with ⟨⟨c9, s⟩, r1, r2, r3, r4⟩ | ⟨o, r1, rfl, r2⟩
        · dsimp only at r2 r3 r4
          rw [r1]
          simp only [Option.bind_some]
          have e0 : turns.drop (turns.length : Int).toNat = [] := by simp
          rw [e0] at r4
          have hlen : (plans.length : Int) = c9.length := by rw [r2.len]
          have key := rngX_test (body := merging_Check_l3 plans c9) (n := (plans.length : Int)) (fun j => match ix plans j, ix c9 j with | some l, some a => if dec (a = (l.length : Int)) = true then none else some (false, (⟨0, 0⟩ : TFault)) | _, _ => none) (by omega) (fun j j0 j1 _ => by
            obtain ⟨l, hl, _⟩ := ix_of (l := plans) j0 j1
            obtain ⟨a, ha, a0, a1⟩ := r2.get hl
            unfold merging_Check_l3
            simp only [hl, ha, Option.bind_some]
            by_cases e : a = (l.length : Int)
            · rw [if_neg (by omega), ifP e]
            · rw [if_pos (by omega), ifN e])
          have hall : (∀ j, 0 ≤ j → j < (plans.length : Int) → (match ix plans j, ix c9 j with | some l, some a => if dec (a = (l.length : Int)) = true then none else some (false, (⟨0, 0⟩ : TFault)) | _, _ => none) = none) ↔ allDone plans c9 := by
            constructor
            · intro h p l a hl ha
              have := h p (ix_lo hl).1 (ix_lo hl).2.1
              simp only [hl, ha] at this
              split at this
              · exact dec_true.1 ‹_›
              · cases this
            · intro h j j0 j1
              obtain ⟨l, hl, _⟩ := ix_of (l := plans) j0 j1
              obtain ⟨a, ha, _⟩ := r2.get hl
              simp only [hl, ha]
              rw [ifP (h j l a hl ha)]
          rcases key with ⟨s1, s2⟩ | ⟨j, o, j0, j1, s2, _, s3⟩
          · rw [s1]
            simp only [Option.bind_some]
            rw [union_all hn hp.goal]
            simp only [Option.bind_some]
            have := r3.len
            rw [contains_eq (part := allGoals t goals) r3.1 (inc_setOf _ _) (by omega)]
            refine ⟨_, _, rfl, .inl ⟨rfl, hp, by omega, c2, dec_congr ?_⟩⟩
            rw [r4]
            exact ⟨fun h => ⟨hall.1 s2, h⟩, fun h => h.2⟩
          · rw [s3]
            have hnd : ¬ allDone plans c9 := fun h => by have := hall.2 h j j0 j1; rw [this] at s2; cases s2
            obtain ⟨l, hl, _⟩ := ix_of (l := plans) j0 j1
            obtain ⟨a, ha, _⟩ := r2.get hl
            simp only [hl, ha] at s2
            split at s2
            · cases s2
            · cases s2
              exact ⟨_, _, rfl, .inl ⟨rfl, hp, by omega, c2, (dec_no fun h => hnd (r4.1 h).1).symm⟩⟩
        · rw [r1]
          exact ⟨_, _, rfl, .inl ⟨rfl, hp, by omega, c2, (dec_no r2).symm⟩⟩
      · rw [ifN c2]
        exact ⟨_, _, rfl, .inr ⟨rfl, by simp, .inr ⟨hp, .inr ⟨by omega, c2, rfl⟩⟩⟩⟩
  · rw [if_pos (fault_no hc)]
    exact ⟨_, _, rfl, .inr ⟨rfl, hc, .inl h2⟩⟩
end Ab
end
section
namespace Ab
open Go
/-- Where x has a value, y has the same one. -/
def Lt {α : Type} (x y : Option α) : Prop := ∀ r, x = some r → y = some r
theorem Lt.rfl' {α : Type} {x : Option α} : Lt x x := fun _ h => h
theorem Lt.bind {α β : Type} {x y : Option α} {f g : α → Option β} (h : Lt x y) (k : ∀ a, Lt (f a) (g a)) : Lt (x.bind f) (y.bind g) := fun r hr => by
  obtain ⟨a, h1, h2⟩ := bind_some hr
  rw [h a h1]; exact k a r h2
theorem Lt.ite {α : Type} {c : Prop} [Decidable c] {x y x' y' : Option α} (h : Lt x y) (k : Lt x' y') : Lt (if c then x else x') (if c then y else y') := fun r hr => by
  split at hr
  · rw [if_pos ‹_›]; exact h r hr
  · rw [if_neg ‹_›]; exact k r hr
theorem Lt.rngN {S O : Type} {f g : Int → S → Option (S ⊕ O)} (h : ∀ i s, Lt (f i s) (g i s)) : ∀ (k : Nat) (i : Int) (s : S), Lt (rngN f k i s) (rngN g k i s)
  | 0, _, _ => Lt.rfl'
  | k + 1, i, s => fun r hr => by
    simp only [Ab.rngN] at hr ⊢
    cases hf : f i s with
    | none => rw [hf] at hr; cases hr
    | some x =>
      rw [h i s x hf]
      rw [hf] at hr
      cases x with
      | inl s' => exact Lt.rngN h k (i + 1) s' r hr
      | inr o => exact hr
theorem Lt.rngX {S O : Type} {f g : Int → S → Option (S ⊕ O)} {lo n : Int} {s : S} (h : ∀ i s, Lt (f i s) (g i s)) : Lt (rngX lo n f s) (rngX lo n g s) := Lt.rngN h _ _ _
theorem Lt.LoopN {S O : Type} {f g : S → Option (S ⊕ O)} (h : ∀ s, Lt (f s) (g s)) : ∀ (k : Nat) (s : S), Lt (LoopN f k s) (LoopN g k s)
  | 0, _ => Lt.rfl'
  | k + 1, s => fun r hr => by
    simp only [Ab.LoopN] at hr ⊢
    cases hf : f s with
    | none => rw [hf] at hr; cases hr
    | some x =>
      rw [h s x hf]
      rw [hf] at hr
      cases x with
      | inl s' => exact Lt.LoopN h k s' r hr
      | inr o => exact hr
theorem Lt.Loop {S O : Type} {f g : S → Option (S ⊕ O)} {s : S} (h : ∀ s, Lt (f s) (g s)) : Lt (Loop f s) (Loop g s) := fun r hr => by
  obtain ⟨n, hn⟩ := Loop_iff.1 hr
  exact Loop_iff.2 ⟨n, Lt.LoopN h n s r hn⟩
/-- A step that asks its part for no more than its values. -/
def Mono {A R : Type} (F : (A → Option R) → A → Option R) : Prop := ∀ f g, (∀ a, Lt (f a) (g a)) → ∀ a, Lt (F f a) (F g a)
theorem recN_up {A R : Type} {F : (A → Option R) → A → Option R} (hF : Mono F) : ∀ (n : Nat) (a : A), Lt (recN F n a) (recN F (n + 1) a)
  | 0, a => fun r h => by cases h
  | n + 1, a => hF _ _ (recN_up hF n) a
theorem recN_le {A R : Type} {F : (A → Option R) → A → Option R} (hF : Mono F) {n m : Nat} (h : n ≤ m) (a : A) : Lt (recN F n a) (recN F m a) := by
  induction h with
  | refl => exact Lt.rfl'
  | step _ ih => exact fun r hr => recN_up hF _ a r (ih r hr)
theorem Rec_recN {A R : Type} {F : (A → Option R) → A → Option R} (hF : Mono F) {n : Nat} {a : A} {r : R} (h : recN F n a = some r) : Rec F a = some r := by
  obtain ⟨r', h1, m, h2⟩ := Rec_of h
  have e1 := recN_le hF (Nat.le_max_left n m) a r h
  have e2 := recN_le hF (Nat.le_max_right n m) a r' h2
  rw [h1, ← e2, e1]
/-- Whole from step: μ sinks. -/
theorem Rec_inv {A R : Type} {F : (A → Option R) → A → Option R} (hF : Mono F) (P : A → Prop) (V : A → R → Prop) (μ : A → Nat)
    (hb : ∀ f a, P a → (∀ a', P a' → μ a' < μ a → ∃ r, f a' = some r ∧ V a' r) → ∃ r, F f a = some r ∧ V a r) {a : A} (ha : P a) : ∃ r, Rec F a = some r ∧ V a r := by
  have key : ∀ (n : Nat) (a : A), P a → μ a < n → ∃ r, recN F n a = some r ∧ V a r := by
    intro n
    induction n with
    | zero => intro a _ h; omega
    | succ n ih => exact fun a ha hn => hb (recN F n) a ha fun a' ha' hm => ih a' ha' (by omega)
  obtain ⟨r, h1, h2⟩ := key (μ a + 1) a ha (by omega)
  exact ⟨r, Rec_recN hF h1, h2⟩
end Ab
end
section
namespace Ab
open Go
theorem bind_map_congr {α β γ : Type} {x : Option α} {f : α → Option γ} {g : α → Option β} {k : β → γ} (h : ∀ a, f a = (g a).map k) : x.bind f = (x.bind g).map k := by
  cases x with
  | none => rfl
  | some a => exact h a
theorem ite_map_congr {β γ : Type} {c : Prop} [Decidable c] {x y : Option γ} {x' y' : Option β} {k : β → γ} (h : x = x'.map k) (h' : y = y'.map k) : (if c then x else y) = (if c then x' else y').map k := by
  split
  · exact h
  · exact h'
theorem rngN_map {S O O' : Type} {b1 : Int → S → Option (S ⊕ O)} {b2 : Int → S → Option (S ⊕ O')} (g : O → O') (h : ∀ i s, b2 i s = (b1 i s).map (Sum.map id g)) : ∀ (k : Nat) (i : Int) (s : S), rngN b2 k i s = (rngN b1 k i s).map (Sum.map id g)
  | 0, _, _ => rfl
  | k + 1, i, s => by
    simp only [rngN]
    rw [h]
    cases b1 i s with
    | none => rfl
    | some x =>
      cases x with
      | inl s' => exact rngN_map g h k (i + 1) s'
      | inr o => rfl
theorem rngX_map {S O O' : Type} {b1 : Int → S → Option (S ⊕ O)} {b2 : Int → S → Option (S ⊕ O')} (g : O → O') (h : ∀ i s, b2 i s = (b1 i s).map (Sum.map id g)) {lo n : Int} {s : S} : rngX lo n b2 s = (rngX lo n b1 s).map (Sum.map id g) := rngN_map g h _ _ _
theorem turns_mono (t : TTask) (plans : List (List Int)) : Mono (merging_merger_turns_w1_b t plans) := by
  intro f g h ⟨sv, atv, l, l6⟩
  unfold merging_merger_turns_w1_b
  dsimp only
  refine Lt.bind Lt.rfl' fun _ => Lt.ite Lt.rfl' (Lt.bind (Lt.rngX fun i s => ?_) fun x => Lt.rfl')
  obtain ⟨c12, c13, d⟩ := s
  unfold merging_merger_turns_w1_l1
  dsimp only
  repeat (first | exact Lt.rfl' | exact h _ | refine Lt.ite ?_ ?_ | refine Lt.bind ?_ fun _ => ?_)
section
variable {t : TTask} {plans : List (List Int)} {gs : List Int}
/-- No turns lead on from a node that is remembered. -/
def InvM (t : TTask) (plans : List (List Int)) (gs : List Int) (m : List (ByteArray × Int)) : Prop := ∀ s at_ : List Int, SetN s t.facts → AtOk plans at_ → 0 < Option.getD (mget m (keyK [s, at_])) 0 → ∀ l, ¬ good t plans gs s at_ l
structure Plans6 (t : TTask) (plans : List (List Int)) : Prop where
  n4 : plans.length ≤ 4
  six : ∀ p ∈ plans, p.length ≤ 6
  op : ∀ p ∈ plans, ∀ x ∈ p, 0 ≤ x ∧ x < t.operators.length
theorem AtOk.small (hp : Plans6 t plans) {at_ : List Int} (h : AtOk plans at_) : small at_ := fun x hx => by
  obtain ⟨i, i0, i1, hi⟩ := mem_ix hx
  obtain ⟨l, hl, _⟩ := ix_of (l := plans) i0 (by rw [← h.len]; exact i1)
  have := h.rng i l x hl hi
  have := hp.six l (ix_mem hl)
  omega
theorem SetN.small (h1 : t.facts ≤ 24) {s : List Int} (h : SetN s t.facts) : small s := fun x hx => by have := h.2 x hx; omega
theorem nodeKey (ht : TaskOk t) (hp : Plans6 t plans) {s at_ : List Int} (hs : SetN s t.facts) (ha : AtOk plans at_) : belief_Key [s, at_] = some (keyK [s, at_]) := by
  have := hs.len; have := ht.n1; have := ha.len; have := hp.n4
  exact key2_eq (SetN.small ht.n1 hs) (ha.small hp) (by omega) (by omega)
/-- What a search finds. -/
def Found (t : TTask) (plans : List (List Int)) (gs s at_ out : List Int) (ok : Bool) : Prop := (ok = true ∧ Least t plans gs s at_ out) ∨ (ok = false ∧ out = [] ∧ ∀ l, ¬ good t plans gs s at_ l)
abbrev Node := List Int × List Int × List Int × List (ByteArray × Int)
def NodeOk (t : TTask) (plans : List (List Int)) (gs : List Int) (a : Node) : Prop := SetN a.1 t.facts ∧ AtOk plans a.2.1 ∧ a.2.2.1 = gs ∧ InvM t plans gs a.2.2.2
def NodeV (t : TTask) (plans : List (List Int)) (gs : List Int) (a : Node) (r : List Int × Bool × List Int × List (ByteArray × Int)) : Prop := r.2.2.1 = gs ∧ InvM t plans gs r.2.2.2 ∧ Found t plans gs a.1 a.2.1 r.1 r.2.1
theorem turnsLoop (ht : TaskOk t) (hp : Plans6 t plans) {f : Node → Option (List Int × Bool × List Int × List (ByteArray × Int))} {s at_ : List Int} (hs : SetN s t.facts) (ha : AtOk plans at_)
    (ih : ∀ a : Node, NodeOk t plans gs a → left plans a.2.1 < left plans at_ → ∃ r, f a = some r ∧ NodeV t plans gs a r) {m : List (ByteArray × Int)} (hm : InvM t plans gs m) :
    (∃ m' d, rngX 0 (plans.length : Int) (merging_merger_turns_w1_l1 s at_ t plans f) (gs, m, true) = some (.inl (gs, m', d)) ∧ InvM t plans gs m' ∧ (∀ q l, ¬ good t plans gs s at_ (q :: l)) ∧ (d = true ↔ allDone plans at_)) ∨
    ∃ r, rngX 0 (plans.length : Int) (merging_merger_turns_w1_l1 s at_ t plans f) (gs, m, true) = some (.inr r) ∧ NodeV t plans gs (s, at_, gs, m) r := by
  have hlen := ha.len
  have h4 := hp.n4
  rcases rngX_inv (body := merging_merger_turns_w1_l1 s at_ t plans f) (n := (plans.length : Int)) (s := (gs, m, true))
    (fun j x => x.1 = gs ∧ InvM t plans gs x.2.1 ∧ (∀ q l, q < j → ¬ good t plans gs s at_ (q :: l)) ∧ (x.2.2 = true ↔ ∀ p l a, 0 ≤ p → p < j → ix plans p = some l → ix at_ p = some a → a = l.length))
    (fun r => NodeV t plans gs (s, at_, gs, m) r) (by omega)
    ⟨rfl, hm, fun q l hq h => by have := good_rng h q (by simp); omega, by simp; intro p l a h0 h1; omega⟩ (fun p ⟨g', m', d⟩ p0 p1 ⟨k1, k2, k3, k4⟩ => by
      dsimp only at k1 k2 k3 k4 ⊢
      subst k1
      obtain ⟨l, hl, _⟩ := ix_of (l := plans) p0 p1
      obtain ⟨a, hav, a0, a1⟩ := ha.get hl
      unfold merging_merger_turns_w1_l1
      simp only [hl, hav, Option.bind_some]
      have step : ∀ {q : Int} {l' : List Int}, q < p + 1 → (q = p → ¬ good t plans g' s at_ (q :: l')) → ¬ good t plans g' s at_ (q :: l') := fun hq hn => by
        rename_i q l'
        by_cases e : q = p
        · exact hn e
        · exact k3 q l' (by omega)
      have hj2 : ∀ x : List Int × List (ByteArray × Int) × Bool, merging_merger_turns_w1_j2 x = some (.inl x) := fun _ => rfl
      by_cases c1 : a = (l.length : Int)
      · rw [if_pos c1, hj2]
        refine .inl ⟨_, rfl, rfl, k2, fun q l' hq => step hq ?_, ?_⟩
        · rintro rfl ⟨op, g1, _⟩
          obtain ⟨l2, a2, e1, e2, e3⟩ := nxt_some g1
          rw [hl] at e1; cases e1
          rw [hav] at e2; cases e2
          have := (ix_lo e3).2.1
          omega
        · dsimp only
          rw [k4]
          constructor
          · intro h q l' a' q0 q1 e1 e2
            by_cases e : q = p
            · subst e; rw [hl] at e1; cases e1; rw [hav] at e2; cases e2; exact c1
            · exact h q l' a' q0 (by omega) e1 e2
          · exact fun h q l' a' q0 q1 => h q l' a' q0 (by omega)
      · rw [if_neg c1]
        obtain ⟨op, hop, _⟩ := ix_of (l := l) a0 (by omega)
        obtain ⟨o0, o1⟩ := hp.op l (ix_mem hl) op (ix_mem hop)
        have hnx := nxt_of hl hav hop
        have hnd : ∀ b : Bool, b = false → (b = true ↔ ∀ q l a, 0 ≤ q → q < p + 1 → ix plans q = some l → ix at_ q = some a → a = l.length) := fun b hb => by
          subst hb
          exact ⟨fun h => (by cases h), fun h => absurd (h p l a p0 (by omega) hl hav) c1⟩
        simp only [hop, Option.bind_some, can_eq ht o0 o1 hs, dec_not]
        by_cases c2 : can t s op
        · rw [ifNN c2, clone_eq (by omega)]
          simp only [Option.bind_some, hav, next_eq ht o0 o1 hs]
          have hl6 := hp.six l (ix_mem hl)
          rw [w64_of (by omega) (by omega), ← bump_eq hav]
          have hlt := nxt_left hnx
          obtain ⟨r, r1, r2, r3, r4⟩ := ih (aft t s op, bump at_ p, g', m') ⟨setN_aft _ _ _, ha.bump hnx, rfl, k2⟩ (by dsimp only; omega)
          rw [r1]
          simp only [Option.bind_some]
          rcases r4 with ⟨ok, r4⟩ | ⟨ok, _, r4⟩
          · rw [if_pos ok]
            have hlen := good_len (ha.bump hnx) r4.1
            have hsum : left plans (bump at_ p) ≤ 24 := by
              rw [← hlen]
              have : ∀ (pl : List (List Int)) (b : List Int), (∀ x ∈ pl, x.length ≤ 6) → left pl b ≤ 6 * pl.length := by
                intro pl
                induction pl with
                | nil => intro b _; simp [left]
                | cons x pl ihp =>
                  intro b hb
                  cases b with
                  | nil => simp [left]
                  | cons y b =>
                    have h1 := hb x (by simp)
                    have h2 := ihp b fun z hz => hb z (by simp [hz])
                    simp only [left, List.zip_cons_cons, List.map_cons, List.sum_cons, List.length_cons] at h2 ⊢
                    omega
              have := this plans (bump at_ p) hp.six
              rw [hlen]; omega
            rw [app, if_pos (by simp; omega)]
            simp only [Option.bind_some]
            refine .inr ⟨_, rfl, r2, r3, .inl ⟨rfl, ⟨op, hnx, c2, r4.1⟩, fun m2 hm2 => ?_⟩⟩
            match m2, hm2 with
            | [], hm2 => exact absurd (hm2.1 p l a hl hav) c1
            | q :: m3, hm2 =>
              rcases Int.lt_trichotomy q p with hq | hq | hq
              · exact absurd hm2 (k3 q m3 hq)
              · subst hq
                obtain ⟨op', e1, e2, e3⟩ := hm2
                rw [hnx] at e1; cases e1
                exact .inr ⟨rfl, r4.2 m3 e3⟩
              · exact .inl hq
          · rw [if_neg (by rw [ok]; simp), hj2]
            refine .inl ⟨_, rfl, r2, r3, fun q l' hq => step hq ?_, hnd _ rfl⟩
            rintro rfl ⟨op', e1, e2, e3⟩
            rw [hnx] at e1; cases e1
            exact r4 l' e3
        · rw [ifP c2, hj2]
          refine .inl ⟨_, rfl, rfl, k2, fun q l' hq => step hq ?_, hnd _ rfl⟩
          rintro rfl ⟨op', e1, e2, e3⟩
          rw [hnx] at e1; cases e1
          exact c2 e2) with ⟨⟨g', m', d⟩, r1, r2, r3, r4, r5⟩ | ⟨r, r1, r2⟩
  · dsimp only at r2 r3 r4 r5
    subst r2
    refine .inl ⟨m', d, r1, r3, fun q l h => r4 q l (good_rng h q (by simp)).2 h, r5.trans ⟨fun h p l a e1 e2 => h p l a (ix_lo e1).1 (ix_lo e1).2.1 e1 e2, fun h p l a _ _ e1 e2 => h p l a e1 e2⟩⟩
  · exact .inr ⟨r, r1, r2⟩
theorem InvM.set (ht : TaskOk t) (hp : Plans6 t plans) {m : List (ByteArray × Int)} (hm : InvM t plans gs m) {s at_ : List Int} (hs : SetN s t.facts) (ha : AtOk plans at_) (hn : ∀ l, ¬ good t plans gs s at_ l) : InvM t plans gs (mset m (keyK [s, at_]) 1) := fun s' a' hs' ha' h => by
  rw [mget_mset] at h
  split at h
  · rename_i e
    have := keyK_inj (l := [s', a']) (l' := [s, at_]) (by simp [SetN.small ht.n1 hs', ha'.small hp]) (by simp [SetN.small ht.n1 hs, ha.small hp]) e
    simp only [List.cons.injEq, and_true] at this
    obtain ⟨rfl, rfl⟩ := this
    exact hn
  · exact hm s' a' hs' ha' h
theorem turnsEnd (ht : TaskOk t) (hp : Plans6 t plans) (hg : SetN gs t.facts) {s at_ : List Int} (hs : SetN s t.facts) (ha : AtOk plans at_) {d : Bool} (h1 : ∀ q l, ¬ good t plans gs s at_ (q :: l)) (h2 : d = true ↔ allDone plans at_) :
    ∃ b, (Option.bind (if d = true then Option.bind (strips_Contains s gs) fun a97 => some a97 else some false) fun t22 => some t22) = some b ∧ (b = true → Least t plans gs s at_ []) ∧ (b = false → ∀ l, ¬ good t plans gs s at_ l) := by
  have := hs.len; have := ht.n1
  rw [contains_eq hs.1 hg.1 (by omega)]
  by_cases c : d = true
  · rw [if_pos c]
    refine ⟨_, rfl, fun h => ⟨⟨h2.1 c, dec_true.1 h⟩, fun m hm => ?_⟩, fun h l hl => ?_⟩
    · cases m with
      | nil => trivial
      | cons q m => exact absurd hm (h1 q m)
    · cases l with
      | nil => rw [dec_false] at h; exact h hl.2
      | cons q l => exact h1 q l hl
  · rw [if_neg c]
    refine ⟨_, rfl, fun h => by simp at h, fun h l hl => ?_⟩
    cases l with
    | nil => exact c (h2.2 hl.1)
    | cons q l => exact h1 q l hl
theorem turns_rec (ht : TaskOk t) (hp : Plans6 t plans) (hg : SetN gs t.facts) {a : Node} (h : NodeOk t plans gs a) : ∃ r, Rec (merging_merger_turns_w1_b t plans) a = some r ∧ NodeV t plans gs a r := by
  refine Rec_inv (turns_mono t plans) (NodeOk t plans gs) (NodeV t plans gs) (fun a => left plans a.2.1) (fun f ⟨s, at_, g, m⟩ ⟨k1, k2, k3, k4⟩ ih => ?_) h
  dsimp only at k1 k2 k3 k4 ih
  subst k3
  unfold merging_merger_turns_w1_b
  dsimp only
  rw [nodeKey ht hp k1 k2]
  simp only [Option.bind_some]
  by_cases c : 0 < Option.getD (mget m (keyK [s, at_])) 0
  · rw [if_pos c]
    exact ⟨_, rfl, rfl, k4, .inr ⟨rfl, rfl, k4 s at_ k1 k2 c⟩⟩
  · rw [if_neg c]
    rcases turnsLoop ht hp k1 k2 ih k4 with ⟨m', d, r1, r2, r3, r4⟩ | ⟨r, r1, r2⟩
    · rw [r1]
      simp only [Option.bind_some]
      obtain ⟨b, b1, b2, b3⟩ := turnsEnd ht hp hg k1 k2 r3 r4
      obtain ⟨b', b4, b5⟩ := bind_some b1
      cases b5
      rw [b4]
      simp only [Option.bind_some]
      cases b with
      | true => exact ⟨_, rfl, rfl, r2, .inl ⟨rfl, b2 rfl⟩⟩
      | false => exact ⟨_, rfl, rfl, r2.set ht hp k1 k2 (b3 rfl), .inr ⟨rfl, rfl, b3 rfl⟩⟩
    · rw [r1]
      exact ⟨_, rfl, r2⟩
theorem turns_top (ht : TaskOk t) (hp : Plans6 t plans) (hg : SetN gs t.facts) {s at_ : List Int} {m : List (ByteArray × Int)} (hs : SetN s t.facts) (ha : AtOk plans at_) (hm : InvM t plans gs m) :
    ∃ m' out ok, merging_merger_turns_w s t plans at_ gs m = some (gs, m', out, ok) ∧ Found t plans gs s at_ out ok := by
  unfold merging_merger_turns_w
  rw [nodeKey ht hp hs ha]
  simp only [Option.bind_some]
  by_cases c : 0 < Option.getD (mget m (keyK [s, at_])) 0
  · rw [if_pos c]
    exact ⟨_, _, _, rfl, .inr ⟨rfl, rfl, hm s at_ hs ha c⟩⟩
  · rw [if_neg c]
    rw [rngX_map (b1 := merging_merger_turns_w1_l1 s at_ t plans (fun a => merging_merger_turns_w1 a.1 a.2.1 t plans a.2.2.1 a.2.2.2)) (b2 := merging_merger_turns_w_l1 s t plans at_) (fun o => (o.2.2.1, o.2.2.2, o.1, o.2.1)) (fun i ⟨x, y, z⟩ => by
      unfold merging_merger_turns_w_l1 merging_merger_turns_w1_l1 merging_merger_turns_w_j2 merging_merger_turns_w1_j2
      dsimp only
      repeat (first | rfl | refine ite_map_congr ?_ ?_ | refine bind_map_congr fun _ => ?_))]
    rcases turnsLoop ht hp hs ha (f := fun a => merging_merger_turns_w1 a.1 a.2.1 t plans a.2.2.1 a.2.2.2) (gs := gs) (fun a hA _ => turns_rec ht hp hg hA) hm with ⟨m', d, r1, r2, r3, r4⟩ | ⟨r, r1, r2⟩
    · rw [r1]
      simp only [Option.map_some, Sum.map_inl, id_eq, Option.bind_some]
      obtain ⟨b, b1, b2, b3⟩ := turnsEnd ht hp hg hs ha r3 r4
      obtain ⟨b', b4, b5⟩ := bind_some b1
      cases b5
      rw [b4]
      simp only [Option.bind_some]
      cases b with
      | true => exact ⟨_, _, _, rfl, .inl ⟨rfl, b2 rfl⟩⟩
      | false => exact ⟨_, _, _, rfl, .inr ⟨rfl, rfl, b3 rfl⟩⟩
    · rw [r1]
      obtain ⟨out, ok, g', m'⟩ := r
      obtain ⟨q1, q2, q3⟩ := r2
      dsimp only at q1 q2 q3
      subst q1
      exact ⟨_, _, _, rfl, q3⟩
end
theorem merge_eq (t : TTask) (goals plans : List (List Int)) : ∃ l ok f, merging_Merge t goals plans = some (l, ok, f) ∧ ref8_PartiesFault t goals plans = some f ∧
    ((f = ⟨0, 0⟩ ∧ PartiesOk t goals plans ∧ ((ok = true ∧ goodT t goals plans l ∧ ∀ m, goodT t goals plans m → lexLe l m) ∨ (ok = false ∧ l = [] ∧ ∀ m, ¬ goodT t goals plans m))) ∨ (f.code ≠ 0 ∧ ¬ PartiesOk t goals plans ∧ l = [] ∧ ok = false)) := by
  obtain ⟨f, h1, h2, h3⟩ := parties_eq t goals plans
  unfold merging_Merge
  rw [h1]
  simp only [Option.bind_some]
  rcases h3 with ⟨rfl, hp⟩ | ⟨hc, hn⟩
  · rw [if_neg (by simp)]
    have h4 := hp.n4
    have hn := hp.task.n1
    rw [union_all hn hp.goal]
    simp only [Option.bind_some]
    rw [mkL_eq (by omega) (by omega)]
    simp only [Option.bind_some]
    obtain ⟨m', out, ok, e1, e2⟩ := turns_top (gs := allGoals t goals) hp.task ⟨hp.n4, hp.six, hp.op⟩ (setN_setOf _ _) (m := []) hp.task.init (atOk_zero plans) (fun _ _ _ _ h => by simp [mget] at h)
    rw [e1]
    refine ⟨_, _, _, rfl, h2, .inl ⟨rfl, hp, ?_⟩⟩
    rcases e2 with ⟨q1, q2⟩ | ⟨q1, q2, q3⟩
    · exact .inl ⟨q1, q2.1, q2.2⟩
    · exact .inr ⟨q1, q2, q3⟩
  · rw [if_pos (fault_no hc)]
    exact ⟨_, _, _, rfl, h2, .inr ⟨hc, hn, rfl, rfl⟩⟩
end Ab
end
section
namespace Ab
open Go
/-! ### All turns, one after the other -/
def adv (at_ l : List Int) : List Int := l.foldl bump at_
structure Begun (plans : List (List Int)) (l : List Int) : Prop where
  at_ok : AtOk plans (adv (List.replicate plans.length 0) l)
  len : l.length + left plans (adv (List.replicate plans.length 0) l) = left plans (List.replicate plans.length 0)
  rng : ∀ p ∈ l, 0 ≤ p ∧ p < plans.length
  cnt : ∀ p : Int, 0 ≤ p → p < plans.length → ix (adv (List.replicate plans.length 0) l) p = some (l.count p : Int)
/-! ### The small task -/
theorem merged_ok : PartiesOk stepT [[1]] [[1, 0]] where
  task := step_ok
  n1 := by decide
  n4 := by decide
  len := rfl
  goal g hg := by simp only [List.mem_singleton] at hg; subst hg; exact setN1 1 (by decide) (by decide)
  six p hp := by simp only [List.mem_singleton] at hp; subst hp; decide
  op p hp := by simp only [List.mem_singleton] at hp; subst hp; simp [stepT]
theorem merged_good : goodT stepT [[1]] [[1, 0]] [0, 0] := by
  refine ⟨1, rfl, fun x hx => (by cases hx), 0, rfl, fun x hx => ?_, ?_, fun x hx => ?_⟩
  · have : x = 0 := by simpa [opAt, stepT] using hx
    subst this
    exact mem_setOf.2 ⟨by decide, by decide, .inr ⟨by simp [stepT], by simp [opAt, stepT]⟩⟩
  · intro p l a h1 h2
    obtain ⟨p0, p1, _⟩ := ix_lo h1
    have : p = 0 := by simp at p1; omega
    subst this
    cases h1; cases h2; rfl
  · obtain ⟨_, _, g, hg, hx⟩ := mem_setOf.1 hx
    simp only [List.mem_singleton] at hg
    subst hg
    have : x = 1 := by simpa using hx
    subst this
    exact mem_setOf.2 ⟨by decide, by decide, .inl (by simp [opAt, stepT])⟩
theorem merged_true : law8_merged = some true := by
  have h0 : law8_step = some stepT := rfl
  obtain ⟨l, ok, f, h1, h2, h3⟩ := merge_eq stepT [[1]] [[1, 0]]
  rcases h3 with ⟨rfl, hp, h3⟩ | ⟨_, h, _⟩
  · rcases h3 with ⟨rfl, g1, g2⟩ | ⟨_, _, g⟩
    · have hl : l = [0, 0] := by
        have e := good_len (atOk_zero [[1, 0]]) g1
        have r := good_rng g1
        have e : l.length = 2 := e
        match l, e, r with
        | [a, b], _, r =>
          have ra := r a (by simp); have rb := r b (by simp)
          simp at ra rb
          rw [show a = 0 by omega, show b = 0 by omega]
      subst hl
      obtain ⟨b, f2, c1, c2⟩ := mCheck_eq stepT [[1]] [[1, 0]] [0, 0]
      unfold law8_merged
      simp only [h0, Option.bind_some, h1, c1]
      rcases c2 with ⟨rfl, _, _, _, rfl⟩ | ⟨rfl, c2, c3⟩
      · rw [dec_of g1, numbers_eq, dec_of rfl]; simp
      · rcases c3 with c3 | ⟨_, c3 | c3⟩
        · rw [h2] at c3; cases c3; exact absurd rfl c2
        · simp at c3
        · exact absurd (good_rng g1) c3.2.1
    · exact absurd merged_good (g _)
  · exact absurd merged_ok h
/-! ### Laws -/
end Ab
end
section
namespace Ab
open Go
/-- Two operators whose order matters. -/
def inter (t : TTask) (a b : Int) : Prop :=
  (∃ x ∈ (opAt t a).add, x ∈ (opAt t b).pre) ∨ (∃ x ∈ (opAt t a).del, x ∈ (opAt t b).pre) ∨ (∃ x ∈ (opAt t b).add, x ∈ (opAt t a).pre) ∨ (∃ x ∈ (opAt t b).del, x ∈ (opAt t a).pre) ∨ (∃ x ∈ (opAt t a).add, x ∈ (opAt t b).del) ∨ (∃ x ∈ (opAt t a).del, x ∈ (opAt t b).add)
theorem ifDec {p q : Prop} : (if dec p = true then some true else some (dec q)) = some (dec (p ∨ q)) := by
  by_cases h : p
  · rw [ifP h, dec_of (.inl h)]
  · rw [ifN h]; exact congrArg some (dec_congr ⟨.inr, fun g => g.resolve_left h⟩)
theorem not_disj {a b : List Int} : (¬ ∀ x ∈ a, x ∉ b) ↔ ∃ x ∈ a, x ∈ b := by
  constructor
  · intro h
    refine Classical.byContradiction fun g => h fun x hx hb => g ⟨x, hx, hb⟩
  · rintro ⟨x, h1, h2⟩ h
    exact h x h1 h2
theorem interfere_eq {t : TTask} (ht : TaskOk t) {a b : Int} (a0 : 0 ≤ a) (a1 : a < t.operators.length) (b0 : 0 ≤ b) (b1 : b < t.operators.length) : partialorder_Interfere t a b = some (dec (inter t a b)) := by
  have hn := ht.n1
  obtain ⟨⟨p1, p2, p3, _⟩, _⟩ := ht.at a0 a1
  obtain ⟨⟨q1, q2, q3, _⟩, _⟩ := ht.at b0 b1
  have := p1.len; have := p2.len; have := p3.len; have := q1.len; have := q2.len; have := q3.len
  unfold partialorder_Interfere
  rw [ix_op a0 a1, ix_op b0 b1]
  simp only [Option.bind_some]
  rw [meets_eq q1.1 (by omega), meets_eq q1.1 (by omega), meets_eq p1.1 (by omega), meets_eq p1.1 (by omega), meets_eq q3.1 (by omega), meets_eq q2.1 (by omega)]
  simp only [Option.bind_some, ifDec]
  rfl
theorem interfering_eq {t : TTask} {a b : Int} (a0 : 0 ≤ a) (a1 : a < t.operators.length) (b0 : 0 ≤ b) (b1 : b < t.operators.length) : ref7_Interfering t a b = some (dec (inter t a b)) := by
  unfold ref7_Interfering
  rw [ix_op a0 a1, ix_op b0 b1]
  simp only [Option.bind_some, disjoint_eq, dec_not, ifDec, not_disj]
  rfl
/-- A loop that counts, as' a loop over numbers. -/
theorem Loop_for {S : Type} {body : S × Int → Option ((S × Int) ⊕ S)} {b2 : Int → S → Option S} {n : Int} (hn : n ≤ 1000000)
    (h : ∀ s j, 0 ≤ j → body (s, j) = if j < n then (b2 j s).bind fun s' => some (.inl (s', j + 1)) else some (.inr s)) : ∀ (k : Nat) (j : Int) (s : S), 0 ≤ j → (n - j).toNat = k → Loop body (s, j) = forN b2 k j s
  | 0, j, s, h0, hk => by
    rw [Loop_eq, h s j h0, if_neg (by omega)]
    rfl
  | k + 1, j, s, h0, hk => by
    rw [Loop_eq, h s j h0, if_pos (by omega)]
    simp only [forN]
    cases b2 j s with
    | none => rfl
    | some s' => exact Loop_for hn h k (j + 1) s' (by omega) (by omega)
theorem forN_congr {S : Type} {b1 b2 : Int → S → Option S} : ∀ (k : Nat) (i : Int) (s : S), (∀ j s, i ≤ j → j < i + k → b1 j s = b2 j s) → forN b1 k i s = forN b2 k i s
  | 0, _, _, _ => rfl
  | k + 1, i, s, h => by
    simp only [forN]
    rw [h i s (by omega) (by omega)]
    cases b2 i s with
    | none => rfl
    | some s' => exact forN_congr k (i + 1) s' fun j s g1 g2 => h j s (by omega) (by omega)
theorem forR_congr {S : Type} {b1 b2 : Int → S → Option S} {lo n : Int} {s : S} (h : ∀ j s, lo ≤ j → j < n → b1 j s = b2 j s) : forR lo n b1 s = forR lo n b2 s :=
  forN_congr _ _ _ fun j s g1 g2 => h j s g1 (by omega)
theorem bind_id {α : Type} {x : Option α} : (x.bind fun a => some a) = x := by cases x <;> rfl
theorem collisions_eq {t : TTask} {goals plans : List (List Int)} (hp : PartiesOk t goals plans) : forR 0 (plans.length : Int) (merging_Conflicts_l1 t plans) [] = ref8_Collisions t plans := by
  have ht := hp.task
  unfold ref8_Collisions
  rw [bind_id]
  refine forR_congr fun p s p0 p1 => ?_
  unfold merging_Conflicts_l1 ref8_Collisions_l1
  rw [bind_id, bind_id]
  refine forR_congr fun q s q0 q1 => ?_
  unfold merging_Conflicts_l2 ref8_Collisions_l2
  obtain ⟨lp, hlp, _⟩ := ix_of (l := plans) p0 p1
  obtain ⟨lq, hlq, _⟩ := ix_of (l := plans) (i := q) (by omega) q1
  have h6p := hp.six lp (ix_mem hlp)
  have h6q := hp.six lq (ix_mem hlq)
  rw [hlp]
  simp only [Option.bind_some, bind_id]
  rw [Loop_for (n := (lp.length : Int)) (b2 := merging_Conflicts_l3 t plans p q lp) (by omega) (fun s i i0 => by
    unfold ref8_Collisions_l3
    dsimp only
    rw [hlp]
    simp only [Option.bind_some]
    by_cases c : i < lp.length
    · rw [if_pos c, if_pos c, w64_of (by omega) (by omega)]
      congr 1
      unfold merging_Conflicts_l3
      obtain ⟨x, hx, _⟩ := ix_of (l := lp) i0 c
      have hxo := hp.op lp (ix_mem hlp) x (ix_mem hx)
      rw [hx, hlq]
      simp only [Option.bind_some, bind_id]
      rw [Loop_for (n := (lq.length : Int)) (b2 := merging_Conflicts_l4 t p q i x lq) (by omega) (fun s j j0 => by
        unfold ref8_Collisions_l4
        dsimp only
        rw [hlq]
        simp only [Option.bind_some]
        by_cases c2 : j < lq.length
        · rw [if_pos c2, if_pos c2, w64_of (by omega) (by omega)]
          obtain ⟨y, hy, _⟩ := ix_of (l := lq) j0 c2
          have hyo := hp.op lq (ix_mem hlq) y (ix_mem hy)
          unfold merging_Conflicts_l4
          simp only [hlp, hx, hy, Option.bind_some, interfering_eq hxo.1 hxo.2 hyo.1 hyo.2, interfere_eq ht hxo.1 hxo.2 hyo.1 hyo.2, bind_id]
        · rw [if_neg c2, if_neg c2]) _ 0 s (Int.le_refl _) rfl]
      rfl
    · rw [if_neg c, if_neg c]) _ 0 s (Int.le_refl _) rfl]
  rfl
end Ab
end
section
namespace Ab
open Go
theorem forR_from {S : Type} {body : Int → S → Option S} {lo n : Int} (P : Int → S → Prop) {s : S} (hn : lo ≤ n) (h0 : P lo s)
    (hb : ∀ j s, lo ≤ j → j < n → P j s → ∃ s', body j s = some s' ∧ P (j + 1) s') : ∃ s', forR lo n body s = some s' ∧ P n s' := by
  obtain ⟨s', h1, h2⟩ := forN_inv P (n - lo).toNat lo s h0 (fun j s g1 g2 => hb j s g1 (by omega))
  exact ⟨s', h1, by rwa [show lo + ((n - lo).toNat : Int) = n by omega] at h2⟩
/-- Steps of parties p and q do not interfere. -/
def free (t : TTask) (plans : List (List Int)) (p q : Int) : Prop := ∀ lp lq, ix plans p = some lp → ix plans q = some lq → ∀ x ∈ lp, ∀ y ∈ lq, ¬ inter t x y
theorem conflicts_some {t : TTask} {goals plans : List (List Int)} (hp : PartiesOk t goals plans) : ∃ c, forR 0 (plans.length : Int) (merging_Conflicts_l1 t plans) [] = some c ∧ (c = [] → ∀ p q : Int, 0 ≤ p → p < q → q < plans.length → free t plans p q) := by
  have ht := hp.task
  have h4 := hp.n4
  have key := forR_inv (body := merging_Conflicts_l1 t plans) (n := (plans.length : Int)) (s := [])
    (fun p c => (c.length : Int) ≤ 144 * p ∧ (c = [] → ∀ p' q : Int, 0 ≤ p' → p' < q → p' < p → q < plans.length → free t plans p' q)) (by omega) ⟨by simp, fun _ p' q _ _ h => by omega⟩ (fun p c p0 p1 ⟨k1, k2⟩ => by
      unfold merging_Conflicts_l1
      rw [bind_id]
      obtain ⟨lp, hlp, _⟩ := ix_of (l := plans) p0 p1
      have h6p := hp.six lp (ix_mem hlp)
      obtain ⟨c', r1, r2, r3⟩ := forR_from (body := merging_Conflicts_l2 t plans p) (lo := p + 1) (n := (plans.length : Int)) (s := c)
        (fun q d => (d.length : Int) ≤ 144 * p + 36 * (q - p - 1) ∧ (d = [] → c = [] ∧ ∀ q', p < q' → q' < q → free t plans p q')) (by omega) ⟨by omega, fun h => ⟨h, fun q' _ h => by omega⟩⟩ (fun q d q0 q1 ⟨m1, m2⟩ => by
          unfold merging_Conflicts_l2
          obtain ⟨lq, hlq, _⟩ := ix_of (l := plans) (i := q) (by omega) q1
          have h6q := hp.six lq (ix_mem hlq)
          rw [hlp]
          simp only [Option.bind_some, bind_id]
          obtain ⟨d', s1, s2, s3⟩ := forR_inv (body := merging_Conflicts_l3 t plans p q lp) (n := (lp.length : Int)) (s := d)
            (fun i e => (e.length : Int) ≤ 144 * p + 36 * (q - p - 1) + 6 * i ∧ (e = [] → d = [] ∧ ∀ i' x, 0 ≤ i' → i' < i → ix lp i' = some x → ∀ y ∈ lq, ¬ inter t x y)) (by omega) ⟨by omega, fun h => ⟨h, fun i' x _ h => by omega⟩⟩ (fun i e i0 i1 ⟨n1, n2⟩ => by
              unfold merging_Conflicts_l3
              obtain ⟨x, hx, _⟩ := ix_of (l := lp) i0 i1
              have hxo := hp.op lp (ix_mem hlp) x (ix_mem hx)
              rw [hx, hlq]
              simp only [Option.bind_some, bind_id]
              obtain ⟨e', u1, u2, u3⟩ := forR_inv (body := merging_Conflicts_l4 t p q i x lq) (n := (lq.length : Int)) (s := e)
                (fun j g => (g.length : Int) ≤ 144 * p + 36 * (q - p - 1) + 6 * i + j ∧ (g = [] → e = [] ∧ ∀ j' y, 0 ≤ j' → j' < j → ix lq j' = some y → ¬ inter t x y)) (by omega) ⟨by omega, fun h => ⟨h, fun j' y _ h => by omega⟩⟩ (fun j g j0 j1 ⟨v1, v2⟩ => by
                  unfold merging_Conflicts_l4
                  obtain ⟨y, hy, _⟩ := ix_of (l := lq) j0 j1
                  have hyo := hp.op lq (ix_mem hlq) y (ix_mem hy)
                  rw [hy]
                  simp only [Option.bind_some, interfere_eq ht hxo.1 hxo.2 hyo.1 hyo.2, bind_id]
                  by_cases ci : inter t x y
                  · rw [ifP ci, app, if_pos (by simp; omega)]
                    exact ⟨_, rfl, by simp; omega, fun h => by simp at h⟩
                  · rw [ifN ci]
                    refine ⟨_, rfl, by omega, fun h => ⟨(v2 h).1, fun j' y' k0 k1 hj => ?_⟩⟩
                    by_cases ej : j' = j
                    · subst ej; rw [hy] at hj; cases hj; exact ci
                    · exact (v2 h).2 j' y' k0 (by omega) hj)
              refine ⟨e', u1, by omega, fun h => ⟨(n2 (u3 h).1).1, fun i' x' k0 k1 hi y hy => ?_⟩⟩
              by_cases ei : i' = i
              · subst ei; rw [hx] at hi; cases hi
                obtain ⟨j, j0, j1, hj⟩ := mem_ix hy
                exact (u3 h).2 j y j0 j1 hj
              · exact (n2 (u3 h).1).2 i' x' k0 (by omega) hi y hy)
          refine ⟨d', s1, by omega, fun h => ⟨(m2 (s3 h).1).1, fun q' g0 g1 => ?_⟩⟩
          by_cases eq : q' = q
          · subst eq
            intro lp' lq' e1 e2 x hx y hy
            rw [hlp] at e1; cases e1
            rw [hlq] at e2; cases e2
            obtain ⟨i, i0, i1, hi⟩ := mem_ix hx
            exact (s3 h).2 i x i0 i1 hi y hy
          · exact (m2 (s3 h).1).2 q' g0 (by omega))
      refine ⟨c', r1, by omega, fun h p' q e0 e1 e2 e3 => ?_⟩
      by_cases ep : p' = p
      · subst ep; exact (r3 h).2 q e1 e3
      · exact k2 (r3 h).1 p' q e0 e1 (by omega) e3)
  obtain ⟨c, h1, _, h3⟩ := key
  exact ⟨c, h1, fun h p q p0 pq q1 => h3 h p q p0 pq (by omega) q1⟩
theorem conflicts_eq (t : TTask) (plans : List (List Int)) (hb : plans.length * 24 ≤ 140737488355328) : mkL 24 (plans.length : Int) ([] : List Int) = some (List.replicate plans.length []) ∧
    ∃ c f, merging_Conflicts t plans = some (c, f) ∧ ref8_PartiesFault t (List.replicate plans.length []) plans = some f ∧ ((f = ⟨0, 0⟩ ∧ PartiesOk t (List.replicate plans.length []) plans ∧ ref8_Collisions t plans = some c ∧ (c = [] → ∀ p q : Int, 0 ≤ p → p < q → q < plans.length → free t plans p q)) ∨ (f.code ≠ 0 ∧ c = [] ∧ ¬ PartiesOk t (List.replicate plans.length []) plans)) := by
  have hm : mkL 24 (plans.length : Int) ([] : List Int) = some (List.replicate plans.length []) := mkL_eq (by omega) (by omega)
  refine ⟨hm, ?_⟩
  obtain ⟨f, h1, h2, h3⟩ := parties_eq t (List.replicate plans.length []) plans
  unfold merging_Conflicts
  rw [hm]
  simp only [Option.bind_some, h1]
  rcases h3 with ⟨rfl, hp⟩ | ⟨hc, hn⟩
  · obtain ⟨c, r1, r2⟩ := conflicts_some hp
    rw [if_neg (by simp), r1]
    exact ⟨c, _, rfl, h2, .inl ⟨rfl, hp, (collisions_eq hp).symm.trans r1, r2⟩⟩
  · rw [if_pos (fault_no hc)]
    exact ⟨_, _, rfl, h2, .inr ⟨hc, rfl, hn⟩⟩
end Ab
end
section
namespace Ab
open Go
theorem ends_goal {t : TTask} {g : List Int} : ∀ {plan s : List Int}, ends ⟨t.facts, t.init, g, t.operators⟩ s plan = ends t s plan
  | [], s => rfl
  | op :: r, s => by
    simp only [ends]
    rw [ends_goal (t := t) (plan := r)]
    rfl
/-- A fact that no step of a party other than p deletes. -/
def safe (t : TTask) (plans : List (List Int)) (p x : Int) : Prop := ∀ q l, q ≠ p → ix plans q = some l → ∀ op ∈ l, x ∉ (opAt t op).del
theorem runParty {t : TTask} {plans : List (List Int)} {gs : List Int} (hop : ∀ p ∈ plans, ∀ x ∈ p, 0 ≤ x ∧ x < t.operators.length) {p : Int} {plan : List Int} (hl : ix plans p = some plan)
    (hpre : ∀ op ∈ plan, ∀ x ∈ (opAt t op).pre, safe t plans p x) (hset : ∀ op ∈ plan, opSets (opAt t op) t.facts) :
    ∀ (rest : List Int) (a : Int) (e e' s at_ : List Int), AtOk plans at_ → SetN s t.facts → ix at_ p = some a → 0 ≤ a → plan.drop a.toNat = rest → ends t e rest = some e' → (∀ x, safe t plans p x → x ∈ e → x ∈ s) →
      ∃ s', SetN s' t.facts ∧ (∀ m, good t plans gs s' (at_.set p.toNat plan.length) m → good t plans gs s at_ (List.replicate rest.length p ++ m)) ∧ AtOk plans (at_.set p.toNat plan.length) ∧
        (∀ x, safe t plans p x → x ∈ e' → x ∈ s') ∧ (∀ x, (∀ op ∈ plan, x ∉ (opAt t op).del) → x ∈ s → x ∈ s')
  | [], a, e, e', s, at_, hA, hs, ha, a0, hd, he, hr => by
    have hlo := ix_lo ha
    have hrg := hA.rng p plan a hl ha
    have hae : a = plan.length := by
      have := congrArg List.length hd
      simp at this; omega
    have hset : at_.set p.toNat plan.length = at_ := by
      rw [← hae]
      refine List.ext_getElem? fun i => ?_
      rw [List.getElem?_set]
      split
      · rename_i h; subst h
        rw [if_pos (by omega), hlo.2.2]
      · rfl
    cases he
    rw [hset]
    exact ⟨s, hs, fun m h => h, hA, hr, fun x _ h => h⟩
  | op :: rest, a, e, e', s, at_, hA, hs, ha, a0, hd, he, hr => by
    have hlo := ix_lo ha
    have hnx : ix plan a = some op := by
      have : (plan.drop a.toNat)[0]? = some op := by rw [hd]; rfl
      rw [List.getElem?_drop] at this
      simpa [ix, a0] using this
    have hlt := (ix_lo hnx).2.1
    have hmem := ix_mem hnx
    have hn := nxt_of hl ha hnx
    simp only [ends] at he
    split at he
    · rename_i hc
      have hc := dec_true.1 hc
      have hcs : can t s op := fun x hx => hr x (hpre op hmem x hx) (hc x hx)
      have e1 : bump at_ p = at_.set p.toNat (a + 1) := bump_eq ha
      have hd2 : plan.drop (a + 1).toNat = rest := by
        rw [drop_ix hnx] at hd
        exact (List.cons.inj hd).2
      obtain ⟨s', k1, k2, k3, k4, k5⟩ := runParty hop hl hpre hset (gs := gs) rest (a + 1) (aft t e op) e' (aft t s op) (bump at_ p) (hA.bump hn) (setN_aft _ _ _) (by rw [ix_bump ha hlo.1, if_pos rfl]) (by omega) hd2 he (fun x hx h => by
        obtain ⟨x0, x1, h⟩ := mem_setOf.1 h
        refine mem_setOf.2 ⟨x0, x1, ?_⟩
        rcases h with h | h
        · exact .inl h
        · exact .inr ⟨hr x hx h.1, h.2⟩)
      have e2 : (bump at_ p).set p.toNat (plan.length : Int) = at_.set p.toNat plan.length := by rw [e1, List.set_set]
      rw [e2] at k2 k3
      refine ⟨s', k1, fun m h => ⟨op, hn, hcs, k2 m h⟩, k3, k4, fun x hx h => k5 x hx ?_⟩
      have := hs.2 x h
      exact mem_setOf.2 ⟨this.1, this.2, .inr ⟨h, hx op hmem⟩⟩
    · cases he
theorem runAll {t : TTask} {goals plans : List (List Int)} (hp : PartiesOk t goals plans) (hfree : ∀ p q : Int, 0 ≤ p → p < q → q < plans.length → free t plans p q)
    (halone : ∀ p plan g, ix plans p = some plan → ix goals p = some g → ∃ e, ends t t.init plan = some e ∧ ∀ x ∈ g, x ∈ e)
    (hkeep : ∀ p q g l, q ≠ p → ix goals p = some g → ix plans q = some l → ∀ op ∈ l, ∀ x ∈ (opAt t op).del, x ∉ g) : ∃ l, goodT t goals plans l := by
  have ht := hp.task
  have hlen := hp.len
  have hpre : ∀ p plan, ix plans p = some plan → ∀ op ∈ plan, ∀ x ∈ (opAt t op).pre, safe t plans p x := fun p plan hpl op hop x hx q l hq hql op2 hop2 hdel => by
    obtain ⟨p0, p1, _⟩ := ix_lo hpl
    obtain ⟨q0, q1, _⟩ := ix_lo hql
    rcases Int.lt_or_gt_of_ne hq with h | h
    · exact hfree q p q0 h p1 l plan hql hpl op2 hop2 op hop (.inr (.inl ⟨x, hdel, hx⟩))
    · exact hfree p q p0 h q1 plan l hpl hql op hop op2 hop2 (.inr (.inr (.inr (.inl ⟨x, hdel, hx⟩))))
  have key : ∀ k : Nat, k ≤ plans.length → ∃ l s at_, SetN s t.facts ∧ AtOk plans at_ ∧ (∀ m, good t plans (allGoals t goals) s at_ m → goodT t goals plans (l ++ m)) ∧
      (∀ (q : Int) pl a, q < k → ix plans q = some pl → ix at_ q = some a → a = pl.length) ∧ (∀ (q : Int) a, (k : Int) ≤ q → ix at_ q = some a → a = 0) ∧
      (∀ x, (∀ (q : Int) pl, q < k → ix plans q = some pl → ∀ op ∈ pl, x ∉ (opAt t op).del) → x ∈ t.init → x ∈ s) ∧ (∀ (q : Int) g, q < k → ix goals q = some g → ∀ x ∈ g, x ∈ s) := by
    intro k
    induction k with
    | zero =>
      intro _
      exact ⟨[], t.init, List.replicate plans.length 0, ht.init, atOk_zero _, fun m h => h, fun q pl a hq h => by have := (ix_lo h).1; omega, fun q a _ h => ix_replicate h, fun x _ h => h, fun q g hq h => by have := (ix_lo h).1; omega⟩
    | succ k ih =>
      intro hk
      obtain ⟨l, s, at_, g1, g2, g3, g4, g5, g6, g7⟩ := ih (by omega)
      obtain ⟨plan, hpl, _⟩ := ix_of (l := plans) (i := (k : Int)) (by omega) (by omega)
      obtain ⟨g, hg, _⟩ := ix_of (l := goals) (i := (k : Int)) (by omega) (by omega)
      obtain ⟨a, ha, a0, _⟩ := g2.get hpl
      have az : a = 0 := g5 k a (Int.le_refl _) ha
      subst az
      obtain ⟨e, he, heg⟩ := halone k plan g hpl hg
      obtain ⟨s', r1, r2, r3, r4, r5⟩ := runParty (gs := allGoals t goals) hp.op hpl (hpre k plan hpl) (fun op hop => (ht.at (hp.op plan (ix_mem hpl) op hop).1 (hp.op plan (ix_mem hpl) op hop).2).1) plan 0 t.init e s at_ g2 g1 ha (Int.le_refl _) (by simp) he (fun x hx h => g6 x (fun q pl hq hql op hop => hx q pl (by omega) hql op hop) h)
      have hlo := ix_lo ha
      have at' : ∀ (q : Int), 0 ≤ q → ix (at_.set (k : Int).toNat (plan.length : Int)) q = if q = k then some (plan.length : Int) else ix at_ q := fun q q0 => ix_put hlo.1 hlo.2.1 q0
      refine ⟨l ++ List.replicate plan.length (k : Int), s', _, r1, r3, fun m h => ?_, fun q pl a hq hql hqa => ?_, fun q a hq hqa => ?_, fun x hx h => ?_, fun q g' hq hqg x hx => ?_⟩
      · have := g3 _ (r2 m h)
        rwa [List.append_assoc]
      · rw [at' q (ix_lo hql).1] at hqa
        split at hqa
        · rename_i e; subst e
          rw [hpl] at hql; cases hql; cases hqa; rfl
        · exact g4 q pl a (by omega) hql hqa
      · rw [at' q (by omega), if_neg (by omega)] at hqa
        exact g5 q a (by omega) hqa
      · exact r5 x (fun op hop => hx k plan (by omega) hpl op hop) (g6 x (fun q pl hq => hx q pl (by omega)) h)
      · by_cases e : q = k
        · subst e
          rw [hg] at hqg; cases hqg
          exact r4 x (fun q' l' hq' hl' op hop hdel => hkeep k q' g l' hq' hg hl' op hop x hdel hx) (heg x hx)
        · exact r5 x (fun op hop hdel => hkeep q k g' plan (fun h => e h.symm) hqg hpl op hop x hdel hx) (g7 q g' (by omega) hqg x hx)
  obtain ⟨l, s, at_, g1, g2, g3, g4, g5, g6, g7⟩ := key plans.length (Nat.le_refl _)
  refine ⟨l ++ [], g3 [] ⟨fun q pl a hq hqa => g4 q pl a (ix_lo hq).2.1 hq hqa, fun x hx => ?_⟩⟩
  obtain ⟨_, _, g, hg, hxg⟩ := mem_setOf.1 hx
  obtain ⟨i, i0, i1, hi⟩ := mem_ix hg
  exact g7 i g (by omega) hi x hxg
theorem withoutLoop3 {t : TTask} {goals plans : List (List Int)} (hp : PartiesOk t goals plans) {p q : Int} {g l : List Int} (hg : ix goals p = some g) (hl : ix plans q = some l) :
    (Loop (law8_MergingWithoutConflicts_l3 t goals plans p q) 0 = some (.inl ()) ∧ (q ≠ p → ∀ op ∈ l, ∀ x ∈ (opAt t op).del, x ∉ g)) ∨ Loop (law8_MergingWithoutConflicts_l3 t goals plans p q) 0 = some (.inr true) := by
  have h6 := hp.six l (ix_mem hl)
  obtain ⟨o, h1, h2⟩ := Loop_inv (body := law8_MergingWithoutConflicts_l3 t goals plans p q) (fun i => 0 ≤ i ∧ i ≤ l.length ∧ (q ≠ p → ∀ i' op, 0 ≤ i' → i' < i → ix l i' = some op → ∀ x ∈ (opAt t op).del, x ∉ g))
    (fun o => (o = .inl () ∧ (q ≠ p → ∀ op ∈ l, ∀ x ∈ (opAt t op).del, x ∉ g)) ∨ o = .inr true) (fun i => (l.length - i).toNat) (s := 0) ⟨by omega, by omega, fun _ i' op h0 h1 => by omega⟩ (fun i ⟨i0, i1, hP⟩ => by
      unfold law8_MergingWithoutConflicts_l3
      rw [hl]
      simp only [Option.bind_some]
      by_cases ci : i < l.length
      · rw [if_pos ci]
        obtain ⟨op, hop, _⟩ := ix_of (l := l) i0 ci
        have ho := hp.op l (ix_mem hl) op (ix_mem hop)
        simp only [hop, Option.bind_some, ix_op ho.1 ho.2, hg, disjoint_eq, dec_not]
        by_cases cq : q = p
        · rw [if_neg (by simp [cq])]
          simp only [Option.bind_some, Bool.false_eq_true, if_false]
          rw [w64_of (by omega) (by omega)]
          exact .inl ⟨_, rfl, ⟨by omega, by omega, fun h => absurd cq h⟩, by omega⟩
        · rw [if_pos (by simp [cq])]
          simp only [Option.bind_some]
          by_cases cd : ∀ x ∈ (opAt t op).del, x ∉ g
          · rw [ifNN cd, w64_of (by omega) (by omega)]
            refine .inl ⟨_, rfl, ⟨by omega, by omega, fun h i' op' j0 j1 hj => ?_⟩, by omega⟩
            by_cases e : i' = i
            · subst e; rw [hop] at hj; cases hj; exact cd
            · exact hP h i' op' j0 (by omega) hj
          · rw [ifP cd, merged_true]
            exact .inr ⟨_, rfl, .inr rfl⟩
      · rw [if_neg ci]
        refine .inr ⟨_, rfl, .inl ⟨rfl, fun h op hop => ?_⟩⟩
        obtain ⟨i', j0, j1, hj⟩ := mem_ix hop
        exact hP h i' op j0 (by omega) hj)
  rcases h2 with ⟨rfl, h2⟩ | rfl
  · exact .inl ⟨h1, h2⟩
  · exact .inr h1
theorem MergingWithoutConflicts_true (t : TTask) (goals plans : List (List Int)) (hb : plans.length * 24 ≤ 140737488355328) : law8_MergingWithoutConflicts t goals plans = some true := by
  obtain ⟨hm, c, f, h1, h2, h3⟩ := conflicts_eq t plans hb
  obtain ⟨l, ok, g, m1, m2, m3⟩ := merge_eq t goals plans
  unfold law8_MergingWithoutConflicts
  simp only [h1, m1, Option.bind_some]
  by_cases cc : f.code = 0 ∧ g.code = 0 ∧ c = [] ∧ goals.length = plans.length
  · obtain ⟨cf, cg, rfl, cl⟩ := cc
    rw [if_neg (by simp [cf, cg, cl])]
    rcases m3 with ⟨rfl, hp, m3⟩ | ⟨k, _⟩
    · rcases h3 with ⟨_, _, _, hfree⟩ | ⟨k, _⟩
      · have hfree := hfree rfl
        have ht := hp.task
        rcases rngX_inv (body := law8_MergingWithoutConflicts_l1 t goals plans) (n := (plans.length : Int)) (s := ())
          (fun p _ => ∀ p' plan g, p' < p → ix plans p' = some plan → ix goals p' = some g → (∃ e, ends t t.init plan = some e ∧ ∀ x ∈ g, x ∈ e) ∧ ∀ q l, q ≠ p' → ix plans q = some l → ∀ op ∈ l, ∀ x ∈ (opAt t op).del, x ∉ g) (fun o => o = true) (by omega) (fun p' plan g h h' => by have := (ix_lo h').1; omega) (fun p _ p0 p1 hP => by
            obtain ⟨plan, hpl, _⟩ := ix_of (l := plans) p0 p1
            obtain ⟨gp, hg, _⟩ := ix_of (l := goals) (i := p) p0 (by omega)
            unfold law8_MergingWithoutConflicts_l1
            simp only [hpl, hg, Option.bind_some]
            have ht2 : TaskOk ⟨t.facts, t.init, gp, t.operators⟩ := ⟨ht.n0, ht.n1, ht.init, hp.goal gp (ix_mem hg), ht.ops, ht.op⟩
            unfold ref1_Solves
            rw [rWorks_eq ht2 (hp.op plan (ix_mem hpl))]
            simp only [Option.bind_some, dec_not]
            by_cases cw : works ⟨t.facts, t.init, gp, t.operators⟩ t.init plan
            · rw [ifNN cw]
              obtain ⟨e, he, hge⟩ := cw
              rw [ends_goal] at he
              rcases rngX_inv (body := law8_MergingWithoutConflicts_l2 t goals plans p) (n := (plans.length : Int)) (s := ()) (fun q _ => ∀ q' l, q' < q → q' ≠ p → ix plans q' = some l → ∀ op ∈ l, ∀ x ∈ (opAt t op).del, x ∉ gp) (fun o => o = true) (by omega) (fun q' l h _ h' => by have := (ix_lo h').1; omega) (fun q _ q0 q1 hQ => by
                obtain ⟨lq, hlq, _⟩ := ix_of (l := plans) q0 q1
                unfold law8_MergingWithoutConflicts_l2
                rcases withoutLoop3 hp hg hlq with ⟨r1, r2⟩ | r1
                · rw [r1]
                  refine .inl ⟨(), rfl, fun q' l' hq' hne hl' => ?_⟩
                  by_cases e : q' = q
                  · subst e; rw [hlq] at hl'; cases hl'; exact r2 hne
                  · exact hQ q' l' (by omega) hne hl'
                · rw [r1]; exact .inr ⟨true, rfl, rfl⟩) with ⟨_, r1, r2⟩ | ⟨o, r1, rfl⟩
              · rw [r1]
                refine .inl ⟨(), rfl, fun p' plan' g' hp' h h' => ?_⟩
                by_cases ep : p' = p
                · subst ep
                  rw [hpl] at h; cases h
                  rw [hg] at h'; cases h'
                  exact ⟨⟨e, he, hge⟩, fun q l hq hl => r2 q l (ix_lo hl).2.1 hq hl⟩
                · exact hP p' plan' g' (by omega) h h'
              · rw [r1]; exact .inr ⟨true, rfl, rfl⟩
            · rw [ifP cw, merged_true]
              exact .inr ⟨true, rfl, rfl⟩) with ⟨_, r1, r2⟩ | ⟨o, r1, rfl⟩
        · rw [r1]
          simp only [Option.bind_some]
          obtain ⟨l2, hl2⟩ := runAll hp hfree (fun p plan g e1 e2 => (r2 p plan g (ix_lo e1).2.1 e1 e2).1) (fun p q g l hq e1 e2 => by
            obtain ⟨p0, p1, _⟩ := ix_lo e1
            obtain ⟨plan, hpl, _⟩ := ix_of (l := plans) p0 (by omega)
            exact (r2 p plan g (by omega) hpl e1).2 q l hq e2)
          rcases m3 with ⟨rfl, _⟩ | ⟨_, _, k⟩
          · simp [merged_true]
          · exact absurd hl2 (k l2)
        · rw [r1]; rfl
      · exact absurd cf k
    · exact absurd cg k
  · rw [if_pos, merged_true]
    · rfl
    · by_cases e1 : f.code = 0
      · by_cases e2 : g.code = 0
        · by_cases e3 : goals.length = plans.length
          · have : c ≠ [] := fun h => cc ⟨e1, e2, h, e3⟩
            have : 0 < c.length := by cases c with
              | nil => exact absurd rfl this
              | cons a l => simp
            simp [this]
          · have : ¬ (goals.length : Int) = plans.length := by omega
            simp [this]
        · simp [e2]
      · simp [e1]
end Ab
end
