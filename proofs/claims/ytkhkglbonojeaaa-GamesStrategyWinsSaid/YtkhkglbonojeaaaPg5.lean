/-
  GAMES, plainly: the faults are those of the document's answer.
-/
import Derived.Test.YtkhkglbonojeaaaPg4
namespace Ab
open Go

theorem gameFault_eq (gv : TGame) : ref8_GameFault gv = games_Validate gv := by
  unfold ref8_GameFault games_Validate ref1_In ref1_At
  simp only [Option.bind_some]
  by_cases hn : (gv.owner.length : Int) = 0 ∨ 24 < (gv.owner.length : Int)
  · rw [if_pos (by simp; omega), if_pos (c := (decide ((gv.owner.length : Int) = 0) || decide (24 < (gv.owner.length : Int))) = true) (by simpa using hn)]
  · rw [if_neg (by simp; omega), if_neg (c := (decide ((gv.owner.length : Int) = 0) || decide (24 < (gv.owner.length : Int))) = true) (by simpa using hn)]
    by_cases hm : 60 < (gv.arcs.length : Int)
    · rw [if_pos hm, if_pos hm]
    · rw [if_neg hm, if_neg hm]
      obtain ⟨e1, e2, e3⟩ := rngX_eq (b1 := ref8_GameFault_l1 gv) (b2 := games_Validate_l1 gv) (n := (gv.owner.length : Int)) (s := ()) (fun _ _ => True) (by omega) trivial (fun j s h0 h1 _ => by
        unfold ref8_GameFault_l1 games_Validate_l1 ref1_In ref1_At
        simp only [ix_el h0 h1, Option.bind_some]
        by_cases ho : el gv.owner j = 0 ∨ el gv.owner j = 1
        · rw [if_neg (by simp; omega), if_neg (by simp; omega)]
          exact ⟨rfl, by simp, fun _ _ => trivial⟩
        · rw [if_pos (by simp; omega), if_pos (by simp; omega)]
          exact ⟨rfl, by simp, fun _ _ => trivial⟩)
      rw [e1] at e2
      rw [e1]
      cases hc : rngX 0 (gv.owner.length : Int) (games_Validate_l1 gv) () with
      | none => exact absurd hc e2
      | some x =>
        cases x with
        | inr x => rfl
        | inl _ =>
          simp only [Option.bind_some]
          obtain ⟨f1, f2, f3⟩ := rngX_eq (b1 := ref8_GameFault_l2 gv) (b2 := games_Validate_l2 gv) (n := (gv.arcs.length : Int)) (s := ()) (fun k _ => ∀ (i : Nat) a, (i : Int) < k → gv.arcs[i]? = some a → 0 ≤ a.1 ∧ a.1 < gv.owner.length ∧ 0 ≤ a.2 ∧ a.2 < gv.owner.length) (by omega) (fun i a h => by omega) (fun j s h0 h1 hP => by
            obtain ⟨a, ha1, ha2⟩ := ix_of (l := gv.arcs) h0 h1
            unfold ref8_GameFault_l2 games_Validate_l2 ref1_In ref1_At
            simp only [ha1, Option.bind_some]
            by_cases hr : 0 ≤ a.1 ∧ a.1 < gv.owner.length ∧ 0 ≤ a.2 ∧ a.2 < gv.owner.length
            · have c1 : (!(decide (0 ≤ a.1) && decide (a.1 ≤ (gv.owner.length : Int) - 1))) = false := by simp; omega
              have c2 : (!(decide (0 ≤ a.2) && decide (a.2 ≤ (gv.owner.length : Int) - 1))) = false := by simp; omega
              rw [c1, c2]
              simp only [Bool.false_eq_true, if_false, Option.bind_some]
              rw [if_neg (c := (decide (min a.1 a.2 < 0) || decide ((gv.owner.length : Int) ≤ max a.1 a.2)) = true) (by simp; omega)]
              have hP1 : ∀ (i : Nat) b, (i : Int) < j + 1 → gv.arcs[i]? = some b → 0 ≤ b.1 ∧ b.1 < gv.owner.length ∧ 0 ≤ b.2 ∧ b.2 < gv.owner.length := fun i b hi hb => by
                by_cases hij : (i : Int) < j
                · exact hP i b hij hb
                · have : i = j.toNat := by omega
                  subst this
                  rw [ha2] at hb; cases hb
                  exact hr
              by_cases hj : 0 < j
              · obtain ⟨b, hb1, hb2⟩ := ix_of (l := gv.arcs) (i := j - 1) (by omega) (by omega)
                obtain ⟨r1, r2, r3, r4⟩ := hP (j - 1).toNat b (by omega) hb2
                have w1 : w64 (100 * a.1) = 100 * a.1 := w64_of (by omega) (by omega)
                have w2 : w64 (100 * a.1 + a.2) = 100 * a.1 + a.2 := w64_of (by omega) (by omega)
                have w3 : w64 (100 * b.1) = 100 * b.1 := w64_of (by omega) (by omega)
                have w4 : w64 (100 * b.1 + b.2) = 100 * b.1 + b.2 := w64_of (by omega) (by omega)
                rw [if_pos hj, if_pos hj, hb1]
                simp only [Option.bind_some, compare2, w1, w2, w3, w4]
                by_cases hlt : b.1 < a.1 ∨ b.1 = a.1 ∧ b.2 < a.2
                · rw [if_neg (by simp; omega), if_neg (by
                    simp only [decide_eq_true_eq]
                    split
                    · omega
                    · split
                      · omega
                      · split <;> omega)]
                  exact ⟨rfl, by simp, fun _ _ => hP1⟩
                · rw [if_pos (by simp; omega), if_pos (by
                    simp only [decide_eq_true_eq]
                    split
                    · omega
                    · split
                      · omega
                      · split
                        · omega
                        · split <;> omega)]
                  exact ⟨rfl, by simp, fun _ h => by simp at h⟩
              · rw [if_neg hj, if_neg hj]
                exact ⟨rfl, by simp, fun _ _ => hP1⟩
            · rw [if_pos (c := (decide (min a.1 a.2 < 0) || decide ((gv.owner.length : Int) ≤ max a.1 a.2)) = true) (by simp; omega)]
              by_cases hr1 : 0 ≤ a.1 ∧ a.1 < gv.owner.length
              · have c1 : (!(decide (0 ≤ a.1) && decide (a.1 ≤ (gv.owner.length : Int) - 1))) = false := by simp; omega
                have c2 : (!(decide (0 ≤ a.2) && decide (a.2 ≤ (gv.owner.length : Int) - 1))) = true := by simp; omega
                rw [c1, c2]
                exact ⟨rfl, by simp, fun _ h => by simp at h⟩
              · have c1 : (!(decide (0 ≤ a.1) && decide (a.1 ≤ (gv.owner.length : Int) - 1))) = true := by simp; omega
                rw [c1]
                exact ⟨rfl, by simp, fun _ h => by simp at h⟩)
          rw [f1]

/-- A loop of the document's answer is the loop of check. -/
theorem faultLoop (gv : TGame) (hV : Valid gv) (l : List Int) : ∀ (d : Nat) (i : Int), 0 ≤ i → i ≤ l.length → d = ((l.length : Int) - i).toNat → (i = 0 ∨ ∃ b, ix l (i - 1) = some b ∧ i - 1 ≤ b ∧ b < gv.owner.length) →
    ∃ o, rngN (games_check_l1 gv l) d i () = some o ∧ Loop (ref8_PlayerFault_l1 gv l) (0, 0, i) = some (match o with | .inl _ => (0, 0) | .inr x => (x.code, x.index))
  | 0, i, h0, h1, hd, _ => by
    refine ⟨.inl (), rfl, ?_⟩
    rw [Loop_eq]
    have : ref8_PlayerFault_l1 gv l (0, 0, i) = some (.inr (0, 0)) := by
      unfold ref8_PlayerFault_l1
      dsimp only
      rw [if_neg (by simp; omega)]
    rw [this]
  | d + 1, i, h0, h1, hd, hi => by
    have hn2 := hV.n2
    have hil : i < l.length := by omega
    obtain ⟨a, ha1, ha2⟩ := ix_of (l := l) h0 hil
    have hi24 : i ≤ 24 := by
      rcases hi with hi | ⟨b, _, hb1, hb2⟩ <;> omega
    have w1 : w64 (i + 1) = i + 1 := w64_of (by omega) (by omega)
    have w2 : w64 ((gv.owner.length : Int) - 1) = gv.owner.length - 1 := w64_of (by omega) (by omega)
    have w3 : w64 (i - 1) = i - 1 := w64_of (by omega) (by omega)
    have stop : ∀ c c' k : Int, c ≠ 0 → Loop (ref8_PlayerFault_l1 gv l) (c, c', k) = some (c, c') := fun c c' k hc => by
      rw [Loop_eq]
      have : ref8_PlayerFault_l1 gv l (c, c', k) = some (.inr (c, c')) := by
        unfold ref8_PlayerFault_l1
        dsimp only
        rw [if_neg (by simp [hc])]
      rw [this]
    have body : ∀ x : Int × Int, (∃ y, ref8_PlayerFault_l1 gv l (0, 0, i) = some (.inl y) ∧ y = (x.1, x.2, i + 1)) → Loop (ref8_PlayerFault_l1 gv l) (0, 0, i) = Loop (ref8_PlayerFault_l1 gv l) (x.1, x.2, i + 1) := fun x ⟨y, hy, e⟩ => by
      rw [Loop_eq, hy, e]
    by_cases hr : 0 ≤ a ∧ a < gv.owner.length
    · have c1 : (!(decide (0 ≤ a) && decide (a ≤ (gv.owner.length : Int) - 1))) = false := by simp; omega
      have c2 : ¬ ((decide (a < 0) || decide ((gv.owner.length : Int) ≤ a)) = true) := by simp; omega
      by_cases hj : 0 < i
      · rcases hi with hi | ⟨b, hb, hb1, hb2⟩
        · omega
        · by_cases hab : a ≤ b
          · refine ⟨.inr ⟨5, -31⟩, ?_, ?_⟩
            · simp only [rngN]
              unfold games_check_l1
              simp only [ha1, Option.bind_some, hb]
              rw [if_neg c2, if_pos hj]
              simp [hab]
            · rw [body (5, -31) ⟨_, by
                unfold ref8_PlayerFault_l1 ref1_In ref1_At
                dsimp only
                rw [if_pos (by simp; omega)]
                simp only [ha1, Option.bind_some, w1, w2, w3, c1, hb]
                simp [hj, hab]
                first | done | rfl, rfl⟩]
              exact stop 5 (-31) (i + 1) (by omega)
          · obtain ⟨o, g1, g2⟩ := faultLoop gv hV l d (i + 1) (by omega) (by omega) (by omega) (.inr ⟨a, by rw [show i + 1 - 1 = i by omega]; exact ha1, by omega, hr.2⟩)
            refine ⟨o, ?_, ?_⟩
            · simp only [rngN]
              unfold games_check_l1
              simp only [ha1, Option.bind_some, hb]
              rw [if_neg c2, if_pos hj]
              simp only [hab, decide_false, Bool.false_eq_true, if_false, Option.bind_some]
              exact g1
            · rw [body (0, 0) ⟨_, by
                unfold ref8_PlayerFault_l1 ref1_In ref1_At
                dsimp only
                rw [if_pos (by simp; omega)]
                simp only [ha1, Option.bind_some, w1, w2, w3, c1, hb]
                simp [hj, hab]
                first | done | rfl, rfl⟩]
              exact g2
      · clear hi
        obtain ⟨o, g1, g2⟩ := faultLoop gv hV l d (i + 1) (by omega) (by omega) (by omega) (.inr ⟨a, by rw [show i + 1 - 1 = i by omega]; exact ha1, by omega, hr.2⟩)
        refine ⟨o, ?_, ?_⟩
        · simp only [rngN]
          unfold games_check_l1
          simp only [ha1, Option.bind_some]
          rw [if_neg c2, if_neg hj]
          simp only [Bool.false_eq_true, if_false, Option.bind_some]
          exact g1
        · rw [body (0, 0) ⟨_, by
            unfold ref8_PlayerFault_l1 ref1_In ref1_At
            dsimp only
            rw [if_pos (by simp; omega)]
            simp only [ha1, Option.bind_some, w1, w2, w3, c1]
            simp [hj]
            first | done | rfl, rfl⟩]
          exact g2
    · refine ⟨.inr ⟨3, -31⟩, ?_, ?_⟩
      · simp only [rngN]
        unfold games_check_l1
        simp only [ha1, Option.bind_some]
        rw [if_pos (by simp; omega)]
      · have c1 : (!(decide (0 ≤ a) && decide (a ≤ (gv.owner.length : Int) - 1))) = true := by simp; omega
        rw [body (3, -31) ⟨_, by
          unfold ref8_PlayerFault_l1 ref1_In ref1_At
          dsimp only
          rw [if_pos (by simp; omega)]
          simp only [ha1, Option.bind_some, w1, w2, w3, c1]
          rfl, rfl⟩]
        exact stop 3 (-31) (i + 1) (by omega)

theorem playerFault_eq (gv : TGame) (player : Int) (l : List Int) : ref8_PlayerFault gv player l = games_check gv player l := by
  unfold ref8_PlayerFault games_check ref1_In ref1_At
  rw [gameFault_eq]
  obtain ⟨f, h1, h2⟩ := validate_spec gv
  have stop : ∀ c c' k : Int, c ≠ 0 → Loop (ref8_PlayerFault_l1 gv l) (c, c', k) = some (c, c') := fun c c' k hc => by
    rw [Loop_eq]
    have : ref8_PlayerFault_l1 gv l (c, c', k) = some (.inr (c, c')) := by
      unfold ref8_PlayerFault_l1
      dsimp only
      rw [if_neg (by simp [hc])]
    rw [this]
  rw [h1]
  simp only [Option.bind_some]
  rcases h2 with ⟨rfl, hV⟩ | hf
  · simp only [decide_true, Bool.and_self, Bool.not_true, Bool.false_eq_true, if_false, if_true]
    by_cases hp : player = 0 ∨ player = 1
    · have c1 : (!(decide (0 ≤ player) && decide (player ≤ 1))) = false := by simp; omega
      obtain ⟨o, g1, g2⟩ := faultLoop gv hV l l.length 0 (by omega) (by omega) (by omega) (.inl rfl)
      have g3 : rngX 0 (l.length : Int) (games_check_l1 gv l) () = some o := by
        unfold rngX
        rw [show ((l.length : Int) - 0).toNat = l.length by omega]; exact g1
      rw [if_neg (c := (!decide (player = 0) && !decide (player = 1)) = true) (by simp; omega), g3]
      simp only [c1, Option.bind_some, Bool.false_eq_true, if_false]
      rw [g2]
      cases o <;> rfl
    · have c1 : (!(decide (0 ≤ player) && decide (player ≤ 1))) = true := by simp; omega
      rw [if_pos (c := (!decide (player = 0) && !decide (player = 1)) = true) (by simp; omega)]
      simp only [c1, if_true, Option.bind_some]
      rw [stop 3 (-30) 0 (by omega)]; rfl
  · rw [if_neg hf, if_pos (c := (!(decide (f.code = 0) && decide (f.index = 0))) = true) (by simp; omega)]
    simp only [Option.bind_some, Bool.false_eq_true, if_false]
    rw [stop f.code f.index 0 hf]; rfl
end Ab
