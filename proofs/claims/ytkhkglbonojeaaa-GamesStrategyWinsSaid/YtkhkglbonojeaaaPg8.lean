/-
  GAMES, plainly: Play, and games that follow the strategy.
-/
import Derived.Test.YtkhkglbonojeaaaPg7
namespace Ab
open Go

theorem contains_spec (l : List (Int × Int)) (v : Int × Int) : slices_Contains_2_int_2_int l v = some (decide (v ∈ l)) := by
  unfold slices_Contains_2_int_2_int slices_Index_2_int_2_int
  refine Or.elim (rngX_inv (body := slices_Index_2_int_2_int_l1 l v) (n := (l.length : Int)) (s := ()) (fun k _ => ∀ (i : Nat), (i : Int) < k → l[i]? ≠ some v) (fun o => 0 ≤ o ∧ v ∈ l) (by omega) (fun i h => by omega) (fun j s h0 h1 hP => ?_)) (fun ⟨s', h1, h2⟩ => ?_) (fun ⟨o, h1, h2⟩ => ?_)
  · obtain ⟨a, ha1, ha2⟩ := ix_of (l := l) h0 h1
    unfold slices_Index_2_int_2_int_l1
    simp only [ha1, Option.bind_some]
    by_cases han : v = a
    · exact .inr ⟨j, by rw [if_pos (by rw [han]; simp)], h0, by rw [han]; exact List.mem_of_getElem? ha2⟩
    · refine .inl ⟨(), ?_, fun i hi => ?_⟩
      · rw [if_neg]
        simp only [Bool.and_eq_true, decide_eq_true_eq]
        intro h
        exact han (Prod.ext h.1 h.2)
      · by_cases hij : (i : Int) < j
        · exact hP i hij
        · have : i = j.toNat := by omega
          subst this
          rw [ha2]
          intro e
          exact han (Option.some.inj e).symm
  · rw [h1]
    have : v ∉ l := fun hm => by
      obtain ⟨i, hi⟩ := List.getElem?_of_mem hm
      exact h2 i (by have := (List.getElem?_eq_some_iff.1 hi).1; omega) hi
    simp [this]
  · rw [h1]
    simp [h2.1, h2.2]

/-- A position's next one is none, or a move. -/
def NextOk (gv : TGame) (next : List Int) (j : Int) : Prop := el next j = -1 ∨ (j, el next j) ∈ gv.arcs
instance (gv : TGame) (next : List Int) (j : Int) : Decidable (NextOk gv next j) := by unfold NextOk; infer_instance

theorem there_spec {gv : TGame} {next : List Int} {p : Int} (h0 : 0 ≤ p) (h1 : p < next.length) (b : Bool) : forR 0 (gv.arcs.length : Int) (law8_GamesPlayMatchesSpec_l2 gv next p) b = some (b || decide ((p, el next p) ∈ gv.arcs)) := by
  obtain ⟨b', k1, k2⟩ := forR_inv (body := law8_GamesPlayMatchesSpec_l2 gv next p) (n := (gv.arcs.length : Int)) (s := b) (fun k s => s = (b || decide ((p, el next p) ∈ gv.arcs.take k.toNat))) (by omega) (by simp)
    (fun j s g0 g1 hs => by
      obtain ⟨a, ha1, ha2⟩ := ix_of (l := gv.arcs) g0 g1
      have htk : gv.arcs.take (j + 1).toNat = gv.arcs.take j.toNat ++ [a] := by
        rw [show (j + 1).toNat = j.toNat + 1 by omega, List.take_add_one, ha2]; rfl
      unfold law8_GamesPlayMatchesSpec_l2
      simp only [ha1, ix_el h0 h1, Option.bind_some, htk]
      cases s with
      | true =>
        refine ⟨true, rfl, ?_⟩
        rw [eq_comm, Bool.or_eq_true] at hs ⊢
        rcases hs with hs | hs
        · exact .inl hs
        · right; simp only [decide_eq_true_eq, List.mem_append] at hs ⊢; exact .inl hs
      | false =>
        rw [eq_comm, Bool.or_eq_false_iff] at hs
        refine ⟨_, rfl, ?_⟩
        rw [hs.1, Bool.false_or]
        have h2 : (p, el next p) ∉ gv.arcs.take j.toNat := by simpa using hs.2
        by_cases ha : a = (p, el next p)
        · subst ha; simp
        · have e1 : (decide (a.1 = p) && decide (a.2 = el next p)) = false := by
            rw [Bool.and_eq_false_iff]
            by_cases h3 : a.1 = p
            · right
              simp only [decide_eq_false_iff_not]
              intro h4; exact ha (Prod.ext h3 h4)
            · left; simpa using h3
          have e2 : (p, el next p) ≠ a := fun e => ha e.symm
          rw [e1, eq_comm]
          simp only [decide_eq_false_iff_not, List.mem_append, List.mem_singleton, not_or]
          exact ⟨h2, e2⟩)
  rw [k1, k2, List.take_of_length_le (by omega)]

theorem playLoop (gv : TGame) (next : List Int) (hn : next.length ≤ 24) : ∀ (d : Nat) (i : Int), 0 ≤ i → i ≤ next.length → d = ((next.length : Int) - i).toNat →
    ∃ o, rngN (games_Play_l1 gv next) d i () = some o ∧ Loop (law8_GamesPlayMatchesSpec_l1 gv next) (0, 0, i) = some (match o with | .inl _ => (0, 0) | .inr x => (x.2.code, x.2.index)) ∧
      (match o with | .inl _ => ∀ j : Int, i ≤ j → j < next.length → NextOk gv next j | .inr x => x.1 = [] ∧ x.2.code = 6)
  | 0, i, h0, h1, hd => by
    refine ⟨.inl (), rfl, ?_, fun j g0 g1 => by omega⟩
    rw [Loop_eq]
    have : law8_GamesPlayMatchesSpec_l1 gv next (0, 0, i) = some (.inr (0, 0)) := by
      unfold law8_GamesPlayMatchesSpec_l1
      dsimp only
      rw [if_neg (by simp; omega)]
    rw [this]
  | d + 1, i, h0, h1, hd => by
    have hil : i < next.length := by omega
    have w1 : w64 (i + 1) = i + 1 := w64_of (by omega) (by omega)
    have hb1 : games_Play_l1 gv next i () = if NextOk gv next i then some (.inl ()) else some (.inr ([], ⟨6, w64 ((-31) - i)⟩)) := by
      unfold games_Play_l1
      simp only [ix_el h0 hil, Option.bind_some, contains_spec]
      by_cases g1 : el next i = -1
      · rw [if_pos (c := NextOk gv next i) (.inl g1)]; simp [g1]
      · by_cases g2 : (i, el next i) ∈ gv.arcs
        · rw [if_pos (c := NextOk gv next i) (.inr g2)]; simp [g1, g2]
        · rw [if_neg (c := NextOk gv next i) (by unfold NextOk; simp [g1, g2])]; simp [g1, g2]
    have hb2 : law8_GamesPlayMatchesSpec_l1 gv next (0, 0, i) = some (.inl (if NextOk gv next i then (0, 0, i + 1) else (6, w64 ((-31) - i), i + 1))) := by
      unfold law8_GamesPlayMatchesSpec_l1 ref1_At
      dsimp only
      rw [if_pos (by simp; omega)]
      simp only [ix_el h0 hil, Option.bind_some, there_spec h0 hil, w1]
      by_cases g1 : el next i = -1
      · rw [if_pos (c := NextOk gv next i) (.inl g1)]; simp [g1]
      · by_cases g2 : (i, el next i) ∈ gv.arcs
        · rw [if_pos (c := NextOk gv next i) (.inr g2)]; simp [g1, g2]
        · rw [if_neg (c := NextOk gv next i) (by unfold NextOk; simp [g1, g2])]; simp [g1, g2]
    by_cases hok : NextOk gv next i
    · rw [if_pos hok] at hb1 hb2
      obtain ⟨o, g1, g2, g3⟩ := playLoop gv next hn d (i + 1) (by omega) (by omega) (by omega)
      refine ⟨o, by simp only [rngN, hb1]; exact g1, by rw [Loop_eq, hb2]; exact g2, ?_⟩
      cases o with
      | inl u =>
        intro j k0 k1
        by_cases hji : j = i
        · rw [hji]; exact hok
        · exact g3 j (by omega) k1
      | inr x => exact g3
    · rw [if_neg hok] at hb1 hb2
      refine ⟨.inr ([], ⟨6, w64 ((-31) - i)⟩), by simp only [rngN, hb1], ?_, rfl, rfl⟩
      rw [Loop_eq, hb2]
      dsimp only
      rw [Loop_eq]
      have : law8_GamesPlayMatchesSpec_l1 gv next (6, w64 ((-31) - i), i + 1) = some (.inr (6, w64 ((-31) - i))) := by
        unfold law8_GamesPlayMatchesSpec_l1
        dsimp only
        rw [if_neg (by simp)]
      rw [this]

/-- The two ways of following. -/
theorem followLoop {gv : TGame} (hV : Valid gv) {next : List Int} {steps : Int} (hl : next.length = gv.owner.length) (hok : ∀ j : Int, 0 ≤ j → j < next.length → NextOk gv next j) (hs : steps ≤ 60) :
    ∀ (k : Nat) (c : List Int) (p : Int), (c.length : Int) + k = steps + 1 → 0 < c.length → ix c ((c.length : Int) - 1) = some p → 0 ≤ p → p < next.length →
    ∃ r, Loop (games_Play_l2 next steps) (c, p) = some r ∧ Loop (law8_GamesPlayMatchesSpec_l3 next steps) c = some r
  | 0, c, p, hk, hc, hlast, h0, h1 => by
    have e1 : games_Play_l2 next steps (c, p) = some (.inr c) := by
      unfold games_Play_l2
      simp only [ix_el h0 h1, Option.bind_some]
      rw [if_neg (by simp; omega)]
    have e2 : law8_GamesPlayMatchesSpec_l3 next steps c = some (.inr c) := by
      unfold law8_GamesPlayMatchesSpec_l3
      rw [if_neg (by omega)]; rfl
    exact ⟨c, by rw [Loop_eq, e1], by rw [Loop_eq, e2]⟩
  | k + 1, c, p, hk, hc, hlast, h0, h1 => by
    by_cases hp : 0 ≤ el next p
    · have hrng : el next p < next.length := by
        rcases hok p h0 h1 with g | g
        · omega
        · have := hV.arc _ g; omega
      have happ : app 8 c [el next p] = some (c ++ [el next p]) := by
        unfold app; rw [if_pos (by simp only [List.length_cons, List.length_nil]; omega)]
      obtain ⟨r, g1, g2⟩ := followLoop hV hl hok hs k (c ++ [el next p]) (el next p) (by simp; omega) (by simp) (by
        simp only [List.length_append, List.length_cons, List.length_nil]
        rw [ix_eq (by omega), List.getElem?_append_right (by omega), show ((c.length + (0 + 1) : Nat) - 1 : Int).toNat - c.length = 0 by omega]; rfl) hp hrng
      have e1 : games_Play_l2 next steps (c, p) = some (.inl (c ++ [el next p], el next p)) := by
        unfold games_Play_l2
        simp only [ix_el h0 h1, Option.bind_some, happ]
        rw [if_pos (by simp; omega)]
      have e2 : law8_GamesPlayMatchesSpec_l3 next steps c = some (.inl (c ++ [el next p])) := by
        unfold law8_GamesPlayMatchesSpec_l3
        rw [if_pos (by omega)]
        simp only [hlast, ix_el h0 h1, Option.bind_some, happ]
        simp [hp]
      exact ⟨r, by rw [Loop_eq, e1]; exact g1, by rw [Loop_eq, e2]; exact g2⟩
    · have e1 : games_Play_l2 next steps (c, p) = some (.inr c) := by
        unfold games_Play_l2
        simp only [ix_el h0 h1, Option.bind_some]
        rw [if_neg (by simp; omega)]
      have e2 : law8_GamesPlayMatchesSpec_l3 next steps c = some (.inr c) := by
        unfold law8_GamesPlayMatchesSpec_l3
        rw [if_pos (by omega)]
        simp only [hlast, ix_el h0 h1, Option.bind_some]
        simp [hp]
      exact ⟨c, by rw [Loop_eq, e1], by rw [Loop_eq, e2]⟩

theorem playStop (gv : TGame) (next : List Int) (c c' k : Int) (hc : c ≠ 0) : Loop (law8_GamesPlayMatchesSpec_l1 gv next) (c, c', k) = some (c, c') := by
  rw [Loop_eq]
  have : law8_GamesPlayMatchesSpec_l1 gv next (c, c', k) = some (.inr (c, c')) := by
    unfold law8_GamesPlayMatchesSpec_l1
    dsimp only
    rw [if_neg (by simp [hc])]
  rw [this]

/-- Play returns the positions that follow each other. -/
theorem GamesPlayMatchesSpec_true (gv : TGame) (next : List Int) (start steps : Int) : law8_GamesPlayMatchesSpec gv next start steps = some true := by
  unfold law8_GamesPlayMatchesSpec games_Play
  obtain ⟨f, v1, v2⟩ := validate_spec gv
  simp only [gameFault_eq, v1, Option.bind_some, forced_true, ref1_In, ref1_At]
  rcases v2 with ⟨rfl, hV⟩ | hf
  · have hn2 := hV.n2
    simp only [decide_true, Bool.and_self, Bool.not_true, Bool.false_eq_true, if_false, Bool.true_and]
    by_cases hl : (next.length : Int) = gv.owner.length
    · have hl' : next.length = gv.owner.length := by omega
      obtain ⟨o, g1, g2, g3⟩ := playLoop gv next (by omega) next.length 0 (by omega) (by omega) (by omega)
      have g4 : rngX 0 (next.length : Int) (games_Play_l1 gv next) () = some o := by
        unfold rngX; rw [show ((next.length : Int) - 0).toNat = next.length by omega]; exact g1
      rw [if_pos hl, g4]
      simp only [hl, decide_true, Bool.not_true, Bool.false_eq_true, if_false, Option.bind_some]
      rw [g2]
      cases o with
      | inr x =>
        obtain ⟨g5, g6⟩ := g3
        simp only [Option.bind_some, g6, g5]
        simp
      | inl u =>
        simp only [Option.bind_some, if_true]
        by_cases hst : start < 0 ∨ (gv.owner.length : Int) ≤ start
        · have c1 : (!(decide (0 ≤ start) && decide (start ≤ (gv.owner.length : Int) - 1))) = true := by simp; omega
          have c2 : (decide (start < 0) || decide ((gv.owner.length : Int) ≤ start)) = true := by simpa using hst
          simp only [c1, c2, if_true, Option.bind_some]
          simp
        · have c1 : (!(decide (0 ≤ start) && decide (start ≤ (gv.owner.length : Int) - 1))) = false := by simp; omega
          have c2 : (decide (start < 0) || decide ((gv.owner.length : Int) ≤ start)) = false := by simp; omega
          simp only [c1, c2, if_true, if_false, Bool.false_eq_true, Option.bind_some]
          by_cases hsp : steps < 0 ∨ 60 < steps
          · have c3 : (!(decide (0 ≤ steps) && decide (steps ≤ 60))) = true := by simp; omega
            have c4 : (decide (steps < 0) || decide (60 < steps)) = true := by simpa using hsp
            simp only [c3, c4, if_true, Option.bind_some]
            simp
          · have c3 : (!(decide (0 ≤ steps) && decide (steps ≤ 60))) = false := by simp; omega
            have c4 : (decide (steps < 0) || decide (60 < steps)) = false := by simp; omega
            obtain ⟨r, r1, r2⟩ := followLoop hV (steps := steps) hl' g3 (by omega) steps.toNat [start] start (by simp; omega) (by simp) rfl (by omega) (by omega)
            simp only [c3, c4, if_true, if_false, Bool.false_eq_true, Option.bind_some, r1, r2, equal_self]
    · rw [if_neg hl]
      simp only [hl, decide_false, Bool.not_false, if_true, Option.bind_some]
      rw [playStop gv next 9 (-30) 0 (by omega)]
      simp
  · have c1 : (!(decide (f.code = 0) && decide (f.index = 0))) = true := by simp; omega
    have c2 : decide (f.code = 0) = false := by simpa using hf
    simp only [c1, c2, if_true, Option.bind_some, Bool.false_and, Bool.false_eq_true, if_false]
    rw [playStop gv next f.code f.index 0 hf]
    simp [hf]

theorem valid_of_check {gv : TGame} {player : Int} {T : List Int} (h : games_check gv player T = some ⟨0, 0⟩) : games_Validate gv = some ⟨0, 0⟩ := by
  obtain ⟨f, v1, v2⟩ := validate_spec gv
  rcases v2 with ⟨rfl, _⟩ | hf
  · exact v1
  · unfold games_check at h
    rw [v1] at h
    simp only [Option.bind_some] at h
    rw [if_pos (by simp; omega)] at h
    rw [Option.some.inj h] at hf
    exact absurd rfl hf

/-- What Play returns in a valid game from a position, within a number of steps. -/
theorem play_spec {gv : TGame} (hv : games_Validate gv = some ⟨0, 0⟩) (hV : Valid gv) {next : List Int} {start steps : Int} (hl : next.length = gv.owner.length) (h0 : 0 ≤ start) (h1 : start < gv.owner.length) (hs0 : 0 ≤ steps) (hs1 : steps ≤ 60) :
    (∃ r x, games_Play gv next start steps = some (r, ⟨6, x⟩)) ∨ ((∀ j : Int, 0 ≤ j → j < next.length → NextOk gv next j) ∧ games_Play gv next start steps = Option.bind (Loop (games_Play_l2 next steps) ([start], start)) fun r => some (r, ⟨0, 0⟩)) := by
  have hn2 := hV.n2
  obtain ⟨o, g1, g2, g3⟩ := playLoop gv next (by omega) next.length 0 (by omega) (by omega) (by omega)
  have g4 : rngX 0 (next.length : Int) (games_Play_l1 gv next) () = some o := by
    unfold rngX; rw [show ((next.length : Int) - 0).toNat = next.length by omega]; exact g1
  unfold games_Play
  simp only [hv, Option.bind_some]
  rw [if_neg (by simp), if_pos (by omega), g4]
  cases o with
  | inr x =>
    left
    obtain ⟨x1, ⟨c, i⟩⟩ := x
    obtain ⟨_, g6⟩ := g3
    simp only at g6
    exact ⟨x1, i, by rw [g6]; rfl⟩
  | inl u =>
    right
    refine ⟨g3, ?_⟩
    simp only [Option.bind_some]
    rw [if_neg (by simp; omega), if_neg (by simp; omega)]

/-- Following the strategy, whatever the other player does, the game reaches a target within the number of moves that the rank promises. -/
theorem GamesStrategyWins_true (gv : TGame) (player : Int) (T other : List Int) (start : Int) : law8_GamesStrategyWins gv player T other start = some true := by
  unfold law8_GamesStrategyWins
  obtain ⟨R, f1, a1, a2⟩ := attractor_spec gv player T
  obtain ⟨N, f2, b1, b2⟩ := strategy_spec gv player T
  simp only [a1, b1, Option.bind_some, forced_true, ref1_In]
  rcases a2 with ⟨hf, _⟩ | ⟨rfl, hck, hV, hp, hT, hR⟩
  · simp [hf]
  rcases b2 with ⟨hf, _⟩ | ⟨rfl, _, _, _, _, R2, hR2, hN, hbest⟩
  · simp [hf]
  have hRR := hR2.eq hV hR
  subst hRR
  by_cases hol : (other.length : Int) = gv.owner.length
  · by_cases hst : 0 ≤ start ∧ start < gv.owner.length
    · have hRl : (R2.length : Int) = gv.owner.length := by rw [hR.len]
      have hNl : (N.length : Int) = gv.owner.length := by rw [hN]
      have c1 : (!(decide (0 ≤ start) && decide (start ≤ (gv.owner.length : Int) - 1))) = false := by simp; omega
      simp only [hol, hRl, hNl, c1, decide_true, Bool.not_true, Bool.false_eq_true, if_false, Option.bind_some, Bool.or_self]
      have hn2 := hV.n2
      refine Or.elim (rngX_inv (body := law8_GamesStrategyWins_l1 gv player T other (R2, ⟨0, 0⟩) (N, ⟨0, 0⟩)) (n := (gv.owner.length : Int)) (s := ([] : List Int))
        (fun j c => (c.length : Int) = j ∧ ∀ p : Int, 0 ≤ p → p < j → ((el gv.owner p = player ∨ p ∈ T) → el c p = el N p) ∧ (¬ (el gv.owner p = player ∨ p ∈ T) → el c p = el other p ∧ (0 < el R2 p → 0 ≤ el other p))) (fun o => o = true) (by omega) ⟨by simp, fun p h0 h1 => by omega⟩ (fun j c h0 h1 ⟨hl, hc⟩ => ?_)) (fun ⟨c, k1, k2, k3⟩ => ?_) (fun ⟨o, k1, k2⟩ => ?_)
      · have hjN : j < (N.length : Int) := by omega
        have hjO : j < (other.length : Int) := by omega
        have hjR : j < (R2.length : Int) := by omega
        have happ : ∀ b, app 8 c [b] = some (c ++ [b]) := fun b => by
          unfold app; rw [if_pos (by simp only [List.length_cons, List.length_nil]; omega)]
        have hnext : ∀ b : Int, (((el gv.owner j = player ∨ j ∈ T) → b = el N j) ∧ (¬ (el gv.owner j = player ∨ j ∈ T) → b = el other j ∧ (0 < el R2 j → 0 ≤ el other j))) →
            (((c ++ [b]).length : Int) = j + 1 ∧ ∀ p : Int, 0 ≤ p → p < j + 1 → ((el gv.owner p = player ∨ p ∈ T) → el (c ++ [b]) p = el N p) ∧ (¬ (el gv.owner p = player ∨ p ∈ T) → el (c ++ [b]) p = el other p ∧ (0 < el R2 p → 0 ≤ el other p))) := fun b hb => by
          refine ⟨by simp; omega, fun p g0 g1 => ?_⟩
          have hap := el_app (l := c) (b := b) g0
          by_cases hpj : p < j
          · rw [hap.1 (by omega)]; exact hc p g0 hpj
          · have : p = j := by omega
            subst this
            rw [hap.2 (by omega)]; exact hb
        unfold law8_GamesStrategyWins_l1
        simp only [ix_el h0 h1, ix_el h0 hjN, ix_el h0 hjO, ix_el h0 hjR, has_spec, Option.bind_some, happ, forced_true]
        by_cases ho : el gv.owner j = player
        · exact .inl ⟨c ++ [el N j], by simp [ho], hnext (el N j) ⟨fun _ => rfl, fun h => absurd (.inl ho) h⟩⟩
        · by_cases hjT : j ∈ T
          · have hz := hR.tgt j h0 h1 hjT
            exact .inl ⟨c ++ [el N j], by simp [ho, hjT, hz], hnext (el N j) ⟨fun _ => rfl, fun h => absurd (.inr hjT) h⟩⟩
          · by_cases hr : 0 < el R2 j
            · by_cases hx : el other j < 0
              · exact .inr ⟨true, by simp [ho, hjT, hr, hx], rfl⟩
              · exact .inl ⟨c ++ [el other j], by simp [ho, hjT, hr, hx], hnext (el other j) ⟨fun h => by rcases h with h | h; exact absurd h ho; exact absurd h hjT, fun _ => ⟨rfl, fun _ => by omega⟩⟩⟩
            · exact .inl ⟨c ++ [el other j], by simp [ho, hjT, hr], hnext (el other j) ⟨fun h => by rcases h with h | h; exact absurd h ho; exact absurd h hjT, fun _ => ⟨rfl, fun h => absurd h hr⟩⟩⟩
      · rw [k1]
        simp only [Option.bind_some]
        have hsR : start < (R2.length : Int) := by omega
        rw [ix_el hst.1 hsR]
        simp only [Option.bind_some]
        by_cases hneg : el R2 start < 0
        · rw [if_pos hneg]
        · rw [if_neg hneg]
          have hbd := hR.bound hV hst.1 hst.2
          have hcl : c.length = gv.owner.length := by omega
          rcases play_spec (valid_of_check hck) hV (next := c) (start := start) (steps := el R2 start) hcl hst.1 hst.2 (by omega) (by omega) with ⟨r, x, hpl⟩ | ⟨hok, hpl⟩
          · rw [hpl]; simp
          · obtain ⟨r, r1, r2, q, r3, r4⟩ := Loop_inv (body := games_Play_l2 c (el R2 start))
              (fun s => 0 < s.1.length ∧ ix s.1 ((s.1.length : Int) - 1) = some s.2 ∧ 0 ≤ s.2 ∧ s.2 < gv.owner.length ∧ 0 ≤ el R2 s.2 ∧ el R2 s.2 + s.1.length ≤ el R2 start + 1)
              (fun r => 0 < r.length ∧ ∃ q, ix r ((r.length : Int) - 1) = some q ∧ q ∈ T) (fun s => (el R2 start + 1 - s.1.length).toNat) (s := ([start], start))
              ⟨by simp, rfl, hst.1, hst.2, by dsimp only; omega, by simp⟩
              (fun s ⟨i1, i2, i3, i4, i5, i6⟩ => by
                obtain ⟨path, p⟩ := s
                dsimp only at i1 i2 i3 i4 i5 i6
                have hpc : p < (c.length : Int) := by omega
                obtain ⟨kp, kq⟩ := k3 p i3 i4
                unfold games_Play_l2
                simp only [ix_el i3 hpc, Option.bind_some]
                by_cases hgo : 0 ≤ el c p ∧ (path.length : Int) ≤ el R2 start
                · left
                  have happ : app 8 path [el c p] = some (path ++ [el c p]) := by
                    unfold app; rw [if_pos (by simp only [List.length_cons, List.length_nil]; omega)]
                  have harc : (p, el c p) ∈ gv.arcs := by
                    rcases hok p i3 hpc with g | g
                    · omega
                    · exact g
                  have hq := mem_mvs.2 harc
                  have hqr := mvs_rng hV hq
                  have hrank : 0 ≤ el R2 (el c p) ∧ el R2 (el c p) + 1 ≤ el R2 p := by
                    by_cases hpT : p ∈ T
                    · have e := kp (.inr hpT)
                      have hz := hR.tgt p i3 i4 hpT
                      have := (hbest p i3 i4).2 (fun h => by omega)
                      omega
                    · by_cases ho : el gv.owner p = player
                      · have e := kp (.inl ho)
                        have hpos : 0 < el R2 p := by
                          rcases hR.non p i3 i4 hpT with ⟨g, _⟩ | ⟨k, hk, g, _⟩ <;> omega
                        obtain ⟨_, hb2, _⟩ := (hbest p i3 i4).1 ⟨ho, hpos⟩
                        rw [e, hb2]; omega
                      · rcases hR.non p i3 i4 hpT with ⟨g, _⟩ | ⟨k, hk, g, _, hloc⟩
                        · omega
                        · rw [if_neg ho] at hloc
                          have := hloc _ hq
                          omega
                  refine ⟨(path ++ [el c p], el c p), by rw [if_pos (by simp; omega)]; simp only [happ, Option.bind_some], ⟨by simp, ?_, hqr.1, hqr.2, hrank.1, by simp only [List.length_append, List.length_cons, List.length_nil]; omega⟩, by simp only [List.length_append, List.length_cons, List.length_nil]; omega⟩
                  simp only [List.length_append, List.length_cons, List.length_nil]
                  rw [ix_eq (by omega), List.getElem?_append_right (by omega), show ((path.length + (0 + 1) : Nat) - 1 : Int).toNat - path.length = 0 by omega]; rfl
                · right
                  refine ⟨path, by rw [if_neg (by simp; omega)], i1, p, i2, ?_⟩
                  refine Classical.byContradiction fun hpT => ?_
                  rcases hR.non p i3 i4 hpT with ⟨g, _⟩ | ⟨k, hk, g, _, hloc⟩
                  · omega
                  · by_cases ho : el gv.owner p = player
                    · have e := kp (.inl ho)
                      obtain ⟨hb1, _, _⟩ := (hbest p i3 i4).1 ⟨ho, by omega⟩
                      have := mvs_rng hV hb1
                      omega
                    · obtain ⟨e1, e2⟩ := kq (fun h => by rcases h with h | h; exact ho h; exact hpT h)
                      have := e2 (by omega)
                      omega)
            rw [hpl, r1]
            have hrl : 0 < (r.length : Int) := by omega
            simp only [Option.bind_some, if_true, hrl, r3, has_spec, r4, decide_true]
      · rw [k1, k2]; rfl
    · have c1 : (!(decide (0 ≤ start) && decide (start ≤ (gv.owner.length : Int) - 1))) = true := by simp; omega
      simp only [hol, c1, decide_true, Bool.not_true, Bool.false_eq_true, if_false, if_true, Option.bind_some]
  · simp [hol]
end Ab
