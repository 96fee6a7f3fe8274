/-
  GAMES, plainly: the strategy is the document's; all results are the specified ones.
-/
import Derived.Test.YtkhkglbonojeaaaPg6
namespace Ab
open Go

theorem arcs_sorted {gv : TGame} (hV : Valid gv) : gv.arcs.Pairwise fun a b => a.1 < b.1 ∨ a.1 = b.1 ∧ a.2 < b.2 := by
  rw [List.pairwise_iff_getElem]
  have key : ∀ (d i j : Nat) (hi : i < gv.arcs.length) (hj : j < gv.arcs.length), j = i + d + 1 → gv.arcs[i].1 < gv.arcs[j].1 ∨ gv.arcs[i].1 = gv.arcs[j].1 ∧ gv.arcs[i].2 < gv.arcs[j].2 := by
    intro d
    induction d with
    | zero =>
      intro i j hi hj e
      subst e
      exact hV.inc i _ _ (List.getElem?_eq_getElem hi) (List.getElem?_eq_getElem hj)
    | succ d ih =>
      intro i j hi hj e
      have h1 := ih i (i + d + 1) hi (by omega) rfl
      have h2 := hV.inc (i + d + 1) gv.arcs[i + d + 1] gv.arcs[j] (List.getElem?_eq_getElem (by omega)) (by rw [show i + d + 1 + 1 = j by omega]; exact List.getElem?_eq_getElem hj)
      omega
  intro i j hi hj hij
  exact key (j - i - 1) i j hi hj (by omega)
theorem mvs_sorted {gv : TGame} (hV : Valid gv) (p : Int) : (mvs gv p).Pairwise (· < ·) := by
  unfold mvs
  rw [List.pairwise_map]
  refine ((arcs_sorted hV).filter _).imp_of_mem fun {a b} ha hb h => ?_
  have h1 := (List.mem_filter.1 ha).2
  have h2 := (List.mem_filter.1 hb).2
  simp only [decide_eq_true_eq] at h1 h2
  omega

/-- The move at p: to the first position whose rank is one less. -/
def IsBest (gv : TGame) (player : Int) (R : List Int) (p b : Int) : Prop :=
  (el gv.owner p = player ∧ 0 < el R p → b ∈ mvs gv p ∧ el R b = el R p - 1 ∧ ∀ x ∈ mvs gv p, el R x = el R p - 1 → b ≤ x) ∧ (¬ (el gv.owner p = player ∧ 0 < el R p) → b = -1)
theorem IsBest.eq {gv : TGame} {player p b b' : Int} {R : List Int} (h : IsBest gv player R p b) (h' : IsBest gv player R p b') : b = b' := by
  by_cases hc : el gv.owner p = player ∧ 0 < el R p
  · obtain ⟨h1, h2, h3⟩ := h.1 hc
    obtain ⟨g1, g2, g3⟩ := h'.1 hc
    have := h3 b' g1 g2
    have := g3 b h1 h2
    omega
  · rw [h.2 hc, h'.2 hc]

theorem IsFix.good {gv : TGame} {player p : Int} {T R : List Int} (h : IsFix gv player T R) (h0 : 0 ≤ p) (h1 : p < gv.owner.length) (hp : 0 < el R p) : ∃ q ∈ mvs gv p, el R q = el R p - 1 := by
  have hT : p ∉ T := fun hT => by rw [h.tgt p h0 h1 hT] at hp; omega
  rcases h.non p h0 h1 hT with ⟨g, _⟩ | ⟨k, hk, g, ⟨q, hq, hqk⟩, _⟩
  · omega
  · exact ⟨q, hq, by omega⟩

theorem IsFix.bound {gv : TGame} (hV : Valid gv) {player p : Int} {T R : List Int} (h : IsFix gv player T R) (h0 : 0 ≤ p) (h1 : p < gv.owner.length) : el R p ≤ 24 := by
  obtain ⟨R', _, g2, g3⟩ := ranked_spec hV (player := player) (T := T)
  rw [h.eq hV g2]
  exact g3 p h0 h1

theorem strategy_spec (gv : TGame) (player : Int) (T : List Int) : ∃ N f, games_Strategy gv player T = some (N, f) ∧
    ((f.code ≠ 0 ∧ N = [] ∧ games_check gv player T = some f) ∨ (f = ⟨0, 0⟩ ∧ games_check gv player T = some f ∧ Valid gv ∧ (player = 0 ∨ player = 1) ∧ PosOk gv.owner.length T ∧
      ∃ R, IsFix gv player T R ∧ N.length = gv.owner.length ∧ ∀ p : Int, 0 ≤ p → p < gv.owner.length → IsBest gv player R p (el N p))) := by
  unfold games_Strategy
  obtain ⟨f, h1, h2⟩ := check_spec gv player T
  rw [h1]
  simp only [Option.bind_some]
  rcases h2 with ⟨rfl, hV, hp, hT⟩ | hf
  · have hn1 := hV.n1
    have hn2 := hV.n2
    obtain ⟨R, g1, g2⟩ := attract_spec hV (player := player) hT
    have e1 : slices_Repeat_int_int [-1] (R.length : Int) = some (List.replicate gv.owner.length (-1)) := by
      unfold slices_Repeat_int_int
      dsimp only
      rw [g2.len, if_pos ⟨by omega, by omega⟩, Int.toNat_natCast]
    obtain ⟨M, m1, m2, m3⟩ := moves_spec hV
    rw [if_neg (by simp), g1]
    simp only [Option.bind_some, e1, m1]
    obtain ⟨N, k1, k2, k3⟩ := forR_inv (body := games_Strategy_l1 gv player R M) (n := (M.length : Int)) (s := List.replicate gv.owner.length (-1 : Int))
      (fun j N => N.length = gv.owner.length ∧ ∀ p : Int, 0 ≤ p → p < gv.owner.length → (p < j → IsBest gv player R p (el N p)) ∧ (j ≤ p → el N p = -1)) (by omega)
      ⟨by simp, fun p hp0 hp1 => ⟨fun h => by omega, fun _ => by
        have : p.toNat < gv.owner.length := by omega
        simp [el, List.getElem?_replicate, this]⟩⟩
      (fun j N h0 h1 ⟨hl, hN⟩ => by
        have hj : j < (gv.owner.length : Int) := by omega
        have hjR : j < (R.length : Int) := by rw [g2.len]; exact hj
        have hjN : j < (N.length : Int) := by omega
        have hstep : ∀ b : Int, IsBest gv player R j b → ∀ N' : List Int, N'.length = gv.owner.length → (∀ p : Int, 0 ≤ p → p < gv.owner.length → el N' p = if p = j then b else el N p) → (N'.length = gv.owner.length ∧ ∀ p : Int, 0 ≤ p → p < gv.owner.length → (p < j + 1 → IsBest gv player R p (el N' p)) ∧ (j + 1 ≤ p → el N' p = -1)) := fun b hb N' hl' hN' => ⟨hl', fun p hp0 hp1 => by
          rw [hN' p hp0 hp1]
          by_cases hpj : p = j
          · rw [if_pos hpj, hpj]; exact ⟨fun _ => hb, fun h => by omega⟩
          · rw [if_neg hpj]; exact ⟨fun h => (hN p hp0 hp1).1 (by omega), fun h => (hN p hp0 hp1).2 (by omega)⟩⟩
        have hsame : IsBest gv player R j (-1) → ∀ p : Int, 0 ≤ p → p < gv.owner.length → el N p = if p = j then -1 else el N p := fun _ p hp0 hp1 => by
          split
          · subst_vars; exact (hN _ hp0 hp1).2 (by omega)
          · rfl
        unfold games_Strategy_l1
        simp only [m3 j h0 hj, ix_el h0 hj, ix_el h0 hjR, ix_el h0 hjN, Option.bind_some]
        by_cases ho : el gv.owner j = player
        · by_cases hr : el R j < 1
          · have hb : IsBest gv player R j (-1) := ⟨fun h => by omega, fun _ => rfl⟩
            exact ⟨N, by simp [ho, hr], hstep (-1) hb N hl (hsame hb)⟩
          · have hbd := g2.bound hV h0 hj
            have w : w64 (el R j - 1) = el R j - 1 := w64_of (by omega) (by omega)
            obtain ⟨i, i1, i2⟩ := indexFunc_spec (sv := mvs gv j) (fv := fun y1 => games_Strategy_1 y1 R j) (fun y => decide (el R y = el R j - 1)) (fun y hy => by
              have := mvs_rng hV hy
              unfold games_Strategy_1
              simp only [ix_el this.1 (show y < (R.length : Int) by rw [g2.len]; exact this.2), ix_el h0 hjR, Option.bind_some, w])
            rcases i2 with ⟨_, i2⟩ | ⟨i0, x, i2, i3, i4⟩
            · obtain ⟨q, hq, hq1⟩ := g2.good h0 hj (by omega)
              have := i2 q hq
              simp [hq1] at this
            · have hb : IsBest gv player R j x := ⟨fun _ => ⟨List.mem_of_getElem? i2, by simpa using i3, fun y hy hy1 => by
                obtain ⟨k, hk⟩ := List.getElem?_of_mem hy
                rcases Nat.lt_trichotomy k i.toNat with g | g | g
                · have := i4 k y (by omega) hk
                  simp [hy1] at this
                · subst g
                  rw [i2] at hk; cases hk; omega
                · have hs := List.pairwise_iff_getElem.1 (mvs_sorted hV j) i.toNat k (List.getElem?_eq_some_iff.1 i2).1 (List.getElem?_eq_some_iff.1 hk).1 g
                  rw [(List.getElem?_eq_some_iff.1 i2).2, (List.getElem?_eq_some_iff.1 hk).2] at hs
                  omega⟩, fun h => absurd ⟨ho, by omega⟩ h⟩
              refine ⟨N.set j.toNat x, by simp [ho, hr, i1, ix_eq i0, i2], hstep x hb _ (by simpa using hl) fun p hp0 hp1 => el_set h0 (by omega) hp0⟩
        · have hb : IsBest gv player R j (-1) := ⟨fun h => absurd h.1 ho, fun _ => rfl⟩
          exact ⟨N, by simp [ho], hstep (-1) hb N hl (hsame hb)⟩)
    rw [k1]
    exact ⟨N, ⟨0, 0⟩, rfl, .inr ⟨rfl, rfl, hV, hp, hT, R, g2, k2, fun p hp0 hp1 => (k3 p hp0 hp1).1 (by omega)⟩⟩
  · exact ⟨[], f, by rw [if_pos (by simp; omega)], .inl ⟨hf, rfl, rfl⟩⟩

theorem moves_l3_spec {gv : TGame} (hV : Valid gv) {player p q b : Int} {R : List Int} (hR : R.length = gv.owner.length) (hb : ∀ p : Int, 0 ≤ p → p < gv.owner.length → el R p ≤ 24) (hp0 : 0 ≤ p) (hp1 : p < gv.owner.length) (hq0 : 0 ≤ q) (hq1 : q < gv.owner.length) :
    ∃ b', forR 0 (gv.arcs.length : Int) (ref8_Moves_l3 gv player R p q) b = some b' ∧ ((el gv.owner p = player ∧ 0 < el R p ∧ el R q = el R p - 1 ∧ q ∈ mvs gv p) → b' = q) ∧ (¬ (el gv.owner p = player ∧ 0 < el R p ∧ el R q = el R p - 1 ∧ q ∈ mvs gv p) → b' = b) := by
  obtain ⟨b', h1, h2⟩ := forR_inv (body := ref8_Moves_l3 gv player R p q) (n := (gv.arcs.length : Int)) (s := b)
    (fun k b' => ((el gv.owner p = player ∧ 0 < el R p ∧ el R q = el R p - 1 ∧ (p, q) ∈ gv.arcs.take k.toNat) → b' = q) ∧ (¬ (el gv.owner p = player ∧ 0 < el R p ∧ el R q = el R p - 1 ∧ (p, q) ∈ gv.arcs.take k.toNat) → b' = b)) (by omega)
    ⟨fun h => by simp at h, fun _ => rfl⟩
    (fun j s h0 h1 ⟨i1, i2⟩ => by
      obtain ⟨a, ha1, ha2⟩ := ix_of (l := gv.arcs) h0 h1
      have htk : gv.arcs.take (j + 1).toNat = gv.arcs.take j.toNat ++ [a] := by
        rw [show (j + 1).toNat = j.toNat + 1 by omega, List.take_add_one, ha2]; rfl
      have hbp := hb p hp0 hp1
      have hpR : p < (R.length : Int) := by omega
      have hqR : q < (R.length : Int) := by omega
      unfold ref8_Moves_l3
      simp only [ha1, ix_el hp0 hp1, ix_el hp0 hpR, ix_el hq0 hqR, Option.bind_some, htk]
      by_cases ho : el gv.owner p = player
      · by_cases hr : 0 < el R p
        · have w : w64 (el R p - 1) = el R p - 1 := w64_of (by omega) (by omega)
          by_cases ha : a = (p, q)
          · subst ha
            by_cases hg : el R q = el R p - 1
            · exact ⟨q, by simp [ho, hr, w, hg], fun _ => rfl, fun h => absurd ⟨ho, hr, hg, by simp⟩ h⟩
            · exact ⟨s, by simp [ho, hr, w, hg], fun h => absurd h.2.2.1 hg, fun _ => i2 fun h => hg h.2.2.1⟩
          · have hne : ¬ (a.1 = p ∧ a.2 = q) := fun h => ha (by obtain ⟨x, y⟩ := a; simp only at h; rw [h.1, h.2])
            have hmem : (p, q) ∈ gv.arcs.take j.toNat ++ [a] ↔ (p, q) ∈ gv.arcs.take j.toNat := by
              simp only [List.mem_append, List.mem_singleton]
              exact ⟨fun h => h.resolve_right fun e => ha e.symm, .inl⟩
            refine ⟨s, ?_, ?_, ?_⟩
            · have : (decide (a.1 = p) && decide (a.2 = q)) = false := by simpa using hne
              simp [ho, hr, this]
            · rw [hmem]; exact i1
            · rw [hmem]; exact i2
        · exact ⟨s, by simp [ho, hr], fun h => absurd h.2.1 hr, fun _ => i2 fun h => hr h.2.1⟩
      · exact ⟨s, by simp [ho], fun h => absurd h.1 ho, fun _ => i2 fun h => ho h.1⟩)
  rw [List.take_of_length_le (by omega)] at h2
  rw [mem_mvs]
  exact ⟨b', h1, h2⟩

theorem el_app {l : List Int} {b p : Int} (h0 : 0 ≤ p) : (p < l.length → el (l ++ [b]) p = el l p) ∧ (p = l.length → el (l ++ [b]) p = b) := by
  unfold el
  refine ⟨fun h => by rw [List.getElem?_append_left (by omega)], fun h => ?_⟩
  rw [List.getElem?_append_right (by omega), show p.toNat - l.length = 0 by omega]; rfl

theorem refMoves_spec {gv : TGame} (hV : Valid gv) {player : Int} {T R : List Int} (hF : IsFix gv player T R) : ∃ N, ref8_Moves gv player R = some N ∧ N.length = gv.owner.length ∧ ∀ p : Int, 0 ≤ p → p < gv.owner.length → IsBest gv player R p (el N p) := by
  have hn2 := hV.n2
  have hb : ∀ p : Int, 0 ≤ p → p < gv.owner.length → el R p ≤ 24 := fun p h0 h1 => hF.bound hV h0 h1
  unfold ref8_Moves
  obtain ⟨N, k1, k2, k3⟩ := forR_inv (body := ref8_Moves_l1 gv player R) (n := (R.length : Int)) (s := ([] : List Int))
    (fun j N => (N.length : Int) = j ∧ ∀ p : Int, 0 ≤ p → p < j → IsBest gv player R p (el N p)) (by omega)
    ⟨by simp, fun p h0 h1 => by omega⟩
    (fun j N h0 h1 ⟨hl, hN⟩ => by
      have hj : j < (gv.owner.length : Int) := by rw [← hF.len]; exact h1
      obtain ⟨b, e1, e2⟩ := Loop_inv (body := ref8_Moves_l2 gv player R j)
        (fun s => -1 ≤ s.2 ∧ s.2 < gv.owner.length ∧ ((s.1 = -1 ∧ ∀ x ∈ mvs gv j, el gv.owner j = player ∧ 0 < el R j → el R x = el R j - 1 → x ≤ s.2) ∨
          (el gv.owner j = player ∧ 0 < el R j ∧ s.1 ∈ mvs gv j ∧ el R s.1 = el R j - 1 ∧ s.2 < s.1 ∧ ∀ x ∈ mvs gv j, el R x = el R j - 1 → s.2 < x → s.1 ≤ x)))
        (fun b => IsBest gv player R j b) (fun s => (s.2 + 1).toNat) (s := (-1, (R.length : Int) - 1))
        ⟨by have := hV.n1; have := hF.len; simp only; omega, by have := hF.len; simp only; omega, .inl ⟨rfl, fun x hx _ _ => by have := mvs_rng hV hx; have := hF.len; simp only; omega⟩⟩
        (fun s ⟨i1, i2, i3⟩ => by
          obtain ⟨b, q⟩ := s
          dsimp only at i1 i2 i3
          unfold ref8_Moves_l2
          by_cases hq : 0 ≤ q
          · left
            obtain ⟨b', e1, e2, e3⟩ := moves_l3_spec hV (player := player) (b := b) hF.len hb h0 hj hq i2
            have w : w64 (q - 1) = q - 1 := w64_of (by omega) (by omega)
            refine ⟨(b', q - 1), by simp [hq, e1, w], ⟨by dsimp only; omega, by dsimp only; omega, ?_⟩, by dsimp only; omega⟩
            dsimp only
            by_cases hg : el gv.owner j = player ∧ 0 < el R j ∧ el R q = el R j - 1 ∧ q ∈ mvs gv j
            · rw [e2 hg]
              exact .inr ⟨hg.1, hg.2.1, hg.2.2.2, hg.2.2.1, by omega, fun x hx hx1 hx2 => by omega⟩
            · rw [e3 hg]
              rcases i3 with ⟨i3, i4⟩ | ⟨g1, g2, g3, g4, g5, g6⟩
              · refine .inl ⟨i3, fun x hx hc hx1 => ?_⟩
                have := i4 x hx hc hx1
                by_cases hxq : x = q
                · subst hxq; exact absurd ⟨hc.1, hc.2, hx1, hx⟩ hg
                · omega
              · refine .inr ⟨g1, g2, g3, g4, by omega, fun x hx hx1 hx2 => ?_⟩
                by_cases hxq : x = q
                · subst hxq; exact absurd ⟨g1, g2, hx1, hx⟩ hg
                · exact g6 x hx hx1 (by omega)
          · right
            refine ⟨b, by simp [hq], fun hc => ?_, fun hc => ?_⟩
            · rcases i3 with ⟨i3, i4⟩ | ⟨g1, g2, g3, g4, g5, g6⟩
              · obtain ⟨x, hx, hx1⟩ := hF.good h0 hj hc.2
                have := i4 x hx hc hx1
                have := mvs_rng hV hx
                omega
              · exact ⟨g3, g4, fun x hx hx1 => g6 x hx hx1 (by have := mvs_rng hV hx; omega)⟩
            · rcases i3 with ⟨i3, _⟩ | ⟨g1, g2, _⟩
              · exact i3
              · exact absurd ⟨g1, g2⟩ hc)
      have hlen := hF.len
      have happ : app 8 N [b] = some (N ++ [b]) := by
        unfold app; rw [if_pos (by simp only [List.length_cons, List.length_nil]; omega)]
      unfold ref8_Moves_l1
      refine ⟨N ++ [b], by rw [e1]; simp only [Option.bind_some, happ], by simp only [List.length_append, List.length_cons, List.length_nil]; omega, fun p g0 g1 => ?_⟩
      have hap := el_app (l := N) (b := b) g0
      by_cases hpj : p < j
      · rw [hap.1 (by omega)]; exact hN p g0 hpj
      · have : p = j := by omega
        subst this
        rw [hap.2 (by omega)]; exact e2)
  rw [k1]
  have hlen := hF.len
  exact ⟨N, rfl, by omega, fun p h0 h1 => k3 p h0 (by omega)⟩

theorem equal_self (l : List Int) : equal_Numbers l l = some true := by
  unfold equal_Numbers
  rw [if_pos rfl, rngX_all (by omega)]
  · rfl
  · intro j h0 h1
    unfold equal_Numbers_l1
    rw [ix_el h0 h1]
    simp

/-- For all games, Validate, Attractor, Strategy and Safe return the specified results. -/
theorem GamesMatchesSpec_true (gv : TGame) (player : Int) (targets : List Int) : law8_GamesMatchesSpec gv player targets = some true := by
  unfold law8_GamesMatchesSpec
  obtain ⟨R, f1, a1, a2⟩ := attractor_spec gv player targets
  obtain ⟨N, f2, b1, b2⟩ := strategy_spec gv player targets
  obtain ⟨S, f3, c1, c2⟩ := safe_spec gv player targets
  obtain ⟨f, d1, d2⟩ := check_spec gv player targets
  obtain ⟨f0, v1, _⟩ := validate_spec gv
  have hf1 : f1 = f := by
    have : games_check gv player targets = some f1 := by rcases a2 with ⟨_, _, h⟩ | ⟨_, h, _⟩ <;> exact h
    rw [d1] at this; exact (Option.some.inj this).symm
  have hf2 : f2 = f := by
    have : games_check gv player targets = some f2 := by rcases b2 with ⟨_, _, h⟩ | ⟨_, h, _⟩ <;> exact h
    rw [d1] at this; exact (Option.some.inj this).symm
  have hf3 : f3 = f := by
    have : games_check gv player targets = some f3 := by rcases c2 with ⟨_, _, h⟩ | ⟨_, h, _⟩ <;> exact h
    rw [d1] at this; exact (Option.some.inj this).symm
  subst hf1 hf2 hf3
  simp only [a1, b1, c1, Option.bind_some, playerFault_eq, gameFault_eq, d1, v1, forced_true]
  simp only [decide_true, Bool.and_self, Bool.not_true, Bool.or_self, Bool.false_eq_true, if_false]
  rcases a2 with ⟨g, hR, _⟩ | ⟨rfl, _, hV, hp, hT, hR⟩
  · rcases b2 with ⟨_, hN, _⟩ | ⟨e, _⟩
    · rcases c2 with ⟨_, hS, _⟩ | ⟨e, _⟩
      · rw [if_neg g, hR, hN, hS]; rfl
      · rw [e] at g; exact absurd rfl g
    · rw [e] at g; exact absurd rfl g
  · rcases b2 with ⟨g, _⟩ | ⟨_, _, _, _, _, R2, hR2, hN, hbest⟩
    · exact absurd rfl g
    rcases c2 with ⟨g, _⟩ | ⟨_, _, _, _, _, R3, hR3, hS, _⟩
    · exact absurd rfl g
    have hw : w64 (1 - player) = 1 - player := w64_of (by omega) (by omega)
    obtain ⟨Q, q1, q2, _⟩ := ranked_spec hV (player := player) (T := targets)
    obtain ⟨Q3, r1, r2, _⟩ := ranked_spec hV (player := 1 - player) (T := targets)
    have e1 := hR.eq hV q2
    have e2 := hR2.eq hV q2
    have e3 := hR3.eq hV r2
    subst e1 e2 e3
    obtain ⟨N', n1, n2, n3⟩ := refMoves_spec hV hR
    have e4 : N = N' := list_el (by rw [hN, n2]) fun p g0 g1 => (hbest p g0 (by omega)).eq (n3 p g0 (by omega))
    subst e4
    have hS' : forR 0 (R3.length : Int) (law8_GamesMatchesSpec_l1 R3) [] = some S := hS
    simp only [if_true, q1, hw, r1, Option.bind_some, hS', equal_self, n1]
end Ab
