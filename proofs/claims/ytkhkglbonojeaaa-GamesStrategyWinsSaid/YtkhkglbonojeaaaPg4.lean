/-
  GAMES, plainly: three laws about ranks and safe positions.
-/
import Derived.Test.YtkhkglbonojeaaaPg3
namespace Ab
open Go

theorem attractor_spec (gv : TGame) (player : Int) (T : List Int) : ∃ R f, games_Attractor gv player T = some (R, f) ∧
    ((f.code ≠ 0 ∧ R = [] ∧ games_check gv player T = some f) ∨ (f = ⟨0, 0⟩ ∧ games_check gv player T = some f ∧ Valid gv ∧ (player = 0 ∨ player = 1) ∧ PosOk gv.owner.length T ∧ IsFix gv player T R)) := by
  unfold games_Attractor
  obtain ⟨f, h1, h2⟩ := check_spec gv player T
  rw [h1]
  simp only [Option.bind_some]
  rcases h2 with ⟨rfl, hV, hp, hT⟩ | hf
  · obtain ⟨R, g1, g2⟩ := attract_spec hV (player := player) hT
    refine ⟨R, ⟨0, 0⟩, by rw [if_neg (by simp), g1]; rfl, .inr ⟨rfl, rfl, hV, hp, hT, g2⟩⟩
  · exact ⟨[], f, by rw [if_pos (by simp; omega)], .inl ⟨hf, rfl, rfl⟩⟩

theorem safe_spec (gv : TGame) (player : Int) (T : List Int) : ∃ S f, games_Safe gv player T = some (S, f) ∧
    ((f.code ≠ 0 ∧ S = [] ∧ games_check gv player T = some f) ∨ (f = ⟨0, 0⟩ ∧ games_check gv player T = some f ∧ Valid gv ∧ (player = 0 ∨ player = 1) ∧ PosOk gv.owner.length T ∧
      ∃ R, IsFix gv (1 - player) T R ∧ forR 0 (R.length : Int) (games_Safe_l1 R) [] = some S ∧ ∀ p : Int, p ∈ S ↔ 0 ≤ p ∧ p < gv.owner.length ∧ el R p < 0)) := by
  unfold games_Safe
  obtain ⟨f, h1, h2⟩ := check_spec gv player T
  rw [h1]
  simp only [Option.bind_some]
  rcases h2 with ⟨rfl, hV, hp, hT⟩ | hf
  · have hw : w64 (1 - player) = 1 - player := w64_of (by omega) (by omega)
    obtain ⟨R, g1, g2⟩ := attract_spec hV (player := 1 - player) hT
    have hn2 := hV.n2
    obtain ⟨S, k1, k2, k3⟩ := forR_inv (body := games_Safe_l1 R) (n := (R.length : Int)) (s := ([] : List Int)) (fun k S => (S.length : Int) ≤ k ∧ ∀ p : Int, p ∈ S ↔ 0 ≤ p ∧ p < k ∧ el R p < 0) (by omega)
      ⟨by simp, fun p => by simp; omega⟩
      (fun j S h0 h1 ⟨hl, hS⟩ => by
        have hlen := g2.len
        unfold games_Safe_l1
        simp only [ix_el h0 h1, Option.bind_some]
        by_cases hneg : el R j < 0
        · have happ : app 8 S [j] = some (S ++ [j]) := by
            unfold app; rw [if_pos (by simp only [List.length_cons, List.length_nil]; omega)]
          refine ⟨S ++ [j], by simp [hneg, happ], by simp only [List.length_append, List.length_cons, List.length_nil]; omega, fun p => ?_⟩
          rw [List.mem_append, hS p, List.mem_singleton]
          constructor
          · rintro (⟨a, b, c⟩ | rfl)
            · exact ⟨a, by omega, c⟩
            · exact ⟨h0, by omega, hneg⟩
          · rintro ⟨a, b, c⟩
            by_cases hpj : p = j
            · exact .inr hpj
            · exact .inl ⟨a, by omega, c⟩
        · refine ⟨S, by simp [hneg], by omega, fun p => ?_⟩
          rw [hS p]
          constructor
          · rintro ⟨a, b, c⟩; exact ⟨a, by omega, c⟩
          · rintro ⟨a, b, c⟩
            refine ⟨a, ?_, c⟩
            by_cases hpj : p = j
            · subst hpj; exact absurd c hneg
            · omega)
    refine ⟨S, ⟨0, 0⟩, by rw [if_neg (by simp), hw, g1]; simp only [Option.bind_some]; rw [k1]; rfl, .inr ⟨rfl, rfl, hV, hp, hT, R, g2, k1, ?_⟩⟩
    rw [g2.len] at k3
    exact k3
  · exact ⟨[], f, by rw [if_pos (by simp; omega)], .inl ⟨hf, rfl, rfl⟩⟩

theorem forced_attract : games_attract ⟨[0, 0], [(0, 1)]⟩ 0 [1] = some [1, 0] := by
  have h : Loop (games_attract_l2 ⟨[0, 0], [(0, 1)]⟩ 0 [[1], []]) ([-1, 0], 1) = some [1, 0] := Loop_iff.2 ⟨3, rfl⟩
  have h1 : slices_Repeat_int_int [-1] (([0, 0] : List Int).length : Int) = some [-1, -1] := rfl
  have h2 : forR 0 (([1] : List Int).length : Int) (games_attract_l1 [1]) [-1, -1] = some [-1, 0] := rfl
  have h3 : games_moves ⟨[0, 0], [(0, 1)]⟩ = some [[1], []] := rfl
  unfold games_attract
  dsimp only
  rw [h1]; simp only [Option.bind_some]
  rw [h2]; simp only [Option.bind_some]
  rw [h3]; simp only [Option.bind_some]
  rw [h]; rfl
theorem forced_true : law8_forced = some true := by
  have h1 : games_check ⟨[0, 0], [(0, 1)]⟩ 0 [1] = some ⟨0, 0⟩ := rfl
  have h2 : games_Attractor ⟨[0, 0], [(0, 1)]⟩ 0 [1] = some ([1, 0], ⟨0, 0⟩) := by
    unfold games_Attractor
    rw [h1, forced_attract]; rfl
  have h3 : games_Strategy ⟨[0, 0], [(0, 1)]⟩ 0 [1] = some ([1, -1], ⟨0, 0⟩) := by
    unfold games_Strategy
    rw [h1, forced_attract]; rfl
  unfold law8_forced
  rw [h2, h3]; rfl

theorem has_spec (l : List Int) (n : Int) : ref1_Has l n = some (decide (n ∈ l)) := by
  unfold ref1_Has
  refine Or.elim (rngX_inv (body := ref1_Has_l1 l n) (n := (l.length : Int)) (s := ()) (fun k _ => ∀ (i : Nat), (i : Int) < k → l[i]? ≠ some n) (fun o => o = true ∧ n ∈ l) (by omega) (fun i h => by omega) (fun j s h0 h1 hP => ?_)) (fun ⟨s', h1, h2⟩ => ?_) (fun ⟨o, h1, h2⟩ => ?_)
  · obtain ⟨a, ha1, ha2⟩ := ix_of (l := l) h0 h1
    unfold ref1_Has_l1
    simp only [ha1, Option.bind_some]
    by_cases han : a = n
    · exact .inr ⟨true, by rw [if_pos han], rfl, by rw [← han]; exact List.mem_of_getElem? ha2⟩
    · refine .inl ⟨(), by rw [if_neg han], fun i hi => ?_⟩
      by_cases hij : (i : Int) < j
      · exact hP i hij
      · have : i = j.toNat := by omega
        subst this
        rw [ha2]; simpa using han
  · rw [h1]
    have : n ∉ l := fun hm => by
      obtain ⟨i, hi⟩ := List.getElem?_of_mem hm
      exact h2 i (by have := (List.getElem?_eq_some_iff.1 hi).1; omega) hi
    simp [this]
  · rw [h1]
    simp [h2.1, h2.2]
theorem subset_spec (a l : List Int) : ∃ b, ref1_Subset a l = some b ∧ (b = true → ∀ x ∈ a, x ∈ l) := by
  unfold ref1_Subset
  refine Or.elim (rngX_inv (body := ref1_Subset_l1 a l) (n := (a.length : Int)) (s := ()) (fun k _ => ∀ (i : Nat) x, (i : Int) < k → a[i]? = some x → x ∈ l) (fun o => o = false) (by omega) (fun i x h => by omega) (fun j s h0 h1 hP => ?_)) (fun ⟨s', h1, h2⟩ => ?_) (fun ⟨o, h1, h2⟩ => ?_)
  · obtain ⟨x, ha1, ha2⟩ := ix_of (l := a) h0 h1
    unfold ref1_Subset_l1
    simp only [ha1, Option.bind_some, has_spec]
    by_cases hm : x ∈ l
    · refine .inl ⟨(), by simp [hm], fun i y hi hy => ?_⟩
      by_cases hij : (i : Int) < j
      · exact hP i y hij hy
      · have : i = j.toNat := by omega
        subst this
        rw [ha2] at hy; cases hy; exact hm
    · exact .inr ⟨false, by simp [hm], rfl⟩
  · rw [h1]
    refine ⟨true, rfl, fun _ x hx => ?_⟩
    obtain ⟨i, hi⟩ := List.getElem?_of_mem hx
    exact h2 i x (by have := (List.getElem?_eq_some_iff.1 hi).1; omega) hi
  · rw [h1]
    exact ⟨o, rfl, fun h => by rw [h2] at h; cases h⟩

/-- With more targets, no rank is larger. -/
theorem GamesMoreTargets_true (gv : TGame) (player : Int) (targets more : List Int) : law8_GamesMoreTargets gv player targets more = some true := by
  unfold law8_GamesMoreTargets
  obtain ⟨R, f, h1, h2⟩ := attractor_spec gv player targets
  obtain ⟨R', f', h1', h2'⟩ := attractor_spec gv player more
  simp only [h1, h1', Option.bind_some, forced_true]
  rcases h2 with ⟨hf, _⟩ | ⟨rfl, _, hV, _, _, hR⟩
  · simp [hf]
  rcases h2' with ⟨hf, _⟩ | ⟨rfl, _, _, _, _, hR'⟩
  · simp [hf]
  obtain ⟨b, hb1, hb2⟩ := subset_spec targets more
  rw [hb1]
  cases b with
  | false => rfl
  | true =>
    have hl : (R.length : Int) = (R'.length : Int) := by rw [hR.len, hR'.len]
    simp only [decide_true, Bool.not_true, Bool.false_eq_true, if_false, Option.bind_some, hl, if_true]
    rw [rngX_all (by omega)]
    · rfl
    intro j h0 h1
    unfold law8_GamesMoreTargets_l1
    have hjR : j < (R.length : Int) := by omega
    simp only [ix_el h0 hjR, ix_el h0 h1, Option.bind_some]
    by_cases hpos : 0 ≤ el R j
    · have := IsFix.le hV (hb2 rfl) hR hR' (el R j).toNat j h0 (by rw [hR'.len] at h1; exact h1) (by omega)
      rw [if_pos hpos, if_neg (by omega)]
      simp only [Option.bind_some]
      rw [if_neg (by simp; omega)]
    · rw [if_neg hpos]; rfl

/-- From every position, one player can force the game to a target, or the other one can avoid all targets. -/
theorem GamesDetermined_true (gv : TGame) (player : Int) (targets : List Int) : law8_GamesDetermined gv player targets = some true := by
  unfold law8_GamesDetermined
  obtain ⟨R, f, h1, h2⟩ := attractor_spec gv player targets
  obtain ⟨S, f', h1', h2'⟩ := safe_spec gv (w64 (1 - player)) targets
  simp only [h1, h1', Option.bind_some, forced_true]
  rcases h2 with ⟨hf, _⟩ | ⟨rfl, _, hV, hp, _, hR⟩
  · simp [hf]
  rcases h2' with ⟨hf, _⟩ | ⟨rfl, _, _, _, _, R', hR', _, hS⟩
  · simp [hf]
  have hw : w64 (1 - player) = 1 - player := w64_of (by omega) (by omega)
  rw [hw, show 1 - (1 - player) = player by omega] at hR'
  have hRR := hR'.eq hV hR
  subst hRR
  rw [if_neg (by simp)]
  rw [rngX_all (by omega)]
  · simp [hR.len]
  · intro j h0 h1
    unfold law8_GamesDetermined_l1
    simp only [ix_el h0 h1, Option.bind_some, has_spec]
    rw [if_neg]
    simp only [decide_eq_decide, hS]
    rw [hR.len] at h1
    omega

/-- From a safe position, the player who wants to stay safe has a safe move or none at all, and all moves of the other player are safe. -/
theorem GamesSafeStays_true (gv : TGame) (player : Int) (bad : List Int) (p : Int) : law8_GamesSafeStays gv player bad p = some true := by
  unfold law8_GamesSafeStays
  obtain ⟨S, f, h1, h2⟩ := safe_spec gv player bad
  simp only [h1, Option.bind_some, forced_true, has_spec]
  rcases h2 with ⟨hf, _⟩ | ⟨rfl, _, hV, hpl, _, R, hR, _, hS⟩
  · simp [hf]
  by_cases hp : p ∈ S
  · obtain ⟨hp0, hp1, hneg⟩ := (hS p).1 hp
    have hm := hV.m
    obtain ⟨⟨mo, sa⟩, k1, k2⟩ := forR_inv (body := law8_GamesSafeStays_l1 gv p (S, ⟨0, 0⟩)) (n := (gv.arcs.length : Int)) (s := ((0, 0) : Int × Int))
      (fun k s => s.1 = (((gv.arcs.take k.toNat).filter fun a => decide (a.1 = p)).length : Int) ∧ s.2 = (((gv.arcs.take k.toNat).filter fun a => (decide (a.1 = p) && decide (a.2 ∈ S))).length : Int)) (by omega)
      ⟨by simp, by simp⟩
      (fun j s h0 h1 ⟨q1, q2⟩ => by
        obtain ⟨a, ha1, ha2⟩ := ix_of (l := gv.arcs) h0 h1
        have htk : gv.arcs.take (j + 1).toNat = gv.arcs.take j.toNat ++ [a] := by
          rw [show (j + 1).toNat = j.toNat + 1 by omega, List.take_add_one, ha2]; rfl
        have l1 := List.length_filter_le (fun a : Int × Int => decide (a.1 = p)) (gv.arcs.take j.toNat)
        have l2 := List.length_filter_le (fun a : Int × Int => (decide (a.1 = p) && decide (a.2 ∈ S))) (gv.arcs.take j.toNat)
        have l3 : (gv.arcs.take j.toNat).length ≤ 60 := by rw [List.length_take]; omega
        obtain ⟨mo, sa⟩ := s
        dsimp only at q1 q2
        have w1 : w64 (mo + 1) = mo + 1 := w64_of (by omega) (by omega)
        have w2 : w64 (sa + 1) = sa + 1 := w64_of (by omega) (by omega)
        unfold law8_GamesSafeStays_l1
        simp only [ha1, Option.bind_some, has_spec, htk, List.filter_append, List.length_append, w1, w2]
        by_cases hap : a.1 = p
        · by_cases has : a.2 ∈ S
          · exact ⟨(mo + 1, sa + 1), by simp [hap, has], by simp [hap]; omega, by simp [hap, has]; omega⟩
          · exact ⟨(mo + 1, sa), by simp [hap, has], by simp [hap]; omega, by simp [has]; omega⟩
        · exact ⟨(mo, sa), by simp [hap], by simp [hap]; omega, by simp [hap]; omega⟩)
    obtain ⟨q1, q2⟩ := k2
    rw [List.take_of_length_le (by omega)] at q1 q2
    dsimp only at q1 q2
    have hbad : p ∉ bad := fun hc => by rw [hR.tgt p hp0 hp1 hc] at hneg; omega
    have hloc : LocI gv (1 - player) R p := by
      rcases hR.non p hp0 hp1 hbad with ⟨_, h⟩ | ⟨k, hk, hk1, _⟩
      · exact h
      · omega
    simp only [hp, decide_true, Bool.not_true, Bool.false_eq_true, if_false, k1, Option.bind_some, hbad, decide_false, ix_el hp0 hp1]
    have memS : ∀ q ∈ mvs gv p, el R q = -1 → q ∈ S := fun q hq hq1 => by
      have := mvs_rng hV hq
      exact (hS q).2 ⟨this.1, this.2, by omega⟩
    unfold LocI at hloc
    by_cases ho : el gv.owner p = player
    · rw [if_neg (by omega)] at hloc
      rw [if_pos ho]
      rcases hloc with hnil | ⟨q, hq, hq1⟩
      · have : mo = 0 := by
          rw [q1]
          have := congrArg List.length hnil
          simp only [mvs, List.length_map, List.length_nil] at this
          omega
        simp [this]
      · have : 0 < sa := by
          rw [q2]
          have hmem : (p, q) ∈ gv.arcs.filter fun a => (decide (a.1 = p) && decide (a.2 ∈ S)) := List.mem_filter.2 ⟨mem_mvs.1 hq, by simp [memS q hq hq1]⟩
          have := List.length_pos_of_mem hmem
          omega
        by_cases hm0 : mo = 0
        · simp [hm0]
        · simp [hm0, this]
    · have howner := hV.own p hp0 hp1
      rw [if_pos (by omega)] at hloc
      rw [if_neg ho]
      have : sa = mo := by
        rw [q1, q2]
        congr 2
        apply List.filter_congr
        intro a ha
        by_cases hap : a.1 = p
        · have hq : a.2 ∈ mvs gv p := mem_mvs.2 (by rw [← hap]; exact ha)
          simp [hap, memS a.2 hq (hloc a.2 hq)]
        · simp [hap]
      simp [ho, this]
  · simp [hp]
end Ab
