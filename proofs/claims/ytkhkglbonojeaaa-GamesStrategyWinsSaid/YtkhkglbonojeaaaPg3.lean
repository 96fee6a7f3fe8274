/-
  GAMES, plainly: attract computes the ranks.
-/
import Derived.Test.YtkhkglbonojeaaaPg2
namespace Ab
open Go

/-- A position from which the next move reaches a rank below r. -/
def Can (gv : TGame) (player : Int) (c : List Int) (p r : Int) : Prop :=
  mvs gv p ≠ [] ∧ if el gv.owner p = player then ∃ q ∈ mvs gv p, 0 ≤ el c q ∧ el c q < r else ∀ q ∈ mvs gv p, 0 ≤ el c q ∧ el c q < r

theorem Can.iff {gv : TGame} {player p r r' : Int} {c c' : List Int} (h : ∀ q ∈ mvs gv p, (0 ≤ el c q ∧ el c q < r) ↔ (0 ≤ el c' q ∧ el c' q < r')) : Can gv player c p r ↔ Can gv player c' p r' := by
  unfold Can
  split
  · exact ⟨fun ⟨h1, q, hq, h2⟩ => ⟨h1, q, hq, (h q hq).1 h2⟩, fun ⟨h1, q, hq, h2⟩ => ⟨h1, q, hq, (h q hq).2 h2⟩⟩
  · exact ⟨fun ⟨h1, h2⟩ => ⟨h1, fun q hq => (h q hq).1 (h2 q hq)⟩, fun ⟨h1, h2⟩ => ⟨h1, fun q hq => (h q hq).2 (h2 q hq)⟩⟩

theorem attract_1_spec {c : List Int} {y r : Int} (h0 : 0 ≤ y) (h1 : y < c.length) : games_attract_1 y c r = some (decide (0 ≤ el c y ∧ el c y < r)) := by
  unfold games_attract_1
  simp only [ix_el h0 h1, Option.bind_some]
  by_cases h : 0 ≤ el c y
  · rw [if_pos h]; simp [h]
  · rw [if_neg h]; simp [h]

theorem attract_l3_spec {gv : TGame} (hV : Valid gv) {player r j : Int} {M : List (List Int)} {c : List Int} {ch : Bool}
    (hM : ∀ p : Int, 0 ≤ p → p < gv.owner.length → ix M p = some (mvs gv p)) (hc : c.length = gv.owner.length) (h0 : 0 ≤ j) (h1 : j < gv.owner.length) :
    ∃ s, games_attract_l3 gv player M r j (c, ch) = some s ∧ ((el c j < 0 ∧ Can gv player c j r) → s = (c.set j.toNat r, true)) ∧ (¬ (el c j < 0 ∧ Can gv player c j r) → s = (c, ch)) := by
  have hjc : j < c.length := by omega
  have hy : ∀ y ∈ mvs gv j, 0 ≤ y ∧ y < c.length := fun y hy => by have := mvs_rng hV hy; omega
  have hc1 : slices_ContainsFunc_int_int (mvs gv j) (fun y1 => games_attract_1 y1 c r) = some ((mvs gv j).any fun y => decide (0 ≤ el c y ∧ el c y < r)) :=
    containsFunc_spec _ fun y hm => attract_1_spec (hy y hm).1 (hy y hm).2
  have hc2 : slices_ContainsFunc_int_int (mvs gv j) (fun y1 => games_attract_2 y1 (fun y1 => games_attract_1 y1 c r)) = some ((mvs gv j).any fun y => !decide (0 ≤ el c y ∧ el c y < r)) :=
    containsFunc_spec _ fun y hm => by unfold games_attract_2; dsimp only; rw [attract_1_spec (hy y hm).1 (hy y hm).2]; rfl
  unfold games_attract_l3
  simp only [hM j h0 h1, ix_el h0 hjc, ix_el h0 h1, Option.bind_some, hc1, hc2]
  by_cases hA : 0 ≤ el c j ∨ ((mvs gv j).length : Int) = 0
  · rw [if_pos (by simpa using hA)]
    refine ⟨(c, ch), rfl, fun ⟨h, hcan, _⟩ => ?_, fun _ => rfl⟩
    rcases hA with hA | hA
    · omega
    · exact absurd (List.eq_nil_of_length_eq_zero (by omega)) hcan
  · rw [if_neg (by simpa using hA)]
    have hne : mvs gv j ≠ [] := fun e => hA (.inr (by rw [e]; rfl))
    have hneg : el c j < 0 := by
      rcases Int.lt_or_le (el c j) 0 with h | h
      · exact h
      · exact absurd (.inl h) hA
    by_cases ho : el gv.owner j = player
    · simp only [ho, decide_true, Bool.not_true, Bool.false_eq_true, if_true, if_false]
      by_cases hx : (mvs gv j).any (fun y => decide (0 ≤ el c y ∧ el c y < r)) = true
      · refine ⟨(c.set j.toNat r, true), by simp only [hx, Bool.false_eq_true, if_true, if_false, Option.bind_some, Bool.not_true, Bool.not_false], fun _ => rfl, fun h => absurd ⟨hneg, hne, ?_⟩ h⟩
        rw [if_pos ho]
        obtain ⟨q, hq, hq2⟩ := List.any_eq_true.1 hx
        exact ⟨q, hq, by simpa using hq2⟩
      · refine ⟨(c, ch), by simp only [Bool.eq_false_iff.2 hx, Bool.false_eq_true, if_true, if_false, Option.bind_some, Bool.not_true, Bool.not_false], fun ⟨_, _, h⟩ => absurd ?_ hx, fun _ => rfl⟩
        rw [if_pos ho] at h
        obtain ⟨q, hq, hq2⟩ := h
        exact List.any_eq_true.2 ⟨q, hq, by simpa using hq2⟩
    · simp only [ho, decide_false, Bool.not_false, if_true, if_false]
      by_cases hx : (mvs gv j).any (fun y => !decide (0 ≤ el c y ∧ el c y < r)) = true
      · refine ⟨(c, ch), by simp only [hx, Bool.false_eq_true, if_true, if_false, Option.bind_some, Bool.not_true, Bool.not_false], fun ⟨_, _, h⟩ => ?_, fun _ => rfl⟩
        rw [if_neg ho] at h
        obtain ⟨q, hq, hq2⟩ := List.any_eq_true.1 hx
        exact absurd (h q hq) (by simp only [Bool.not_eq_true', decide_eq_false_iff_not] at hq2; exact hq2)
      · refine ⟨(c.set j.toNat r, true), by simp only [Bool.eq_false_iff.2 hx, Bool.false_eq_true, if_true, if_false, Option.bind_some, Bool.not_true, Bool.not_false], fun _ => rfl, fun h => absurd ⟨hneg, hne, ?_⟩ h⟩
        rw [if_neg ho]
        intro q hq
        have hx2 : (mvs gv j).any (fun y => !decide (0 ≤ el c y ∧ el c y < r)) = false := Bool.eq_false_iff.2 hx
        have := List.any_eq_false.1 hx2 q hq
        simpa using this

/-- One round of attract. -/
theorem attract_round {gv : TGame} (hV : Valid gv) {player r : Int} {M : List (List Int)} {c : List Int} (hMl : M.length = gv.owner.length)
    (hM : ∀ p : Int, 0 ≤ p → p < gv.owner.length → ix M p = some (mvs gv p)) (hc : c.length = gv.owner.length) (hr : 1 ≤ r)
    (hv : ∀ p : Int, 0 ≤ p → p < gv.owner.length → el c p = -1 ∨ (0 ≤ el c p ∧ el c p < r)) :
    ∃ c8 ch, forR 0 (M.length : Int) (games_attract_l3 gv player M r) (c, false) = some (c8, ch) ∧ c8.length = gv.owner.length ∧
      (∀ q : Int, 0 ≤ q → q < gv.owner.length → ((el c q = -1 ∧ Can gv player c q r → el c8 q = r) ∧ (¬ (el c q = -1 ∧ Can gv player c q r) → el c8 q = el c q))) ∧
      (ch = true ↔ ∃ q : Int, 0 ≤ q ∧ q < gv.owner.length ∧ el c q = -1 ∧ Can gv player c q r) := by
  obtain ⟨⟨c8, ch⟩, h1, h2, h3, h4⟩ := forR_inv (body := games_attract_l3 gv player M r) (n := (M.length : Int)) (s := (c, false))
    (fun j s => s.1.length = gv.owner.length ∧ (∀ q : Int, 0 ≤ q → q < gv.owner.length → ((q < j ∧ el c q = -1 ∧ Can gv player c q r → el s.1 q = r) ∧ (¬ (q < j ∧ el c q = -1 ∧ Can gv player c q r) → el s.1 q = el c q))) ∧
      (s.2 = true ↔ ∃ q : Int, 0 ≤ q ∧ q < j ∧ el c q = -1 ∧ Can gv player c q r)) (by omega)
    ⟨hc, fun q hq0 hq1 => ⟨fun h => by omega, fun _ => rfl⟩, by simp; intro q h1 h2; omega⟩
    (fun j s h0 h1 ⟨hl, hq, hch⟩ => by
      obtain ⟨c8, ch⟩ := s
      dsimp only at hl hq hch
      rw [hMl] at h1
      obtain ⟨s', e1, e2, e3⟩ := attract_l3_spec hV (player := player) (r := r) (ch := ch) hM hl h0 h1
      have hcan : Can gv player c8 j r ↔ Can gv player c j r := Can.iff fun q hm => by
        obtain ⟨g0, g1⟩ := mvs_rng hV hm
        obtain ⟨k1, k2⟩ := hq q g0 g1
        have := hv q g0 g1
        by_cases hh : q < j ∧ el c q = -1 ∧ Can gv player c q r
        · rw [k1 hh, hh.2.1]; omega
        · rw [k2 hh]
      have hcj : el c8 j = el c j := (hq j h0 h1).2 (fun h => by omega)
      have hneg : el c8 j < 0 ↔ el c j = -1 := by have := hv j h0 h1; omega
      refine ⟨s', e1, ?_⟩
      by_cases hh : el c j = -1 ∧ Can gv player c j r
      · rw [e2 ⟨hneg.2 hh.1, hcan.2 hh.2⟩]
        refine ⟨by simpa using hl, fun q g0 g1 => ?_, ?_⟩
        · dsimp only
          rw [el_set h0 (by omega) g0]
          by_cases hqj : q = j
          · rw [if_pos hqj]; subst hqj
            exact ⟨fun _ => rfl, fun h => absurd ⟨by omega, hh⟩ h⟩
          · rw [if_neg hqj]
            exact ⟨fun h => (hq q g0 g1).1 ⟨by omega, h.2⟩, fun h => (hq q g0 g1).2 fun h' => h ⟨by omega, h'.2⟩⟩
        · simp only [true_iff]
          exact ⟨j, h0, by omega, hh⟩
      · rw [e3 (fun h => hh ⟨hneg.1 h.1, hcan.1 h.2⟩)]
        refine ⟨hl, fun q g0 g1 => ⟨fun h => ?_, fun h => (hq q g0 g1).2 fun h' => h ⟨by omega, h'.2⟩⟩, hch.trans ⟨fun ⟨q, g0, g1, g2⟩ => ⟨q, g0, by omega, g2⟩, fun ⟨q, g0, g1, g2⟩ => ?_⟩⟩
        · by_cases hqj : q = j
          · subst hqj; exact absurd h.2 hh
          · exact (hq q g0 g1).1 ⟨by omega, h.2⟩
        · by_cases hqj : q = j
          · subst hqj; exact absurd g2 hh
          · exact ⟨q, g0, by omega, g2⟩)
  refine ⟨c8, ch, h1, h2, fun q g0 g1 => ?_, ?_⟩
  · have := h3 q g0 g1
    exact ⟨fun h => this.1 ⟨by omega, h⟩, fun h => this.2 fun h' => h h'.2⟩
  · rw [hMl] at h4
    simpa using h4

/-- What holds ahead of round r. -/
structure AInv (gv : TGame) (player : Int) (T c : List Int) (r : Int) : Prop where
  len : c.length = gv.owner.length
  rng : ∀ p : Int, 0 ≤ p → p < gv.owner.length → el c p = -1 ∨ (0 ≤ el c p ∧ el c p < r)
  tgt : ∀ p : Int, 0 ≤ p → p < gv.owner.length → p ∈ T → el c p = 0
  loc : ∀ p : Int, 0 ≤ p → p < gv.owner.length → p ∉ T → 0 ≤ el c p → ∃ k, 0 ≤ k ∧ el c p = k + 1 ∧ LocF gv player c p k
  inc : ∀ p : Int, 0 ≤ p → p < gv.owner.length → el c p = -1 → ¬ Can gv player c p (r - 1)
  r1 : 1 ≤ r
  cnt : r + (c.count (-1) : Nat) ≤ gv.owner.length + 1

theorem el_some {l : List Int} {i : Nat} {v : Int} (h : l[i]? = some v) : el l i = v := by simp [el, h]
theorem some_el {l : List Int} {i : Nat} (h : i < l.length) : l[i]? = some (el l i) := by simp [el, h]

theorem AInv.fin {gv : TGame} (hV : Valid gv) {player r : Int} {T c : List Int} (h : AInv gv player T c r) (hno : ∀ q : Int, 0 ≤ q → q < gv.owner.length → el c q = -1 → ¬ Can gv player c q r) : IsFix gv player T c where
  len := h.len
  tgt := h.tgt
  non := fun p hp0 hp1 hT => by
    rcases h.rng p hp0 hp1 with h1 | ⟨h1, h2⟩
    · refine .inl ⟨h1, ?_⟩
      have hc := hno p hp0 hp1 h1
      unfold Can at hc
      unfold LocI
      by_cases ho : el gv.owner p = player
      · rw [if_pos ho] at hc ⊢
        intro q hq
        have hqr := mvs_rng hV hq
        rcases h.rng q hqr.1 hqr.2 with g | g
        · exact g
        · exact absurd ⟨List.ne_nil_of_mem hq, q, hq, g⟩ hc
      · rw [if_neg ho] at hc ⊢
        by_cases hm : mvs gv p = []
        · exact .inl hm
        · refine .inr (Classical.byContradiction fun hall => hc ⟨hm, fun q hq => ?_⟩)
          have hqr := mvs_rng hV hq
          rcases h.rng q hqr.1 hqr.2 with g | g
          · exact absurd ⟨q, hq, g⟩ hall
          · exact g
    · exact .inr (h.loc p hp0 hp1 hT h1)

theorem AInv.next {gv : TGame} (hV : Valid gv) {player r : Int} {T c c8 : List Int} (h : AInv gv player T c r) (hl : c8.length = gv.owner.length)
    (h8 : ∀ q : Int, 0 ≤ q → q < gv.owner.length → ((el c q = -1 ∧ Can gv player c q r → el c8 q = r) ∧ (¬ (el c q = -1 ∧ Can gv player c q r) → el c8 q = el c q)))
    (hch : ∃ q : Int, 0 ≤ q ∧ q < gv.owner.length ∧ el c q = -1 ∧ Can gv player c q r) : AInv gv player T c8 (r + 1) ∧ c8.count (-1) < c.count (-1) := by
  have hr := h.r1
  have hcnt : c8.count (-1) < c.count (-1) := by
    refine cnt_lt c c8 (by rw [hl, h.len]) (fun i hi => ?_) ?_
    · have hil := (List.getElem?_eq_some_iff.1 hi).1
      have hi2 := el_some hi
      have hic : i < c.length := by rw [h.len, ← hl]; exact hil
      rw [some_el hic]
      have g := h8 i (by omega) (by omega)
      by_cases hh : el c i = -1 ∧ Can gv player c i r
      · rw [hh.1]
      · rw [← g.2 hh, hi2]
    · obtain ⟨q, g0, g1, g2, g3⟩ := hch
      have hqc : q.toNat < c.length := by rw [h.len]; omega
      refine ⟨q.toNat, by rw [some_el hqc, show ((q.toNat : Nat) : Int) = q by omega, g2], fun e => ?_⟩
      have e2 := el_some e
      rw [show ((q.toNat : Nat) : Int) = q by omega, (h8 q g0 g1).1 ⟨g2, g3⟩] at e2
      omega
  have old : ∀ q : Int, 0 ≤ q → q < gv.owner.length → 0 ≤ el c q → el c8 q = el c q := fun q g0 g1 g2 => (h8 q g0 g1).2 fun hh => by omega
  have cases8 : ∀ q : Int, 0 ≤ q → q < gv.owner.length → (el c8 q = el c q) ∨ (el c q = -1 ∧ el c8 q = r ∧ Can gv player c q r) := fun q g0 g1 => by
    by_cases hh : el c q = -1 ∧ Can gv player c q r
    · exact .inr ⟨hh.1, (h8 q g0 g1).1 hh, hh.2⟩
    · exact .inl ((h8 q g0 g1).2 hh)
  refine ⟨⟨hl, fun p hp0 hp1 => ?_, fun p hp0 hp1 hT => ?_, fun p hp0 hp1 hT hpos => ?_, fun p hp0 hp1 hneg hcan => ?_, by omega, by have := h.cnt; omega⟩, hcnt⟩
  · have := h.rng p hp0 hp1
    rcases cases8 p hp0 hp1 with g | ⟨g1, g2, _⟩ <;> omega
  · have := h.tgt p hp0 hp1 hT
    rw [old p hp0 hp1 (by omega), this]
  · rcases cases8 p hp0 hp1 with g | ⟨g1, g2, hne, hcan⟩
    · obtain ⟨k, hk, hk1, ⟨q, hq, hqk⟩, hloc⟩ := h.loc p hp0 hp1 hT (by omega)
      refine ⟨k, hk, by omega, ⟨q, hq, by have := mvs_rng hV hq; rw [old q this.1 this.2 (by omega), hqk]⟩, ?_⟩
      have hkr := h.rng p hp0 hp1
      by_cases ho : el gv.owner p = player
      · rw [if_pos ho] at hloc ⊢
        intro q' hq'
        have hr' := mvs_rng hV hq'
        have := hloc q' hq'
        rcases cases8 q' hr'.1 hr'.2 with g' | ⟨g1', g2', _⟩ <;> omega
      · rw [if_neg ho] at hloc ⊢
        intro q' hq'
        have hr' := mvs_rng hV hq'
        have := hloc q' hq'
        rw [old q' hr'.1 hr'.2 (by omega)]; exact this
    · refine ⟨r - 1, by omega, by omega, ?_⟩
      have hinc := h.inc p hp0 hp1 g1
      unfold Can at hinc
      unfold LocF
      by_cases ho : el gv.owner p = player
      · rw [if_pos ho] at hcan hinc ⊢
        have low : ∀ q ∈ mvs gv p, el c q = -1 ∨ r - 1 ≤ el c q := fun q hq => by
          have hr' := mvs_rng hV hq
          rcases h.rng q hr'.1 hr'.2 with g | g
          · exact .inl g
          · refine .inr (Classical.byContradiction fun hlt => hinc ⟨hne, q, hq, by omega, by omega⟩)
        obtain ⟨q, hq, hq1, hq2⟩ := hcan
        have hqr := mvs_rng hV hq
        have := low q hq
        refine ⟨⟨q, hq, by rw [old q hqr.1 hqr.2 hq1]; omega⟩, fun q' hq' => ?_⟩
        have hr' := mvs_rng hV hq'
        have := low q' hq'
        rcases cases8 q' hr'.1 hr'.2 with g' | ⟨g1', g2', _⟩ <;> omega
      · rw [if_neg ho] at hcan hinc ⊢
        have hex : ∃ q ∈ mvs gv p, el c q = r - 1 := Classical.byContradiction fun hno => hinc ⟨hne, fun q hq => by
          have := hcan q hq
          have h2 : el c q ≠ r - 1 := fun e => hno ⟨q, hq, e⟩
          omega⟩
        obtain ⟨q, hq, hqk⟩ := hex
        have hqr := mvs_rng hV hq
        refine ⟨⟨q, hq, by rw [old q hqr.1 hqr.2 (by omega)]; exact hqk⟩, fun q' hq' => ?_⟩
        have hr' := mvs_rng hV hq'
        have := hcan q' hq'
        rw [old q' hr'.1 hr'.2 (by omega)]; omega
  · have hcc : el c p = -1 ∧ ¬ Can gv player c p r := by
      rcases cases8 p hp0 hp1 with g | ⟨g1, g2, _⟩
      · refine ⟨by omega, fun hcan' => ?_⟩
        have := (h8 p hp0 hp1).1 ⟨by omega, hcan'⟩
        omega
      · omega
    refine hcc.2 ((Can.iff fun q hq => ?_).1 hcan)
    have hr' := mvs_rng hV hq
    rcases cases8 q hr'.1 hr'.2 with g' | ⟨g1', g2', _⟩
    · rw [g']; omega
    · rw [g1', g2']; omega

theorem attract_spec {gv : TGame} (hV : Valid gv) {player : Int} {T : List Int} (hT : PosOk gv.owner.length T) : ∃ R, games_attract gv player T = some R ∧ IsFix gv player T R := by
  have hn1 := hV.n1
  have hn2 := hV.n2
  unfold games_attract
  have e1 : slices_Repeat_int_int [-1] (gv.owner.length : Int) = some (List.replicate gv.owner.length (-1)) := by
    unfold slices_Repeat_int_int
    dsimp only
    rw [if_pos ⟨by omega, by omega⟩, Int.toNat_natCast]
  rw [e1]
  simp only [Option.bind_some]
  obtain ⟨c4, h1, h2, h3⟩ := forR_inv (body := games_attract_l1 T) (n := (T.length : Int)) (s := List.replicate gv.owner.length (-1 : Int))
    (fun k c => c.length = gv.owner.length ∧ ∀ p : Int, 0 ≤ p → p < gv.owner.length → (p ∈ T.take k.toNat → el c p = 0) ∧ (p ∉ T.take k.toNat → el c p = -1)) (by omega)
    ⟨by simp, fun p hp0 hp1 => ⟨fun h => by simp at h, fun _ => by
      have : p.toNat < gv.owner.length := by omega
      simp [el, List.getElem?_replicate, this]⟩⟩
    (fun j c h0 h1 ⟨hl, hc⟩ => by
      obtain ⟨a, ha1, ha2⟩ := ix_of (l := T) h0 h1
      obtain ⟨ra, rb⟩ := hT.rng a (List.mem_of_getElem? ha2)
      refine ⟨c.set a.toNat 0, by unfold games_attract_l1; simp only [ha1, Option.bind_some, ix_el ra (show a < c.length by omega)], by simpa using hl, fun p hp0 hp1 => ?_⟩
      have htk : T.take (j + 1).toNat = T.take j.toNat ++ [a] := by
        rw [show (j + 1).toNat = j.toNat + 1 by omega, List.take_add_one, ha2]; rfl
      rw [htk, el_set ra (by omega) hp0]
      by_cases hpa : p = a
      · rw [if_pos hpa]; simp [hpa]
      · rw [if_neg hpa]
        have := hc p hp0 hp1
        simpa [hpa] using this)
  rw [h1]
  simp only [Option.bind_some]
  obtain ⟨M, hm1, hm2, hm3⟩ := moves_spec hV
  rw [hm1]
  simp only [Option.bind_some]
  rw [List.take_of_length_le (by omega)] at h3
  have inv0 : AInv gv player T c4 1 := ⟨h2, fun p hp0 hp1 => by
      by_cases hp : p ∈ T
      · rw [(h3 p hp0 hp1).1 hp]; omega
      · rw [(h3 p hp0 hp1).2 hp]; omega, fun p hp0 hp1 hp => (h3 p hp0 hp1).1 hp, fun p hp0 hp1 hp hpos => by
      rw [(h3 p hp0 hp1).2 hp] at hpos; omega, fun p hp0 hp1 hneg hcan => by
      obtain ⟨hne, hcan⟩ := hcan
      split at hcan
      · obtain ⟨q, _, hq1, hq2⟩ := hcan; omega
      · obtain ⟨q, hq⟩ := List.exists_mem_of_ne_nil _ hne
        have := hcan q hq; omega, by omega, by have := List.count_le_length (a := (-1 : Int)) (l := c4); omega⟩
  obtain ⟨R, g1, g2⟩ := Loop_inv (body := games_attract_l2 gv player M) (fun s => AInv gv player T s.1 s.2) (fun R => IsFix gv player T R) (fun s => s.1.count (-1)) (s := (c4, 1)) inv0 (fun s hs => by
    obtain ⟨c, r⟩ := s
    dsimp only at hs ⊢
    obtain ⟨c8, ch, k1, k2, k3, k4⟩ := attract_round hV (player := player) hm2 hm3 hs.len hs.r1 hs.rng
    unfold games_attract_l2
    simp only [k1, Option.bind_some]
    by_cases hch : ch = true
    · left
      obtain ⟨n1, n2⟩ := hs.next hV k2 k3 (k4.1 hch)
      have hcnt := hs.cnt
      have hw : w64 (r + 1) = r + 1 := w64_of (by have := hs.r1; omega) (by omega)
      refine ⟨(c8, r + 1), by simp [hch, hw], n1, n2⟩
    · right
      have hno : ∀ q : Int, 0 ≤ q → q < gv.owner.length → el c q = -1 → ¬ Can gv player c q r := fun q g0 g1 g2 g3 => hch (k4.2 ⟨q, g0, g1, g2, g3⟩)
      have hcc : c8 = c := list_el (by rw [k2, hs.len]) fun q g0 g1 => (k3 q g0 (by omega)).2 fun hh => hno q g0 (by omega) hh.1 hh.2
      refine ⟨c8, by simp [hch], ?_⟩
      rw [hcc]; exact hs.fin hV hno)
  rw [g1]
  exact ⟨R, rfl, g2⟩
end Ab
