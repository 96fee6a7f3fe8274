/-
  GAMES, plainly: what Validate, check and moves compute.
-/
import Derived.Test.YtkhkglbonojeaaaGAll
import Derived.Test.YtkhkglbonojeaaaSw
namespace Ab
open Go

def el (l : List Int) (p : Int) : Int := (l[p.toNat]?).getD 0
theorem ix_el {l : List Int} {p : Int} (h0 : 0 ≤ p) (h1 : p < l.length) : ix l p = some (el l p) := by
  obtain ⟨a, h2, h3⟩ := ix_of h0 h1
  rw [h2, el, h3]; rfl
theorem ix_eq {α : Type} {l : List α} {p : Int} (h0 : 0 ≤ p) : ix l p = l[p.toNat]? := by simp [ix, h0]
theorem el_set {l : List Int} {p q v : Int} (h0 : 0 ≤ p) (h1 : p < l.length) (hq : 0 ≤ q) : el (l.set p.toNat v) q = if q = p then v else el l q := by
  unfold el
  rw [List.getElem?_set]
  by_cases h : q = p
  · subst h
    rw [if_pos rfl, if_pos rfl, if_pos (by omega)]; rfl
  · rw [if_neg h, if_neg (by omega)]

structure Valid (gv : TGame) : Prop where
  n1 : 1 ≤ gv.owner.length
  n2 : gv.owner.length ≤ 24
  m : gv.arcs.length ≤ 60
  own : ∀ p : Int, 0 ≤ p → p < gv.owner.length → el gv.owner p = 0 ∨ el gv.owner p = 1
  arc : ∀ a ∈ gv.arcs, 0 ≤ a.1 ∧ a.1 < gv.owner.length ∧ 0 ≤ a.2 ∧ a.2 < gv.owner.length
  inc : ∀ (k : Nat) a b, gv.arcs[k]? = some a → gv.arcs[k + 1]? = some b → a.1 < b.1 ∨ a.1 = b.1 ∧ a.2 < b.2

theorem compare2 (a1 a2 b1 b2 : Int) : slices_Compare_int_int [a1, a2] [b1, b2] = some (if a1 < b1 then -1 else if b1 < a1 then 1 else if a2 < b2 then -1 else if b2 < a2 then 1 else 0) := by
  by_cases h1 : a1 < b1
  · simp [slices_Compare_int_int, rngX, rngN, slices_Compare_int_int_l1, ix, cmp_Compare_int, cmp_isNaN_int, h1]
  · by_cases h2 : b1 < a1
    · simp [slices_Compare_int_int, rngX, rngN, slices_Compare_int_int_l1, ix, cmp_Compare_int, cmp_isNaN_int, h1, h2]
    · by_cases h3 : a2 < b2
      · simp [slices_Compare_int_int, rngX, rngN, slices_Compare_int_int_l1, ix, cmp_Compare_int, cmp_isNaN_int, h1, h2, h3]
      · by_cases h4 : b2 < a2
        · simp [slices_Compare_int_int, rngX, rngN, slices_Compare_int_int_l1, ix, cmp_Compare_int, cmp_isNaN_int, h1, h2, h3, h4]
        · simp [slices_Compare_int_int, rngX, rngN, slices_Compare_int_int_l1, ix, cmp_Compare_int, cmp_isNaN_int, h1, h2, h3, h4]

theorem validate_spec (gv : TGame) : ∃ f, games_Validate gv = some f ∧ ((f = ⟨0, 0⟩ ∧ Valid gv) ∨ f.code ≠ 0) := by
  unfold games_Validate
  by_cases hn : (gv.owner.length : Int) = 0 ∨ 24 < (gv.owner.length : Int)
  · exact ⟨⟨9, -1⟩, by rw [if_pos (by simpa using hn)], .inr (by simp)⟩
  · rw [if_neg (by simpa using hn)]
    by_cases hm : 60 < (gv.arcs.length : Int)
    · exact ⟨⟨2, -1⟩, by rw [if_pos hm], .inr (by simp)⟩
    · rw [if_neg hm]
      refine Or.elim (rngX_inv (body := games_Validate_l1 gv) (n := (gv.owner.length : Int)) (s := ()) (fun k _ => ∀ p : Int, 0 ≤ p → p < k → el gv.owner p = 0 ∨ el gv.owner p = 1) (fun o => o.code ≠ 0) (by omega) (by intro p h1 h2; omega) (fun j s h0 h1 hP => ?_)) (fun ⟨s', h1, h2⟩ => ?_) (fun ⟨o, h1, h2⟩ => ?_)
      rotate_left
      · rw [h1]
        simp only [Option.bind_some]
        refine Or.elim (rngX_inv (body := games_Validate_l2 gv) (n := (gv.arcs.length : Int)) (s := ()) (fun k _ => (∀ (i : Nat) a, (i : Int) < k → gv.arcs[i]? = some a → 0 ≤ a.1 ∧ a.1 < gv.owner.length ∧ 0 ≤ a.2 ∧ a.2 < gv.owner.length) ∧ ∀ (i : Nat) a b, ((i + 1 : Nat) : Int) < k → gv.arcs[i]? = some a → gv.arcs[i + 1]? = some b → a.1 < b.1 ∨ a.1 = b.1 ∧ a.2 < b.2) (fun o => o.code ≠ 0) (by omega) ⟨fun i a h => by omega, fun i a b h => by omega⟩ (fun j s h0 h1 hP => ?_)) (fun ⟨s', h3, h4⟩ => ?_) (fun ⟨o, h3, h4⟩ => ?_)
        rotate_left
        · rw [h3]
          refine ⟨⟨0, 0⟩, rfl, .inl ⟨rfl, by omega, by omega, by omega, h2, fun a ha => ?_, fun k a b ha hb => ?_⟩⟩
          · obtain ⟨i, hi⟩ := List.getElem?_of_mem ha
            exact h4.1 i a (by have := (List.getElem?_eq_some_iff.1 hi).1; omega) hi
          · exact h4.2 k a b (by have := (List.getElem?_eq_some_iff.1 hb).1; omega) ha hb
        · rw [h3]; exact ⟨o, rfl, .inr h4⟩
        · obtain ⟨a, ha1, ha2⟩ := ix_of (l := gv.arcs) h0 h1
          unfold games_Validate_l2
          simp only [ha1, Option.bind_some]
          by_cases hr : min a.1 a.2 < 0 ∨ (gv.owner.length : Int) ≤ max a.1 a.2
          · exact .inr ⟨⟨3, j⟩, by rw [if_pos (by simpa using hr)], by simp⟩
          · rw [if_neg (by simpa using hr)]
            have hP1 : ∀ (i : Nat) b, (i : Int) < j + 1 → gv.arcs[i]? = some b → 0 ≤ b.1 ∧ b.1 < gv.owner.length ∧ 0 ≤ b.2 ∧ b.2 < gv.owner.length := fun i b hi hb => by
              by_cases hij : (i : Int) < j
              · exact hP.1 i b hij hb
              · have : i = j.toNat := by omega
                subst this
                rw [ha2] at hb; cases hb
                omega
            by_cases hj : 0 < j
            · obtain ⟨b, hb1, hb2⟩ := ix_of (l := gv.arcs) (i := j - 1) (by omega) (by omega)
              rw [if_pos hj, hb1]
              simp only [Option.bind_some, compare2]
              by_cases hlt : b.1 < a.1 ∨ b.1 = a.1 ∧ b.2 < a.2
              · refine .inl ⟨(), ?_, hP1, fun i c d hi hc hd => ?_⟩
                · rw [if_neg]
                  simp only [decide_eq_true_eq]
                  split
                  · omega
                  · split
                    · omega
                    · split
                      · omega
                      · omega
                · by_cases hij : ((i + 1 : Nat) : Int) < j
                  · exact hP.2 i c d hij hc hd
                  · have e1 : i = (j - 1).toNat := by omega
                    have e2 : i + 1 = j.toNat := by omega
                    rw [e1, hb2] at hc; rw [e2, ha2] at hd
                    cases hc; cases hd
                    exact hlt
              · refine .inr ⟨⟨5, j⟩, ?_, by simp⟩
                rw [if_pos]
                simp only [decide_eq_true_eq]
                split
                · omega
                · split
                  · omega
                  · split
                    · omega
                    · split <;> omega
            · rw [if_neg hj]
              refine .inl ⟨(), by simp, hP1, fun i c d hi hc hd => ?_⟩
              have : ((i + 1 : Nat) : Int) < 1 := by omega
              omega
      · rw [h1]; exact ⟨o, rfl, .inr h2⟩
      · unfold games_Validate_l1
        rw [ix_el h0 h1]
        simp only [Option.bind_some]
        by_cases ho : el gv.owner j = 0 ∨ el gv.owner j = 1
        · refine .inl ⟨(), by rw [if_neg (by simp; omega)], fun p hp0 hp1 => ?_⟩
          by_cases hpj : p < j
          · exact hP p hp0 hpj
          · have : p = j := by omega
            subst this; exact ho
        · exact .inr ⟨⟨3, -2 - j⟩, by rw [if_pos (by simp; omega)], by simp⟩

/-- Positions in order. -/
structure PosOk (n : Nat) (l : List Int) : Prop where
  rng : ∀ p ∈ l, 0 ≤ p ∧ p < n
  inc : ∀ (k : Nat) a b, l[k]? = some a → l[k + 1]? = some b → a < b

theorem check_spec (gv : TGame) (player : Int) (l : List Int) : ∃ f, games_check gv player l = some f ∧ ((f = ⟨0, 0⟩ ∧ Valid gv ∧ (player = 0 ∨ player = 1) ∧ PosOk gv.owner.length l) ∨ f.code ≠ 0) := by
  unfold games_check
  obtain ⟨f, h1, h2⟩ := validate_spec gv
  rw [h1]
  simp only [Option.bind_some]
  rcases h2 with ⟨rfl, hV⟩ | hf
  · rw [if_neg (by simp)]
    by_cases hp : player = 0 ∨ player = 1
    · rw [if_neg (by simp; omega)]
      refine Or.elim (rngX_inv (body := games_check_l1 gv l) (n := (l.length : Int)) (s := ()) (fun k _ => (∀ (i : Nat) a, (i : Int) < k → l[i]? = some a → 0 ≤ a ∧ a < gv.owner.length) ∧ ∀ (i : Nat) a b, ((i + 1 : Nat) : Int) < k → l[i]? = some a → l[i + 1]? = some b → a < b) (fun o => o.code ≠ 0) (by omega) ⟨fun i a h => by omega, fun i a b h => by omega⟩ (fun j s h0 h1 hP => ?_)) (fun ⟨s', h3, h4⟩ => ?_) (fun ⟨o, h3, h4⟩ => ?_)
      rotate_left
      · rw [h3]
        refine ⟨⟨0, 0⟩, rfl, .inl ⟨rfl, hV, hp, fun a ha => ?_, fun k a b ha hb => ?_⟩⟩
        · obtain ⟨i, hi⟩ := List.getElem?_of_mem ha
          exact h4.1 i a (by have := (List.getElem?_eq_some_iff.1 hi).1; omega) hi
        · exact h4.2 k a b (by have := (List.getElem?_eq_some_iff.1 hb).1; omega) ha hb
      · rw [h3]; exact ⟨o, rfl, .inr h4⟩
      · obtain ⟨a, ha1, ha2⟩ := ix_of (l := l) h0 h1
        unfold games_check_l1
        simp only [ha1, Option.bind_some]
        by_cases hr : a < 0 ∨ (gv.owner.length : Int) ≤ a
        · exact .inr ⟨⟨3, -31⟩, by rw [if_pos (by simpa using hr)], by simp⟩
        · rw [if_neg (by simpa using hr)]
          have hP1 : ∀ (i : Nat) b, (i : Int) < j + 1 → l[i]? = some b → 0 ≤ b ∧ b < gv.owner.length := fun i b hi hb => by
            by_cases hij : (i : Int) < j
            · exact hP.1 i b hij hb
            · have : i = j.toNat := by omega
              subst this
              rw [ha2] at hb; cases hb
              omega
          by_cases hj : 0 < j
          · obtain ⟨b, hb1, hb2⟩ := ix_of (l := l) (i := j - 1) (by omega) (by omega)
            rw [if_pos hj, hb1]
            simp only [Option.bind_some]
            by_cases hlt : b < a
            · refine .inl ⟨(), by rw [if_neg (by simpa using hlt)], hP1, fun i c d hi hc hd => ?_⟩
              by_cases hij : ((i + 1 : Nat) : Int) < j
              · exact hP.2 i c d hij hc hd
              · have e1 : i = (j - 1).toNat := by omega
                have e2 : i + 1 = j.toNat := by omega
                rw [e1, hb2] at hc; rw [e2, ha2] at hd
                cases hc; cases hd
                exact hlt
            · exact .inr ⟨⟨5, -31⟩, by rw [if_pos (by simpa using hlt)], by simp⟩
          · rw [if_neg hj]
            refine .inl ⟨(), by simp, hP1, fun i c d hi hc hd => ?_⟩
            have : ((i + 1 : Nat) : Int) < 1 := by omega
            omega
    · exact ⟨⟨3, -30⟩, by rw [if_pos (by simp; omega)], .inr (by simp)⟩
  · exact ⟨f, by rw [if_pos (by simp; omega)], .inr hf⟩

/-- The positions that can be moved to. -/
def mvs (gv : TGame) (p : Int) : List Int := (gv.arcs.filter fun a => decide (a.1 = p)).map (·.2)
theorem mem_mvs {gv : TGame} {p q : Int} : q ∈ mvs gv p ↔ (p, q) ∈ gv.arcs := by
  simp only [mvs, List.mem_map, List.mem_filter, decide_eq_true_eq]
  constructor
  · rintro ⟨a, ⟨h1, h2⟩, h3⟩
    obtain ⟨x, y⟩ := a
    simp only at h2 h3
    subst h2 h3; exact h1
  · intro h; exact ⟨(p, q), ⟨h, rfl⟩, rfl⟩

theorem moves_spec {gv : TGame} (hV : Valid gv) : ∃ M, games_moves gv = some M ∧ M.length = gv.owner.length ∧ ∀ p : Int, 0 ≤ p → p < gv.owner.length → ix M p = some (mvs gv p) := by
  unfold games_moves
  have hn2 := hV.n2
  have h1 : mkL 24 (gv.owner.length : Int) ([] : List Int) = some (List.replicate gv.owner.length []) := by
    unfold mkL
    rw [if_pos ⟨by omega, by omega, by omega⟩, Int.toNat_natCast]
  rw [h1]
  simp only [Option.bind_some]
  obtain ⟨M, h2, h3, h4⟩ := forR_inv (body := games_moves_l1 gv) (n := (gv.arcs.length : Int)) (s := List.replicate gv.owner.length ([] : List Int))
    (fun k M => M.length = gv.owner.length ∧ ∀ p : Int, 0 ≤ p → p < gv.owner.length → ix M p = some (((gv.arcs.take k.toNat).filter fun a => decide (a.1 = p)).map (·.2))) (by omega)
    ⟨by simp, fun p hp0 hp1 => by
      rw [ix_eq hp0, List.getElem?_replicate, if_pos (by omega)]; simp⟩
    (fun j M h0 h1 ⟨hl, hM⟩ => by
      obtain ⟨a, ha1, ha2⟩ := ix_of (l := gv.arcs) h0 h1
      obtain ⟨ra, rb, rc, rd⟩ := hV.arc a (List.mem_of_getElem? ha2)
      have hrow := hM a.1 ra rb
      have hm := hV.m
      have happ : app 8 (((gv.arcs.take j.toNat).filter fun b => decide (b.1 = a.1)).map (·.2)) [a.2] = some ((((gv.arcs.take j.toNat).filter fun b => decide (b.1 = a.1)).map (·.2)) ++ [a.2]) := by
        unfold app
        rw [if_pos]
        have := List.length_filter_le (fun b : Int × Int => decide (b.1 = a.1)) (gv.arcs.take j.toNat)
        have h5 : (gv.arcs.take j.toNat).length ≤ 60 := by rw [List.length_take]; omega
        simp only [List.length_map, List.length_cons, List.length_nil]
        omega
      refine ⟨_, by unfold games_moves_l1; simp only [ha1, Option.bind_some, hrow, happ]; rfl, by simpa using hl, fun p hp0 hp1 => ?_⟩
      have htk : gv.arcs.take (j + 1).toNat = gv.arcs.take j.toNat ++ [a] := by
        rw [show (j + 1).toNat = j.toNat + 1 by omega, List.take_add_one, ha2]; rfl
      rw [htk, ix_eq hp0, List.getElem?_set]
      by_cases hpa : p = a.1
      · subst hpa
        rw [if_pos rfl, if_pos (by omega)]
        simp
      · rw [if_neg (by omega), ← ix_eq hp0, hM p hp0 hp1]
        simp [Ne.symm hpa])
  refine ⟨M, by rw [h2]; rfl, h3, fun p hp0 hp1 => ?_⟩
  rw [h4 p hp0 hp1, mvs, List.take_of_length_le (by omega)]
end Ab
