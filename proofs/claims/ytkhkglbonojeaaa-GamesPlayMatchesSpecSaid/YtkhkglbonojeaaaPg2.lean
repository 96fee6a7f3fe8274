/-
  GAMES, plainly: the ranks that attract computes are the one solution of their equations.
-/
import Derived.Test.YtkhkglbonojeaaaPg1
namespace Ab
open Go

/-- What a rank says about the ranks of the positions behind the moves. -/
def LocF (gv : TGame) (player : Int) (R : List Int) (p k : Int) : Prop :=
  (∃ q ∈ mvs gv p, el R q = k) ∧ if el gv.owner p = player then ∀ q ∈ mvs gv p, el R q = -1 ∨ k ≤ el R q else ∀ q ∈ mvs gv p, 0 ≤ el R q ∧ el R q ≤ k
def LocI (gv : TGame) (player : Int) (R : List Int) (p : Int) : Prop :=
  if el gv.owner p = player then ∀ q ∈ mvs gv p, el R q = -1 else mvs gv p = [] ∨ ∃ q ∈ mvs gv p, el R q = -1
structure IsFix (gv : TGame) (player : Int) (T R : List Int) : Prop where
  len : R.length = gv.owner.length
  tgt : ∀ p : Int, 0 ≤ p → p < gv.owner.length → p ∈ T → el R p = 0
  non : ∀ p : Int, 0 ≤ p → p < gv.owner.length → p ∉ T → (el R p = -1 ∧ LocI gv player R p) ∨ ∃ k, 0 ≤ k ∧ el R p = k + 1 ∧ LocF gv player R p k

theorem mvs_rng {gv : TGame} (hV : Valid gv) {p q : Int} (h : q ∈ mvs gv p) : 0 ≤ q ∧ q < gv.owner.length := by
  obtain ⟨_, _, h1, h2⟩ := hV.arc _ (mem_mvs.1 h)
  exact ⟨h1, h2⟩

/-- With more targets, no rank is larger. -/
theorem IsFix.le {gv : TGame} {player : Int} {T T' R R' : List Int} (hV : Valid gv) (hT : ∀ p ∈ T, p ∈ T') (h : IsFix gv player T R) (h' : IsFix gv player T' R') :
    ∀ (r : Nat) (p : Int), 0 ≤ p → p < gv.owner.length → el R p = r → 0 ≤ el R' p ∧ el R' p ≤ r := by
  intro r
  induction r using Nat.strongRecOn with
  | _ r ih =>
    intro p hp0 hp1 hr
    by_cases hpT' : p ∈ T'
    · rw [h'.tgt p hp0 hp1 hpT']; omega
    · rcases h.non p hp0 hp1 (fun hc => hpT' (hT p hc)) with ⟨h1, _⟩ | ⟨k, hk, h1, ⟨q, hq, hqk⟩, h3⟩
      · omega
      · have hqr := mvs_rng hV hq
        have ihq := ih k.toNat (by omega) q hqr.1 hqr.2 (by omega)
        rcases h'.non p hp0 hp1 hpT' with ⟨g1, g2⟩ | ⟨k', hk', g1, ⟨q', hq', hqk'⟩, g3⟩
        · unfold LocI at g2
          split at g2
          · have := g2 q hq; omega
          · rename_i hne
            rw [if_neg hne] at h3
            rcases g2 with g2 | ⟨q', hq', g2⟩
            · rw [g2] at hq; cases hq
            · have hq'r := mvs_rng hV hq'
              have := h3 q' hq'
              have := ih (el R q').toNat (by omega) q' hq'r.1 hq'r.2 (by omega)
              omega
        · by_cases ho : el gv.owner p = player
          · rw [if_pos ho] at g3
            have := g3 q hq
            omega
          · rw [if_neg ho] at h3 g3
            have hq'r := mvs_rng hV hq'
            have := h3 q' hq'
            have := ih (el R q').toNat (by omega) q' hq'r.1 hq'r.2 (by omega)
            omega

theorem IsFix.val {gv : TGame} {player : Int} {T R : List Int} (h : IsFix gv player T R) {p : Int} (hp0 : 0 ≤ p) (hp1 : p < gv.owner.length) : el R p = -1 ∨ 0 ≤ el R p := by
  by_cases hT : p ∈ T
  · rw [h.tgt p hp0 hp1 hT]; omega
  · rcases h.non p hp0 hp1 hT with ⟨h1, _⟩ | ⟨k, hk, h1, _⟩ <;> omega

theorem list_el {l l' : List Int} (hl : l.length = l'.length) (h : ∀ p : Int, 0 ≤ p → p < l.length → el l p = el l' p) : l = l' := by
  apply List.ext_getElem hl
  intro i h1 h2
  have := h i (by omega) (by omega)
  simpa [el, h1, h2] using this

/-- There is one solution. -/
theorem IsFix.eq {gv : TGame} {player : Int} {T R R' : List Int} (hV : Valid gv) (h : IsFix gv player T R) (h' : IsFix gv player T R') : R = R' := by
  refine list_el (by rw [h.len, h'.len]) fun p hp0 hp1 => ?_
  rw [h.len] at hp1
  rcases h.val hp0 hp1 with h1 | h1 <;> rcases h'.val hp0 hp1 with h2 | h2
  · rw [h1, h2]
  · have := IsFix.le hV (fun _ h => h) h' h (el R' p).toNat p hp0 hp1 (by omega); omega
  · have := IsFix.le hV (fun _ h => h) h h' (el R p).toNat p hp0 hp1 (by omega); omega
  · have := IsFix.le hV (fun _ h => h) h h' (el R p).toNat p hp0 hp1 (by omega)
    have := IsFix.le hV (fun _ h => h) h' h (el R' p).toNat p hp0 hp1 (by omega)
    omega

/-! ### Functions of lists -/
theorem indexFunc_spec {sv : List Int} {fv : Int → Option Bool} (g : Int → Bool) (h : ∀ x ∈ sv, fv x = some (g x)) :
    ∃ i, slices_IndexFunc_int_int sv fv = some i ∧ ((i = -1 ∧ ∀ x ∈ sv, g x = false) ∨ (0 ≤ i ∧ ∃ x, sv[i.toNat]? = some x ∧ g x = true ∧ ∀ (j : Nat) y, (j : Int) < i → sv[j]? = some y → g y = false)) := by
  unfold slices_IndexFunc_int_int
  refine Or.elim (rngX_inv (body := slices_IndexFunc_int_int_l1 sv fv) (n := (sv.length : Int)) (s := ()) (fun k _ => ∀ (j : Nat) y, (j : Int) < k → sv[j]? = some y → g y = false) (fun i => 0 ≤ i ∧ ∃ x, sv[i.toNat]? = some x ∧ g x = true ∧ ∀ (j : Nat) y, (j : Int) < i → sv[j]? = some y → g y = false) (by omega) (fun j y h => by omega) (fun j s h0 h1 hP => ?_)) (fun ⟨s', h1, h2⟩ => ?_) (fun ⟨o, h1, h2⟩ => ?_)
  · obtain ⟨x, hx1, hx2⟩ := ix_of (l := sv) h0 h1
    unfold slices_IndexFunc_int_int_l1
    simp only [hx1, Option.bind_some, h x (List.mem_of_getElem? hx2)]
    by_cases hg : g x = true
    · exact .inr ⟨j, by rw [if_pos hg], h0, x, hx2, hg, hP⟩
    · refine .inl ⟨(), by rw [if_neg hg], fun i y hi hy => ?_⟩
      by_cases hij : (i : Int) < j
      · exact hP i y hij hy
      · have : i = j.toNat := by omega
        subst this
        rw [hx2] at hy; cases hy
        simpa using hg
  · rw [h1]
    refine ⟨-1, rfl, .inl ⟨rfl, fun x hx => ?_⟩⟩
    obtain ⟨i, hi⟩ := List.getElem?_of_mem hx
    exact h2 i x (by have := (List.getElem?_eq_some_iff.1 hi).1; omega) hi
  · rw [h1]; exact ⟨o, rfl, .inr h2⟩
theorem containsFunc_spec {sv : List Int} {fv : Int → Option Bool} (g : Int → Bool) (h : ∀ x ∈ sv, fv x = some (g x)) : slices_ContainsFunc_int_int sv fv = some (sv.any g) := by
  unfold slices_ContainsFunc_int_int
  obtain ⟨i, h1, h2⟩ := indexFunc_spec g h
  rw [h1]
  simp only [Option.bind_some, Option.some.injEq]
  rcases h2 with ⟨rfl, h2⟩ | ⟨h0, x, hx, hg, _⟩
  · rw [eq_comm, List.any_eq_false.2 (fun x hx => by simp [h2 x hx])]; rfl
  · rw [List.any_eq_true.2 ⟨x, List.mem_of_getElem? hx, hg⟩]; simpa using h0

theorem cnt_le : ∀ l l' : List Int, l'.length = l.length → (∀ i : Nat, l'[i]? = some (-1) → l[i]? = some (-1)) → l'.count (-1) ≤ l.count (-1)
  | [], [], _, _ => Nat.le_refl _
  | [], _ :: _, h, _ => by simp at h
  | _ :: _, [], h, _ => by simp at h
  | a :: l, b :: l', hl, h => by
    have ih := cnt_le l l' (by simpa using hl) (fun i hi => by simpa using h (i + 1) (by simpa using hi))
    have h0 := h 0
    simp only [List.getElem?_cons_zero, Option.some.injEq] at h0
    simp only [List.count_cons]
    by_cases hb : b = -1
    · rw [hb, h0 hb]; omega
    · have : (b == -1) = false := by simpa using hb
      rw [this]; simp only [Bool.false_eq_true, if_false]; omega
theorem cnt_lt : ∀ (l l' : List Int), l'.length = l.length → (∀ i : Nat, l'[i]? = some (-1) → l[i]? = some (-1)) → (∃ i : Nat, l[i]? = some (-1) ∧ l'[i]? ≠ some (-1)) → l'.count (-1) < l.count (-1)
  | [], _, _, _, ⟨i, h, _⟩ => by simp at h
  | _ :: _, [], h, _, _ => by simp at h
  | a :: l, b :: l', hl, h, ⟨i, h1, h2⟩ => by
    have hh : ∀ i : Nat, l'[i]? = some (-1) → l[i]? = some (-1) := fun i hi => by simpa using h (i + 1) (by simpa using hi)
    have hle := cnt_le l l' (by simpa using hl) hh
    have h0 := h 0
    simp only [List.getElem?_cons_zero, Option.some.injEq] at h0
    simp only [List.count_cons]
    cases i with
    | zero =>
      simp only [List.getElem?_cons_zero, Option.some.injEq] at h1
      have hb : b ≠ -1 := fun e => h2 (by simp [e])
      have : (b == -1) = false := by simpa using hb
      rw [this, h1]; simp only [Bool.false_eq_true, if_false, beq_self_eq_true, if_true]; omega
    | succ i =>
      have ih := cnt_lt l l' (by simpa using hl) hh ⟨i, by simpa using h1, by simpa using h2⟩
      by_cases hb : b = -1
      · rw [hb, h0 hb]; omega
      · have : (b == -1) = false := by simpa using hb
        rw [this]; simp only [Bool.false_eq_true, if_false]; omega
end Ab
