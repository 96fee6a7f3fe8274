/-
  GAMES, plainly: the ranks of the document's answer solve the same equations.
-/
import Derived.Test.YtkhkglbonojeaaaPg5
namespace Ab
open Go

/-- The least and the greatest value behind the moves. -/
theorem ranked_l4_spec {gv : TGame} (hV : Valid gv) {p : Int} {c : List Int} (hc : c.length = gv.owner.length) (hv : ∀ q : Int, 0 ≤ q → q < gv.owner.length → 0 ≤ el c q ∧ el c q ≤ 1000000000) :
    ∃ low high, forR 0 (gv.arcs.length : Int) (ref8_Ranked_l4 gv p c) (1000000000, -1) = some (low, high) ∧
      (∀ q ∈ mvs gv p, low ≤ el c q ∧ el c q ≤ high) ∧ (low = 1000000000 ∨ ∃ q ∈ mvs gv p, low = el c q) ∧ ((high = -1 ∧ mvs gv p = []) ∨ ∃ q ∈ mvs gv p, high = el c q) ∧ low ≤ 1000000000 := by
  obtain ⟨⟨low, high⟩, h1, h2⟩ := forR_inv (body := ref8_Ranked_l4 gv p c) (n := (gv.arcs.length : Int)) (s := ((1000000000, -1) : Int × Int))
    (fun k s => (∀ q ∈ ((gv.arcs.take k.toNat).filter fun a => decide (a.1 = p)).map (·.2), s.1 ≤ el c q ∧ el c q ≤ s.2) ∧ (s.1 = 1000000000 ∨ ∃ q ∈ ((gv.arcs.take k.toNat).filter fun a => decide (a.1 = p)).map (·.2), s.1 = el c q) ∧
      ((s.2 = -1 ∧ ((gv.arcs.take k.toNat).filter fun a => decide (a.1 = p)).map (·.2) = []) ∨ ∃ q ∈ ((gv.arcs.take k.toNat).filter fun a => decide (a.1 = p)).map (·.2), s.2 = el c q) ∧ s.1 ≤ 1000000000) (by omega)
    ⟨by simp, .inl rfl, .inl ⟨rfl, by simp⟩, by simp⟩
    (fun j s h0 h1 ⟨i1, i2, i3, i4⟩ => by
      obtain ⟨low, high⟩ := s
      dsimp only at i1 i2 i3 i4
      obtain ⟨a, ha1, ha2⟩ := ix_of (l := gv.arcs) h0 h1
      obtain ⟨_, _, r3, r4⟩ := hV.arc a (List.mem_of_getElem? ha2)
      have htk : gv.arcs.take (j + 1).toNat = gv.arcs.take j.toNat ++ [a] := by
        rw [show (j + 1).toNat = j.toNat + 1 by omega, List.take_add_one, ha2]; rfl
      have hx := ix_el (l := c) r3 (by omega)
      have hva := hv a.2 r3 r4
      unfold ref8_Ranked_l4
      simp only [ha1, Option.bind_some, htk, List.filter_append, List.map_append, hx]
      by_cases hap : a.1 = p
      · have e1 : List.map (fun x : Int × Int => x.2) (List.filter (fun a : Int × Int => decide (a.1 = p)) [a]) = [a.2] := by simp [hap]
        rw [e1, if_pos hap]
        refine ⟨(if el c a.2 < low then el c a.2 else low, if high < el c a.2 then el c a.2 else high), ?_, ?_⟩
        · by_cases g1 : el c a.2 < low <;> by_cases g2 : high < el c a.2 <;> simp [g1, g2]
        · refine ⟨fun q hq => ?_, ?_, ?_, ?_⟩
          · rcases List.mem_append.1 hq with hq | hq
            · have := i1 q hq
              constructor <;> dsimp only <;> split <;> omega
            · have : q = a.2 := by simpa using hq
              subst this
              constructor <;> dsimp only <;> split <;> omega
          · dsimp only
            split
            · exact .inr ⟨a.2, by simp, rfl⟩
            · rcases i2 with i2 | ⟨q, hq, i2⟩
              · exact .inl i2
              · exact .inr ⟨q, List.mem_append.2 (.inl hq), i2⟩
          · dsimp only
            split
            · exact .inr ⟨a.2, by simp, rfl⟩
            · rcases i3 with ⟨i3, _⟩ | ⟨q, hq, i3⟩
              · omega
              · exact .inr ⟨q, List.mem_append.2 (.inl hq), i3⟩
          · dsimp only; split <;> omega
      · have e1 : List.map (fun x : Int × Int => x.2) (List.filter (fun a : Int × Int => decide (a.1 = p)) [a]) = [] := by simp [hap]
        rw [e1, if_neg hap, List.append_nil]
        exact ⟨(low, high), rfl, i1, i2, i3, i4⟩)
  rw [List.take_of_length_le (by omega)] at h2
  exact ⟨low, high, h1, h2⟩

/-- What holds of the values at any time. -/
structure RInv (gv : TGame) (player : Int) (T c : List Int) : Prop where
  len : c.length = gv.owner.length
  rng : ∀ q : Int, 0 ≤ q → q < gv.owner.length → 0 ≤ el c q ∧ el c q ≤ 1000000000
  tgt : ∀ p : Int, 0 ≤ p → p < gv.owner.length → p ∈ T → el c p = 0
  low : ∀ p : Int, 0 ≤ p → p < gv.owner.length → p ∉ T → el c p = 1000000000 ∨ (mvs gv p ≠ [] ∧ if el gv.owner p = player then ∃ q ∈ mvs gv p, el c q + 1 ≤ el c p else ∀ q ∈ mvs gv p, el c q + 1 ≤ el c p)
  fin : ∀ p : Int, 0 ≤ p → p < gv.owner.length → el c p = 1000000000 ∨ el c p + 1 + (c.count 1000000000 : Nat) ≤ gv.owner.length

/-- Nothing is to be done at p. -/
def Stable (gv : TGame) (player : Int) (c : List Int) (p : Int) : Prop :=
  mvs gv p ≠ [] → if el gv.owner p = player then ∀ q ∈ mvs gv p, el c p ≤ el c q + 1 else ∃ q ∈ mvs gv p, el c p ≤ el c q + 1

def tot (c : List Int) : Nat := (c.map Int.toNat).sum
theorem tot_set : ∀ (c : List Int) (i : Nat) (v : Int), i < c.length → 0 ≤ v → v < (c[i]?).getD 0 → tot (c.set i v) < tot c
  | [], i, v, h, _, _ => by simp at h
  | a :: c, 0, v, _, h0, h => by
    simp only [List.getElem?_cons_zero, Option.getD_some] at h
    simp only [tot, List.set_cons_zero, List.map_cons, List.sum_cons]; omega
  | a :: c, i + 1, v, hl, h0, h => by
    have := tot_set c i v (by simpa using hl) h0 (by simpa using h)
    simp only [tot, List.set_cons_succ, List.map_cons, List.sum_cons] at this ⊢; omega
theorem cnt_set : ∀ (c : List Int) (i : Nat) (v : Int), i < c.length → v ≠ 1000000000 → (c.set i v).count 1000000000 + (if (c[i]?).getD 0 = 1000000000 then 1 else 0) = c.count 1000000000
  | [], i, v, h, _ => by simp at h
  | a :: c, 0, v, _, h => by
    simp only [List.getElem?_cons_zero, Option.getD_some, List.set_cons_zero, List.count_cons]
    have : (v == 1000000000) = false := by simpa using h
    rw [this]
    by_cases ha : a = 1000000000
    · simp [ha]
    · have h2 : (a == 1000000000) = false := by simpa using ha
      simp [h2, ha]
  | a :: c, i + 1, v, hl, h => by
    have := cnt_set c i v (by simpa using hl) h
    simp only [List.getElem?_cons_succ, List.set_cons_succ, List.count_cons] at this ⊢; omega

/-- A value sinks. -/
theorem RInv.set {gv : TGame} (hV : Valid gv) {player p v : Int} {T c : List Int} (h : RInv gv player T c) (hp0 : 0 ≤ p) (hp1 : p < gv.owner.length) (hv0 : 0 ≤ v) (hlt : v + 1 < el c p) (hne : mvs gv p ≠ [])
    (hv : if el gv.owner p = player then ∃ q ∈ mvs gv p, el c q = v else (∀ q ∈ mvs gv p, el c q ≤ v) ∧ ∃ q ∈ mvs gv p, el c q = v) : RInv gv player T (c.set p.toNat (v + 1)) ∧ tot (c.set p.toNat (v + 1)) < tot c := by
  have hpc : p < (c.length : Int) := by rw [h.len]; exact hp1
  have hrp := h.rng p hp0 hp1
  have elS : ∀ q : Int, 0 ≤ q → el (c.set p.toNat (v + 1)) q = if q = p then v + 1 else el c q := fun q hq => el_set hp0 hpc hq
  have le : ∀ q : Int, 0 ≤ q → el (c.set p.toNat (v + 1)) q ≤ el c q := fun q hq => by
    rw [elS q hq]; split
    · subst_vars; omega
    · omega
  have self : ∀ q ∈ mvs gv p, el c q ≤ v → q ≠ p := fun q hq hqv e => by subst e; omega
  have hpT : p ∉ T := fun hT => by have := h.tgt p hp0 hp1 hT; omega
  have hpi : (c[p.toNat]?).getD 0 = el c p := rfl
  have hcs := cnt_set c p.toNat (v + 1) (by omega) (by omega)
  rw [hpi] at hcs
  have hvfin : v + 1 + (c.count 1000000000 : Nat) ≤ gv.owner.length := by
    obtain ⟨q, hq, hqv⟩ : ∃ q ∈ mvs gv p, el c q = v := by
      split at hv
      · exact hv
      · exact hv.2
    have hqr := mvs_rng hV hq
    rcases h.fin q hqr.1 hqr.2 with g | g <;> omega
  refine ⟨⟨by simpa using h.len, fun q g0 g1 => ?_, fun q g0 g1 hT => ?_, fun q g0 g1 hT => ?_, fun q g0 g1 => ?_⟩, ?_⟩
  · have := h.rng q g0 g1
    rw [elS q g0]; split <;> omega
  · rw [elS q g0]
    split
    · subst_vars; exact absurd hT hpT
    · exact h.tgt q g0 g1 hT
  · rw [elS q g0]
    by_cases hqp : q = p
    · subst hqp
      rw [if_pos rfl]
      refine .inr ⟨hne, ?_⟩
      by_cases ho : el gv.owner q = player
      · rw [if_pos ho] at hv ⊢
        obtain ⟨x, hx, hxv⟩ := hv
        have hxr := mvs_rng hV hx
        exact ⟨x, hx, by rw [elS x hxr.1, if_neg (self x hx (by omega))]; omega⟩
      · rw [if_neg ho] at hv ⊢
        intro x hx
        have hxr := mvs_rng hV hx
        have := hv.1 x hx
        rw [elS x hxr.1, if_neg (self x hx this)]; omega
    · rw [if_neg hqp]
      rcases h.low q g0 g1 hT with g | ⟨g, g2⟩
      · exact .inl g
      · refine .inr ⟨g, ?_⟩
        split
        · rename_i ho
          rw [if_pos ho] at g2
          obtain ⟨x, hx, hxv⟩ := g2
          have hxr := mvs_rng hV hx
          have := le x hxr.1
          exact ⟨x, hx, by omega⟩
        · rename_i ho
          rw [if_neg ho] at g2
          intro x hx
          have hxr := mvs_rng hV hx
          have := le x hxr.1
          have := g2 x hx
          omega
  · rw [elS q g0]
    by_cases hqp : q = p
    · rw [if_pos hqp]
      right
      split at hcs <;> (try omega)
      rcases h.fin p hp0 hp1 with g | g <;> omega
    · rw [if_neg hqp]
      rcases h.fin q g0 g1 with g | g
      · exact .inl g
      · right; split at hcs <;> omega
  · exact tot_set c p.toNat (v + 1) (by omega) (by omega) (by rw [hpi]; exact hlt)

theorem ranked_l3_spec {gv : TGame} (hV : Valid gv) {player p : Int} {T c : List Int} {ag : Bool} (h : RInv gv player T c) (hp0 : 0 ≤ p) (hp1 : p < gv.owner.length) :
    ∃ c' ag', ref8_Ranked_l3 gv player p (c, ag) = some (c', ag') ∧ ((c' = c ∧ ag' = ag ∧ Stable gv player c p) ∨ (ag' = true ∧ RInv gv player T c' ∧ tot c' < tot c)) := by
  obtain ⟨low, high, h1, h2, h3, h4, h5⟩ := ranked_l4_spec hV (p := p) h.len h.rng
  have hpc : p < (c.length : Int) := by rw [h.len]; exact hp1
  have hrp := h.rng p hp0 hp1
  unfold ref8_Ranked_l3
  simp only [h1, Option.bind_some, ix_el hp0 hp1, ix_el hp0 hpc]
  by_cases hh : 0 ≤ high
  · have hne : mvs gv p ≠ [] := by
      rcases h4 with ⟨h4, _⟩ | ⟨q, hq, _⟩
      · omega
      · exact List.ne_nil_of_mem hq
    have hhi : high ≤ 1000000000 := by
      rcases h4 with ⟨h4, _⟩ | ⟨q, hq, h4⟩
      · omega
      · have := mvs_rng hV hq
        have := h.rng q this.1 this.2
        omega
    have hlo : 0 ≤ low := by
      rcases h3 with h3 | ⟨q, hq, h3⟩
      · omega
      · have := mvs_rng hV hq
        have := h.rng q this.1 this.2
        omega
    by_cases ho : el gv.owner p = player
    · have w : w64 (low + 1) = low + 1 := w64_of (by omega) (by omega)
      by_cases hlt : low + 1 < el c p
      · refine ⟨c.set p.toNat (low + 1), true, by simp [ho, hh, w, hlt], .inr ⟨rfl, h.set hV hp0 hp1 hlo hlt hne ?_⟩⟩
        rw [if_pos ho]
        rcases h3 with h3 | ⟨q, hq, h3⟩
        · omega
        · exact ⟨q, hq, h3.symm⟩
      · refine ⟨c, ag, by simp [ho, hh, w, hlt], .inl ⟨rfl, rfl, fun _ => ?_⟩⟩
        rw [if_pos ho]
        intro q hq
        have := h2 q hq
        omega
    · have w : w64 (high + 1) = high + 1 := w64_of (by omega) (by omega)
      by_cases hlt : high + 1 < el c p
      · refine ⟨c.set p.toNat (high + 1), true, by simp [ho, hh, w, hlt], .inr ⟨rfl, h.set hV hp0 hp1 hh hlt hne ?_⟩⟩
        rw [if_neg ho]
        rcases h4 with ⟨h4, _⟩ | ⟨q, hq, h4⟩
        · omega
        · exact ⟨fun q hq => (h2 q hq).2, q, hq, h4.symm⟩
      · refine ⟨c, ag, by simp [ho, hh, w, hlt], .inl ⟨rfl, rfl, fun _ => ?_⟩⟩
        rw [if_neg ho]
        rcases h4 with ⟨h4, _⟩ | ⟨q, hq, h4⟩
        · omega
        · exact ⟨q, hq, by omega⟩
  · have hnil : mvs gv p = [] := by
      rcases h4 with ⟨_, h4⟩ | ⟨q, hq, h4⟩
      · exact h4
      · have := mvs_rng hV hq
        have := h.rng q this.1 this.2
        omega
    refine ⟨c, ag, ?_, .inl ⟨rfl, rfl, fun hne => absurd hnil hne⟩⟩
    by_cases ho : el gv.owner p = player <;> simp [ho, hh]

theorem RInv.done {gv : TGame} (hV : Valid gv) {player : Int} {T c R : List Int} (h : RInv gv player T c) (hs : ∀ p : Int, 0 ≤ p → p < gv.owner.length → Stable gv player c p)
    (hl : R.length = gv.owner.length) (hR : ∀ p : Int, 0 ≤ p → p < gv.owner.length → el R p = if el c p = 1000000000 then -1 else el c p) : IsFix gv player T R ∧ ∀ p : Int, 0 ≤ p → p < gv.owner.length → el R p ≤ 24 := by
  have hn2 := hV.n2
  have fin : ∀ p : Int, 0 ≤ p → p < gv.owner.length → el c p = 1000000000 ∨ el c p ≤ 23 := fun p h0 h1 => by
    rcases h.fin p h0 h1 with g | g <;> omega
  refine ⟨⟨hl, fun p h0 h1 hT => ?_, fun p h0 h1 hT => ?_⟩, fun p h0 h1 => ?_⟩
  · rw [hR p h0 h1, h.tgt p h0 h1 hT]; rfl
  · have hst := hs p h0 h1
    unfold Stable at hst
    rw [hR p h0 h1]
    by_cases hinf : el c p = 1000000000
    · rw [if_pos hinf]
      refine .inl ⟨rfl, ?_⟩
      unfold LocI
      by_cases ho : el gv.owner p = player
      · rw [if_pos ho] at hst ⊢
        intro q hq
        have hqr := mvs_rng hV hq
        have := hst (List.ne_nil_of_mem hq) q hq
        rw [hR q hqr.1 hqr.2, if_pos]
        rcases fin q hqr.1 hqr.2 with g | g <;> omega
      · rw [if_neg ho] at hst ⊢
        by_cases hm : mvs gv p = []
        · exact .inl hm
        · obtain ⟨q, hq, hq1⟩ := hst hm
          have hqr := mvs_rng hV hq
          refine .inr ⟨q, hq, ?_⟩
          rw [hR q hqr.1 hqr.2, if_pos]
          rcases fin q hqr.1 hqr.2 with g | g <;> omega
    · rw [if_neg hinf]
      rcases h.low p h0 h1 hT with g | ⟨hne, hlow⟩
      · exact absurd g hinf
      · have hst := hst hne
        have hfp := fin p h0 h1
        unfold LocF
        by_cases ho : el gv.owner p = player
        · rw [if_pos ho] at hst hlow
          obtain ⟨q, hq, hq1⟩ := hlow
          have hqr := mvs_rng hV hq
          have hqn := h.rng q hqr.1 hqr.2
          have := hst q hq
          refine .inr ⟨el c p - 1, by omega, by omega, ⟨q, hq, by rw [hR q hqr.1 hqr.2, if_neg (by omega)]; omega⟩, ?_⟩
          rw [if_pos ho]
          intro x hx
          have hxr := mvs_rng hV hx
          have := hst x hx
          rw [hR x hxr.1 hxr.2]
          split <;> omega
        · rw [if_neg ho] at hst hlow
          obtain ⟨q, hq, hq1⟩ := hst
          have hqr := mvs_rng hV hq
          have hqn := h.rng q hqr.1 hqr.2
          have := hlow q hq
          refine .inr ⟨el c p - 1, by omega, by omega, ⟨q, hq, by rw [hR q hqr.1 hqr.2, if_neg (by omega)]; omega⟩, ?_⟩
          rw [if_neg ho]
          intro x hx
          have hxr := mvs_rng hV hx
          have := hlow x hx
          have := h.rng x hxr.1 hxr.2
          rw [hR x hxr.1 hxr.2, if_neg (by omega)]
          omega
  · rw [hR p h0 h1]
    rcases fin p h0 h1 with g | g
    · rw [if_pos g]; omega
    · split <;> omega

theorem ranked_spec {gv : TGame} (hV : Valid gv) {player : Int} {T : List Int} : ∃ R, ref8_Ranked gv player T = some R ∧ IsFix gv player T R ∧ ∀ p : Int, 0 ≤ p → p < gv.owner.length → el R p ≤ 24 := by
  have hn1 := hV.n1
  have hn2 := hV.n2
  unfold ref8_Ranked
  have e1 : mkL 8 (gv.owner.length : Int) (0 : Int) = some (List.replicate gv.owner.length 0) := by
    unfold mkL
    rw [if_pos ⟨by omega, by omega, by omega⟩, Int.toNat_natCast]
  rw [e1]
  simp only [Option.bind_some]
  obtain ⟨c4, h1, h2, h3⟩ := forR_inv (body := ref8_Ranked_l1 T) (n := (gv.owner.length : Int)) (s := List.replicate gv.owner.length (0 : Int))
    (fun k c => c.length = gv.owner.length ∧ ∀ p : Int, 0 ≤ p → p < gv.owner.length → el c p = if p < k ∧ p ∉ T then 1000000000 else 0) (by omega)
    ⟨by simp, fun p hp0 hp1 => by
      have : p.toNat < gv.owner.length := by omega
      rw [if_neg (by omega)]
      simp [el, List.getElem?_replicate, this]⟩
    (fun j c h0 h1 ⟨hl, hc⟩ => by
      unfold ref8_Ranked_l1
      simp only [has_spec, Option.bind_some, ix_el h0 (show j < (c.length : Int) by omega)]
      by_cases hT : j ∈ T
      · refine ⟨c, by simp [hT], hl, fun p hp0 hp1 => ?_⟩
        rw [hc p hp0 hp1]
        by_cases hpj : p = j
        · subst hpj; rw [if_neg (by simp [hT]), if_neg (by simp [hT])]
        · congr 1
          simp only [eq_iff_iff, and_congr_left_iff]; intro _; omega
      · refine ⟨c.set j.toNat 1000000000, by simp [hT], by simpa using hl, fun p hp0 hp1 => ?_⟩
        rw [el_set h0 (by omega) hp0]
        by_cases hpj : p = j
        · rw [if_pos hpj, if_pos ⟨by omega, by rw [hpj]; exact hT⟩]
        · rw [if_neg hpj, hc p hp0 hp1]
          congr 1
          simp only [eq_iff_iff, and_congr_left_iff]; intro _; omega)
  rw [h1]
  simp only [Option.bind_some]
  have c4v : ∀ p : Int, 0 ≤ p → p < gv.owner.length → (p ∈ T ∧ el c4 p = 0) ∨ (p ∉ T ∧ el c4 p = 1000000000) := fun p hp0 hp1 => by
    have := h3 p hp0 hp1
    by_cases hT : p ∈ T
    · rw [if_neg (by simp [hT])] at this; exact .inl ⟨hT, this⟩
    · rw [if_pos ⟨hp1, hT⟩] at this; exact .inr ⟨hT, this⟩
  have inv0 : RInv gv player T c4 := ⟨h2, fun p hp0 hp1 => by rcases c4v p hp0 hp1 with ⟨_, g⟩ | ⟨_, g⟩ <;> omega, fun p hp0 hp1 hT => by
      rcases c4v p hp0 hp1 with ⟨_, g⟩ | ⟨g, _⟩
      · exact g
      · exact absurd hT g, fun p hp0 hp1 hT => by
      rcases c4v p hp0 hp1 with ⟨g, _⟩ | ⟨_, g⟩
      · exact absurd g hT
      · exact .inl g, fun p hp0 hp1 => by
      rcases c4v p hp0 hp1 with ⟨_, g⟩ | ⟨_, g⟩
      · right
        have hlt : c4.count 1000000000 < c4.length := by
          refine Nat.lt_of_le_of_ne List.count_le_length fun e => ?_
          have hall := List.count_eq_length.1 e
          have hpl : p.toNat < c4.length := by omega
          have := hall (c4[p.toNat]) (List.getElem_mem hpl)
          simp only [el, List.getElem?_eq_getElem hpl, Option.getD_some] at g
          omega
        omega
      · exact .inl g⟩
  obtain ⟨c11, g1, g2, g3⟩ := Loop_inv (body := ref8_Ranked_l2 gv player) (fun s => RInv gv player T s.1 ∧ (s.2 = false → ∀ p : Int, 0 ≤ p → p < gv.owner.length → Stable gv player s.1 p))
    (fun c => RInv gv player T c ∧ ∀ p : Int, 0 ≤ p → p < gv.owner.length → Stable gv player c p) (fun s => 2 * tot s.1 + if s.2 then 1 else 0) (s := (c4, true)) ⟨inv0, fun h => by cases h⟩ (fun s hs => by
    obtain ⟨c, ag⟩ := s
    obtain ⟨hs1, hs2⟩ := hs
    dsimp only at hs1 hs2 ⊢
    unfold ref8_Ranked_l2
    cases ag with
    | false => exact .inr ⟨c, by simp, hs1, hs2 rfl⟩
    | true =>
      left
      obtain ⟨⟨c', ag'⟩, k1, k2, k3, k4⟩ := forR_inv (body := ref8_Ranked_l3 gv player) (n := (gv.owner.length : Int)) (s := (c, false))
        (fun j s => RInv gv player T s.1 ∧ (s.2 = true → tot s.1 < tot c) ∧ (s.2 = false → s.1 = c ∧ ∀ p : Int, 0 ≤ p → p < j → Stable gv player c p)) (by omega)
        ⟨hs1, (fun h => by simp at h), (fun _ => ⟨rfl, fun p h0 h1 => by omega⟩)⟩
        (fun j s h0 h1 ⟨i1, i2, i3⟩ => by
          obtain ⟨c2, ag2⟩ := s
          dsimp only at i1 i2 i3
          obtain ⟨c3, ag3, e1, e2⟩ := ranked_l3_spec hV (ag := ag2) i1 h0 h1
          refine ⟨(c3, ag3), e1, ?_⟩
          dsimp only
          rcases e2 with ⟨rfl, rfl, e3⟩ | ⟨rfl, e3, e4⟩
          · refine ⟨i1, i2, fun hf => ⟨(i3 hf).1, fun p g0 g1 => ?_⟩⟩
            by_cases hpj : p = j
            · subst hpj
              rw [(i3 hf).1] at e3; exact e3
            · exact (i3 hf).2 p g0 (by omega)
          · refine ⟨e3, fun _ => ?_, fun hf => by cases hf⟩
            cases ag2 with
            | true => have := i2 rfl; omega
            | false => rw [(i3 rfl).1] at e4; exact e4)
      dsimp only at k2 k3 k4
      refine ⟨(c', ag'), by simp [k1], ⟨k2, fun hf => ?_⟩, ?_⟩
      · obtain ⟨e, k⟩ := k4 hf
        dsimp only at e ⊢
        rw [e]; exact k
      · cases ag' with
        | true => have := k3 rfl; simp only [if_true]; omega
        | false => rw [(k4 rfl).1]; simp)
  rw [g1]
  simp only [Option.bind_some]
  obtain ⟨R, k1, k2, k3⟩ := forR_inv (body := ref8_Ranked_l5) (n := (gv.owner.length : Int)) (s := c11)
    (fun j R => R.length = gv.owner.length ∧ ∀ p : Int, 0 ≤ p → p < gv.owner.length → el R p = if p < j ∧ el c11 p = 1000000000 then -1 else el c11 p) (by omega)
    ⟨g2.len, fun p h0 h1 => by rw [if_neg (by omega)]⟩
    (fun j c h0 h1 ⟨hl, hc⟩ => by
      have hj := hc j h0 h1
      rw [if_neg (by omega)] at hj
      have hrj := g2.rng j h0 h1
      unfold ref8_Ranked_l5
      simp only [ix_el h0 (show j < (c.length : Int) by omega), Option.bind_some, hj]
      by_cases hb : 1000000000 ≤ el c11 j
      · refine ⟨c.set j.toNat (-1), by simp [hb], by simpa using hl, fun p hp0 hp1 => ?_⟩
        rw [el_set h0 (by omega) hp0]
        by_cases hpj : p = j
        · rw [if_pos hpj, if_pos ⟨by omega, by rw [hpj]; omega⟩]
        · rw [if_neg hpj, hc p hp0 hp1]
          congr 1
          simp only [eq_iff_iff, and_congr_left_iff]; intro _; omega
      · refine ⟨c, by simp [hb], hl, fun p hp0 hp1 => ?_⟩
        rw [hc p hp0 hp1]
        by_cases hpj : p = j
        · subst hpj; rw [if_neg (by omega), if_neg (by omega)]
        · congr 1
          simp only [eq_iff_iff, and_congr_left_iff]; intro _; omega)
  rw [k1]
  exact ⟨R, rfl, g2.done hV g3 k2 fun p h0 h1 => by rw [k3 p h0 h1]; congr 1; simp [h1]⟩
end Ab
