/-
  Texts that the proof stands on.
-/
import Derived.Test.YtpccoiobnjnciaaKRwConFree5
set_option linter.all false
section
namespace Ab
open Go
def up (n : Int) (s : List Int) (b : Bool) : List Int := s ++ if b = true then [n] else []
theorem R3 {n x : Int} {s : List Int} {b : Bool} : x ∈ up n s b ↔ x ∈ s ∨ b = true ∧ x = n := by
 unfold up; cases b <;> simp
theorem setN_up {n : Int} {s : List Int} {b : Bool} (h0 : 0 ≤ n) (h : SetN s n) : SetN (up n s b) (n + 1) := by
 refine ⟨?_, fun x hx => ?_⟩
 ·unfold up
  refine List.pairwise_append.2 ⟨h.1, by cases b <;> simp, fun a ha c hc => ?_⟩
  have := h.2 a ha
  cases b
  ·simp at hc
  ·simp at hc; omega
 ·rcases R3.1 hx with hx | ⟨_, rfl⟩
  ·have := h.2 x hx; omega
  ·omega
section
variable {t : d5} {op : Int}
theorem req_len : (reqT t op).operators.length = t.operators.length := by simp [reqT]
theorem X2 (h0 : 0 ≤ op) (h1 : op < t.operators.length) {q : Int} (q0 : 0 ≤ q) : opAt (reqT t op) q = if q = op then ⟨(opAt t op).pre, (opAt t op).add ++ [t.facts], (opAt t op).del, (opAt t op).cost⟩ else opAt t q := by
 show ((t.operators.set op.toNat _)[q.toNat]?).getD noOp = _
 rw [List.getElem?_set]
 by_cases e : q = op
 ·subst e; rw [if_pos rfl, if_pos rfl, if_pos (by omega)]; rfl
 ·rw [if_neg e, if_neg (by omega)]; rfl
theorem pre_req (h0 : 0 ≤ op) (h1 : op < t.operators.length) {q : Int} (q0 : 0 ≤ q) : (opAt (reqT t op) q).pre = (opAt t q).pre := by
 rw [X2 h0 h1 q0]; split
 ·rename_i e; rw [e]
 ·rfl
theorem del_req (h0 : 0 ≤ op) (h1 : op < t.operators.length) {q : Int} (q0 : 0 ≤ q) : (opAt (reqT t op) q).del = (opAt t q).del := by
 rw [X2 h0 h1 q0]; split
 ·rename_i e; rw [e]
 ·rfl
theorem cost_req (h0 : 0 ≤ op) (h1 : op < t.operators.length) {q : Int} (q0 : 0 ≤ q) : (opAt (reqT t op) q).cost = (opAt t q).cost := by
 rw [X2 h0 h1 q0]; split
 ·rename_i e; rw [e]
 ·rfl
theorem add_req (h0 : 0 ≤ op) (h1 : op < t.operators.length) {q x : Int} (q0 : 0 ≤ q) : x ∈ (opAt (reqT t op) q).add ↔ x ∈ (opAt t q).add ∨ q = op ∧ x = t.facts := by
 rw [X2 h0 h1 q0]; split
 ·rename_i e; subst e; simp
 ·rename_i e; simp [e]
theorem can_req (ht : i4 t) (h0 : 0 ≤ op) (h1 : op < t.operators.length) {q : Int} (q0 : 0 ≤ q) (q1 : q < t.operators.length) {s : List Int} {b : Bool} : can (reqT t op) (up t.facts s b) q ↔ can t s q := by
 unfold can
 rw [pre_req h0 h1 q0]
 have hp := (O0 ht q0 q1).1.1
 refine ⟨fun h x hx => ?_, fun h x hx => R3.2 (.inl (h x hx))⟩
 rcases R3.1 (h x hx) with k | ⟨_, rfl⟩
 ·exact k
 ·have := hp.2 _ hx; omega
theorem aft_req (ht : i4 t) (h0 : 0 ≤ op) (h1 : op < t.operators.length) {q : Int} (q0 : 0 ≤ q) (q1 : q < t.operators.length) {s : List Int} {b : Bool} (hs : SetN s t.facts) : aft (reqT t op) (up t.facts s b) q = up t.facts (aft t s q) (b || decide (q = op)) := by
 obtain ⟨k1, k2, k3, k4⟩ := (O0 ht q0 q1).1
 refine ((setN_up ht.n0 (ab3 t s q)).eq_of fun x x0 x1 => ?_).symm
 rw [add_req h0 h1 q0, del_req h0 h1 q0, R3, R3]
 unfold aft
 rw [P3]
 have d1 : t.facts ∉ (opAt t q).del := fun h => by have := k3.2 _ h; omega
 have d2 : t.facts ∉ (opAt t q).add := fun h => by have := k2.2 _ h; omega
 have d3 : t.facts ∉ s := fun h => by have := hs.2 _ h; omega
 by_cases e : x = t.facts
 ·subst e; simp [d1, d2, d3, or_comm]
 ·have : x < t.facts := by change x < t.facts + 1 at x1; omega
  simp [e, x0, this]
theorem ends_req (ht : i4 t) (h0 : 0 ≤ op) (h1 : op < t.operators.length) : ∀ {p s : List Int} {b : Bool}, SetN s t.facts → Val t p → ends (reqT t op) (up t.facts s b) p = (ends t s p).map fun e => up t.facts e (b || decide (op ∈ p))
 | [], s, b, _, _ => by simp [ends]
 | q :: p, s, b, hs, hv => by
  have hq := hv q (by simp)
  simp only [ends]
  rw [H9 (can_req ht h0 h1 hq.1 hq.2)]
  split
  ·rw [aft_req ht h0 h1 hq.1 hq.2 hs, ends_req ht h0 h1 (ab3 t s q) (fun x hx => hv x (List.mem_cons_of_mem _ hx))]
   have : (b || decide (q = op) || decide (op ∈ p)) = (b || decide (op ∈ q :: p)) := by
    rw [Bool.or_assoc]; congr 1
    rw [← Bool.decide_or]; apply decide_eq_decide.2
    rw [List.mem_cons, eq_comm]
   rw [this]
  ·rfl
theorem works_req (ht : i4 t) (h0 : 0 ≤ op) (h1 : op < t.operators.length) {p s : List Int} {b : Bool} (hs : SetN s t.facts) (hv : Val t p) : J7 (reqT t op) (up t.facts s b) p ↔ J7 t s p ∧ (b = true ∨ op ∈ p) := by
 unfold J7
 rw [ends_req ht h0 h1 hs hv]
 have hg : ∀ x ∈ t.goal, x < t.facts := fun x hx => (ht.goal.2 x hx).2
 constructor
 ·rintro ⟨e, e1, e2⟩
  cases e' : ends t s p with
  | none => rw [e'] at e1; cases e1
  | some u =>
   rw [e'] at e1
   simp only [Option.map_some, Option.some.injEq] at e1
   subst e1
   have hu := ends_setN hs e'
   refine ⟨⟨u, rfl, fun x hx => ?_⟩, ?_⟩
   ·rcases R3.1 (e2 x (List.mem_append_left _ hx)) with k | ⟨_, rfl⟩
    ·exact k
    ·have := hg _ hx; omega
   ·rcases R3.1 (e2 t.facts (List.mem_append_right _ (by simp))) with k | ⟨k, _⟩
    ·have := hu.2 _ k; omega
    ·simpa using k
 ·rintro ⟨⟨u, u1, u2⟩, k⟩
  rw [u1]
  refine ⟨_, rfl, fun x hx => ?_⟩
  rcases List.mem_append.1 hx with hx | hx
  ·exact R3.2 (.inl (u2 x hx))
  ·exact R3.2 (.inr ⟨by simpa using k, by simpa using hx⟩)
theorem val_req {p : List Int} : Val (reqT t op) p ↔ Val t p := by unfold Val; rw [req_len]
theorem pcost_req (h0 : 0 ≤ op) (h1 : op < t.operators.length) : ∀ {p : List Int}, Val t p → A7 (reqT t op) p = A7 t p
 | [], _ => rfl
 | q :: p, hv => by
  simp only [A7]
  rw [cost_req h0 h1 (hv q (by simp)).1, pcost_req h0 h1 fun x hx => hv x (List.mem_cons_of_mem _ hx)]
theorem works_req0 (ht : i4 t) (h0 : 0 ≤ op) (h1 : op < t.operators.length) {p : List Int} (hv : Val t p) : J7 (reqT t op) (reqT t op).init p ↔ J7 t t.init p ∧ op ∈ p := by
 have := works_req ht h0 h1 (b := false) ht.init hv
 have e : up t.facts t.init false = (reqT t op).init := by simp [up, reqT]
 rw [e] at this; rw [this]; simp
theorem SetN.weak {l : List Int} {n m : Int} (h : SetN l n) (hm : n ≤ m) : SetN l m := ⟨h.1, fun x hx => by have := h.2 x hx; omega⟩
theorem req_ok (ht : i4 t) (h0 : 0 ≤ op) (h1 : op < t.operators.length) (hf : t.facts < 24) : i4 (reqT t op) where
 n0 := by have := ht.n0; show 0 ≤ t.facts + 1; omega
 n1 := by show t.facts + 1 ≤ 24; omega
 init := ht.init.weak (by show t.facts ≤ t.facts + 1; omega)
 goal := by
  have := setN_up (b := true) ht.n0 ht.goal
  simpa [up, reqT] using this
 ops := by rw [req_len]; exact ht.ops
 op := fun o ho => by
  obtain ⟨q, q0, q1, q2⟩ := C9 ho
  rw [req_len] at q1
  rw [ix_op q0 (by rw [req_len]; exact q1)] at q2
  cases q2
  obtain ⟨⟨k1, k2, k3, k4⟩, k5⟩ := O0 ht q0 q1
  have hle : t.facts ≤ (reqT t op).facts := by show t.facts ≤ t.facts + 1; omega
  refine ⟨⟨by rw [pre_req h0 h1 q0]; exact k1.weak hle, ?_, by rw [del_req h0 h1 q0]; exact k3.weak hle, fun x hx => ?_⟩, by unfold N5; rw [cost_req h0 h1 q0]; exact k5⟩
  ·rw [X2 h0 h1 q0]
   split
   ·rename_i e; subst e
    have := setN_up (b := true) ht.n0 k2
    simpa [up, reqT] using this
   ·exact k2.weak hle
  ·rw [del_req h0 h1 q0]
   rcases (add_req h0 h1 q0).1 hx with hx | ⟨_, rfl⟩
   ·exact k4 x hx
   ·exact fun h => by have := k3.2 _ h; omega
theorem rt_req (ht : i4 t) (h0 : 0 ≤ op) (h1 : op < t.operators.length) {s : List Int} (h : Rt (reqT t op) s) : ∃ u b, Rt t u ∧ s = up t.facts u b := by
 induction h with
 | init => exact ⟨t.init, false, .init, by simp [up, reqT]⟩
 | @step s q h q0 q1 hc ih =>
  obtain ⟨u, b, hu, rfl⟩ := ih
  rw [req_len] at q1
  exact ⟨_, _, hu.step q0 q1 ((can_req ht h0 h1 q0 q1).1 hc), aft_req ht h0 h1 q0 q1 (hu.setN ht)⟩
theorem many_req (ht : i4 t) (h0 : 0 ≤ op) (h1 : op < t.operators.length) {l : List (List Int)} (hl : l.length ≤ 1000) (hm : ∀ s, Rt t s → s ∈ l) : ¬ Many (reqT t op) := by
 rintro ⟨m, m1, m2, m3⟩
 have := U2 m1 (S := l.map (up t.facts · false) ++ l.map (up t.facts · true)) fun s hs => by
  obtain ⟨u, b, hu, rfl⟩ := rt_req ht h0 h1 (m3 s hs)
  cases b
  ·exact List.mem_append_left _ (List.mem_map.2 ⟨u, hm u hu, rfl⟩)
  ·exact List.mem_append_right _ (List.mem_map.2 ⟨u, hm u hu, rfl⟩)
 simp at this
 omega
/-! ### Without the operator -/
def re (op q : Int) : Int := if q < op then q else q + 1
theorem for_len (h0 : 0 ≤ op) (h1 : op < t.operators.length) : ((forT t op).operators.length : Int) = t.operators.length - 1 := by
 simp only [forT, List.length_append, List.length_take, List.length_drop]; omega
theorem Y1 (h0 : 0 ≤ op) (h1 : op < t.operators.length) {q : Int} (q0 : 0 ≤ q) : opAt (forT t op) q = opAt t (re op q) := by
 show ((t.operators.take op.toNat ++ t.operators.drop (op.toNat + 1))[q.toNat]?).getD noOp = _
 unfold re opAt
 by_cases e : q < op
 ·rw [if_pos e, List.getElem?_append_left (by rw [List.length_take]; omega), List.getElem?_take_of_lt (by omega)]
 ·rw [if_neg e, List.getElem?_append_right (by rw [List.length_take]; omega), List.getElem?_drop, List.length_take]
  congr 2; omega
theorem re_ok (h0 : 0 ≤ op) (h1 : op < t.operators.length) {q : Int} (q0 : 0 ≤ q) (q1 : q < (forT t op).operators.length) : 0 ≤ re op q ∧ re op q < t.operators.length ∧ re op q ≠ op := by
 have := for_len h0 h1
 unfold re; split <;> omega
theorem ends_for (h0 : 0 ≤ op) (h1 : op < t.operators.length) : ∀ {p s : List Int}, Val (forT t op) p → ends (forT t op) s p = ends t s (p.map (re op))
 | [], s, _ => rfl
 | q :: p, s, hv => by
  have hq := hv q (by simp)
  have e1 : can (forT t op) s q = can t s (re op q) := by unfold can; rw [Y1 h0 h1 hq.1]
  have e2 : aft (forT t op) s q = aft t s (re op q) := by unfold aft; rw [Y1 h0 h1 hq.1]; rfl
  simp only [List.map_cons, ends, e1, e2]
  rw [ends_for h0 h1 fun x hx => hv x (List.mem_cons_of_mem _ hx)]
theorem works_for (h0 : 0 ≤ op) (h1 : op < t.operators.length) {p s : List Int} (hv : Val (forT t op) p) : J7 (forT t op) s p ↔ J7 t s (p.map (re op)) := by
 unfold J7; rw [ends_for h0 h1 hv]; rfl
theorem val_for (h0 : 0 ≤ op) (h1 : op < t.operators.length) {p : List Int} (hv : Val (forT t op) p) : Val t (p.map (re op)) ∧ op ∉ p.map (re op) := by
 refine ⟨fun x hx => ?_, fun hx => ?_⟩
 ·obtain ⟨q, hq, rfl⟩ := List.mem_map.1 hx
  have := re_ok h0 h1 (hv q hq).1 (hv q hq).2
  exact ⟨this.1, this.2.1⟩
 ·obtain ⟨q, hq, e⟩ := List.mem_map.1 hx
  exact (re_ok h0 h1 (hv q hq).1 (hv q hq).2).2.2 e
theorem of_for (h0 : 0 ≤ op) (h1 : op < t.operators.length) {p : List Int} (hv : Val t p) (hn : op ∉ p) : ∃ p', Val (forT t op) p' ∧ p'.map (re op) = p := by
 have hl := for_len h0 h1
 refine ⟨p.map fun q => if q < op then q else q - 1, fun x hx => ?_, ?_⟩
 ·obtain ⟨q, hq, rfl⟩ := List.mem_map.1 hx
  have := hv q hq
  have : q ≠ op := fun e => hn (e ▸ hq)
  split <;> omega
 ·rw [List.map_map]
  refine (List.map_congr_left fun q hq => ?_).trans (List.map_id p)
  have : q ≠ op := fun e => hn (e ▸ hq)
  simp only [Function.comp, re, id]
  by_cases c : q < op
  ·rw [if_pos c, if_pos c]
  ·rw [if_neg c, if_neg (by omega)]; omega
theorem pcost_for (h0 : 0 ≤ op) (h1 : op < t.operators.length) : ∀ {p : List Int}, Val (forT t op) p → A7 (forT t op) p = A7 t (p.map (re op))
 | [], _ => rfl
 | q :: p, hv => by
  simp only [List.map_cons, A7]
  rw [Y1 h0 h1 (hv q (by simp)).1, pcost_for h0 h1 fun x hx => hv x (List.mem_cons_of_mem _ hx)]
theorem for_ok (ht : i4 t) (h0 : 0 ≤ op) (h1 : op < t.operators.length) : i4 (forT t op) where
 n0 := ht.n0
 n1 := ht.n1
 init := ht.init
 goal := ht.goal
 ops := by have := for_len h0 h1; have := ht.ops; omega
 op := fun o ho => ht.op o (by
  rcases List.mem_append.1 ho with ho | ho
  ·exact List.mem_of_mem_take ho
  ·exact List.mem_of_mem_drop ho)
theorem rt_for (h0 : 0 ≤ op) (h1 : op < t.operators.length) {s : List Int} (h : Rt (forT t op) s) : Rt t s := by
 induction h with
 | init => exact .init
 | @step s q h q0 q1 hc ih =>
  have e1 : can (forT t op) s q = can t s (re op q) := by unfold can; rw [Y1 h0 h1 q0]
  have e2 : aft (forT t op) s q = aft t s (re op q) := by unfold aft; rw [Y1 h0 h1 q0]; rfl
  have := re_ok h0 h1 q0 q1
  rw [e2]
  exact ih.step this.1 this.2.1 (by rw [← e1]; exact hc)
theorem many_for (h0 : 0 ≤ op) (h1 : op < t.operators.length) (h : Many (forT t op)) : Many t := by
 obtain ⟨m, m1, m2, m3⟩ := h
 exact ⟨m, m1, m2, fun s hs => rt_for h0 h1 (m3 s hs)⟩
end
end Ab
end
section
namespace Ab
open Go
def LC (t : d5) (P : List Int → Prop) (k : Int) : Prop := (∀ p, P p → k ≤ A7 t p) ∧ 0 ≤ k ∧ ((k = 1000000000 ∧ ∀ p, ¬ P p) ∨ (k < 1000000000 ∧ ∃ p, P p ∧ A7 t p = k))
def Sol (t : d5) (s p : List Int) : Prop := Val t p ∧ J7 t s p
theorem LC.eq {t : d5} {P : List Int → Prop} {k k' : Int} (h : LC t P k) (h' : LC t P k') : k = k' := by
 obtain ⟨a1, a2, a3⟩ := h
 obtain ⟨b1, b2, b3⟩ := h'
 rcases a3 with ⟨a3, a4⟩ | ⟨a3, p, a4, a5⟩
 ·rcases b3 with ⟨b3, b4⟩ | ⟨b3, q, b4, b5⟩
  ·omega
  ·exact absurd b4 (a4 q)
 ·rcases b3 with ⟨b3, b4⟩ | ⟨b3, q, b4, b5⟩
  ·exact absurd a4 (b4 p)
  ·have := a1 q b4; have := b1 p a4; omega
theorem LC.le {t : d5} {P : List Int → Prop} {k : Int} (h : LC t P k) : k ≤ 1000000000 := by
 obtain ⟨a1, a2, ⟨a3, a4⟩ | ⟨a3, p, a4, a5⟩⟩ := h <;> omega
theorem OptR.lc {t : d5} {r : Int × g9} (h : OptR t r) (hc : r.2.code = 0) : LC t (Sol t t.init) r.1 := by
 cases h with
 | bad _ _ hc' => exact absurd hc hc'
 | many => simp at hc
 | none h hf hn => exact ⟨fun p hp => absurd hp.2 (hn p hp.1), by simp, .inl ⟨rfl, fun p hp => hn p hp.1 hp.2⟩⟩
 | some h hf h0 h1 hv hw hk hl => exact ⟨fun p hp => hl p hp.1 hp.2, h0, .inr ⟨by simp only; omega, _, ⟨hv, hw⟩, hk⟩⟩
theorem OptR.mny {t : d5} {r : Int × g9} (h : OptR t r) (ht : i4 t) (hc : r.2.code ≠ 0) : Many t ∧ r = (0, ⟨10, -7⟩) := by
 cases h with
 | bad h => exact absurd ht h
 | many _ hm => exact ⟨hm, rfl⟩
 | none => simp at hc
 | some => simp at hc
theorem OptR.idx {t : d5} {r : Int × g9} (h : OptR t r) (hc : r.2.code = 0) : r.2 = ⟨0, 0⟩ := by
 cases h with
 | bad _ _ hc' => exact absurd hc hc'
 | many => simp at hc
 | none => rfl
 | some => rfl
section
variable {t : d5} {op : Int}
theorem lc_req (ht : i4 t) (h0 : 0 ≤ op) (h1 : op < t.operators.length) {k : Int} (h : LC (reqT t op) (Sol (reqT t op) (reqT t op).init) k) : LC t (fun p => Sol t t.init p ∧ op ∈ p) k := by
 have key : ∀ p, Sol (reqT t op) (reqT t op).init p ↔ Sol t t.init p ∧ op ∈ p := fun p => by
  unfold Sol
  constructor
  ·rintro ⟨a, b⟩
   have a := val_req.1 a
   have := (works_req0 ht h0 h1 a).1 b
   exact ⟨⟨a, this.1⟩, this.2⟩
  ·rintro ⟨⟨a, b⟩, c⟩
   exact ⟨val_req.2 a, (works_req0 ht h0 h1 a).2 ⟨b, c⟩⟩
 obtain ⟨a1, a2, a3⟩ := h
 refine ⟨fun p hp => ?_, a2, a3.imp (fun ⟨a, b⟩ => ⟨a, fun p hp => b p ((key p).2 hp)⟩) (fun ⟨a, p, b, c⟩ => ?_)⟩
 ·rw [← pcost_req h0 h1 hp.1.1]; exact a1 p ((key p).2 hp)
 ·have := (key p).1 b
  exact ⟨a, p, this, by rw [← pcost_req h0 h1 this.1.1]; exact c⟩
theorem lc_for (h0 : 0 ≤ op) (h1 : op < t.operators.length) {k : Int} (h : LC (forT t op) (Sol (forT t op) (forT t op).init) k) : LC t (fun p => Sol t t.init p ∧ op ∉ p) k := by
 have to : ∀ p, Sol (forT t op) (forT t op).init p → Sol t t.init (p.map (re op)) ∧ op ∉ p.map (re op) := fun p hp =>
  ⟨⟨(val_for h0 h1 hp.1).1, (works_for h0 h1 hp.1).1 hp.2⟩, (val_for h0 h1 hp.1).2⟩
 have fro : ∀ p, Sol t t.init p → op ∉ p → ∃ q, Sol (forT t op) (forT t op).init q ∧ q.map (re op) = p := fun p hp hn => by
  obtain ⟨q, q1, q2⟩ := of_for h0 h1 hp.1 hn
  exact ⟨q, ⟨q1, (works_for h0 h1 q1).2 (by rw [q2]; exact hp.2)⟩, q2⟩
 obtain ⟨a1, a2, a3⟩ := h
 refine ⟨fun p hp => ?_, a2, a3.imp (fun ⟨a, b⟩ => ⟨a, fun p hp => ?_⟩) (fun ⟨a, p, b, c⟩ => ⟨a, _, to p b, by rw [← pcost_for h0 h1 b.1]; exact c⟩)⟩
 ·obtain ⟨q, q1, rfl⟩ := fro p hp.1 hp.2
  rw [← pcost_for h0 h1 q1.1]; exact a1 q q1
 ·obtain ⟨q, q1, _⟩ := fro p hp.1 hp.2
  exact b q q1
/-! ### With and Without -/
theorem W6 (t : d5) (op : Int) : ∃ f, A6 t op = some f ∧ v7 t op = some f ∧ S4 t op = some f ∧ ((f = ⟨0, 0⟩ ∧ i4 t ∧ 0 ≤ op ∧ op < t.operators.length) ∨ (f.code ≠ 0 ∧ ¬ (i4 t ∧ 0 ≤ op ∧ op < t.operators.length))) := by
 obtain ⟨f, h1, h2, h3⟩ := validate_eq t
 unfold A6 v7 S4
 rw [h1, h2]
 simp only [oB, in_eq, at_eq]
 rcases h3 with ⟨rfl, ht⟩ | ⟨hc, hn⟩
 ·by_cases c : 0 ≤ op ∧ op < t.operators.length
  ·refine ⟨⟨0, 0⟩, ?_, ?_, ?_, .inl ⟨rfl, ht, c⟩⟩
   ·rw [if_neg (by simp), if_neg (by simp; omega)]
   ·rw [if_neg (by simp), if_neg (by simp; omega)]
   ·simp only [if_true, oB]
    rw [m9 (by omega)]; rfl
  ·refine ⟨⟨3, -6⟩, ?_, ?_, ?_, .inr ⟨by simp, fun h => c h.2⟩⟩
   ·rw [if_neg (by simp), if_pos (by simp; omega)]
   ·rw [if_neg (by simp), if_pos (by simp; omega)]
   ·simp only [if_true, oB]
    rw [D0 (by omega)]; rfl
 ·refine ⟨f, ?_, ?_, ?_, .inr ⟨hc, fun h => hn h.1⟩⟩
  ·rw [if_pos (by simp [hc])]
  ·rw [if_pos (by simp [hc])]
  ·rw [if_neg hc]; rfl
theorem require_eq (ht : i4 t) (h0 : 0 ≤ op) (h1 : op < t.operators.length) (hf : t.facts ≠ 24) : C1 t op = some (reqT t op, ⟨0, 0⟩) := by
 obtain ⟨f, _, k2, _, k4⟩ := W6 t op
 rcases k4 with ⟨rfl, _⟩ | ⟨_, k4⟩
 ·have n0 := ht.n0; have n1 := ht.n1
  have l1 := ht.goal.len24 ht.n1
  have l2 := (O0 ht h0 h1).1.2.1.len24 ht.n1
  unfold C1
  rw [k2]
  simp only [oB]
  have a1 : app 8 t.goal [t.facts] = some (t.goal ++ [t.facts]) := by unfold app; rw [if_pos (by simp; omega)]
  have a2 : app 8 (opAt t op).add [t.facts] = some ((opAt t op).add ++ [t.facts]) := by unfold app; rw [if_pos (by simp; omega)]
  rw [if_neg (by simp), if_neg hf, cclone_eq ht]
  simp only [oB, ix_op h0 h1, a1, a2, G3 (show -9223372036854775808 ≤ t.facts + 1 by omega) (by omega)]
  rfl
 ·exact absurd ⟨ht, h0, h1⟩ k4
theorem forbid_eq (ht : i4 t) (h0 : 0 ≤ op) (h1 : op < t.operators.length) : H5 t op = some (forT t op, ⟨0, 0⟩) := by
 obtain ⟨f, _, k2, _, k4⟩ := W6 t op
 rcases k4 with ⟨rfl, _⟩ | ⟨_, k4⟩
 ·have hl := ht.ops
  unfold H5
  rw [k2]
  simp only [oB]
  rw [if_neg (by simp), clone_same, cclone_eq ht]
  have hd : delL t.operators op (op + 1) = some (t.operators.take op.toNat ++ t.operators.drop (op.toNat + 1)) := by unfold delL; rw [if_pos ⟨h0, h1, rfl⟩]
  simp only [oB, G3 (show -9223372036854775808 ≤ op + 1 by omega) (by omega), hd]
  rfl
 ·exact absurd ⟨ht, h0, h1⟩ k4
inductive WithR (t : d5) (op : Int) : Int × g9 → Prop
 | bad {f : g9} (h : ¬ (i4 t ∧ 0 ≤ op ∧ op < t.operators.length)) (hc : f.code ≠ 0) (hf : S4 t op = some f) : WithR t op (0, f)
 | big (h : i4 t) (h0 : 0 ≤ op) (h1 : op < t.operators.length) (hf : t.facts = 24) : WithR t op (0, ⟨10, -8⟩)
 | opt {r : Int × g9} (h : i4 t) (h0 : 0 ≤ op) (h1 : op < t.operators.length) (hf : t.facts < 24) (hr : OptR (reqT t op) r) : WithR t op r
inductive OutR (t : d5) (op : Int) : Int × g9 → Prop
 | bad {f : g9} (h : ¬ (i4 t ∧ 0 ≤ op ∧ op < t.operators.length)) (hc : f.code ≠ 0) (hf : S4 t op = some f) : OutR t op (0, f)
 | opt {r : Int × g9} (h : i4 t) (h0 : 0 ≤ op) (h1 : op < t.operators.length) (hr : OptR (forT t op) r) : OutR t op r
theorem with_spec (t : d5) (op : Int) : ∃ r, z6 t op = some r ∧ WithR t op r := by
 obtain ⟨f, k1, k2, k3, k4⟩ := W6 t op
 unfold z6
 rw [k1]
 simp only [oB]
 rcases k4 with ⟨rfl, ht, h0, h1⟩ | ⟨hc, hn⟩
 ·rw [if_neg (by simp)]
  by_cases e : t.facts = 24
  ·unfold C1
   rw [k2]
   simp only [oB]
   rw [if_neg (by simp), if_pos e]
   simp only [oB]
   rw [if_pos (by simp)]
   exact ⟨_, rfl, .big ht h0 h1 e⟩
  ·rw [require_eq ht h0 h1 e]
   obtain ⟨r, r1, r2⟩ := S0 (reqT t op)
   simp only [oB]
   rw [if_neg (by simp), r1]
   exact ⟨r, rfl, .opt ht h0 h1 (by have := ht.n1; omega) r2⟩
 ·rw [if_pos (by simp [hc])]
  exact ⟨_, rfl, .bad hn hc k3⟩
theorem ad3 (t : d5) (op : Int) : ∃ r, u3 t op = some r ∧ OutR t op r := by
 obtain ⟨f, k1, k2, k3, k4⟩ := W6 t op
 unfold u3
 rw [k1]
 simp only [oB]
 rcases k4 with ⟨rfl, ht, h0, h1⟩ | ⟨hc, hn⟩
 ·rw [if_neg (by simp), forbid_eq ht h0 h1]
  obtain ⟨r, r1, r2⟩ := S0 (forT t op)
  simp only [oB]
  rw [if_neg (by simp), r1]
  exact ⟨r, rfl, .opt ht h0 h1 r2⟩
 ·rw [if_pos (by simp [hc])]
  exact ⟨_, rfl, .bad hn hc k3⟩
theorem WithR.lc {r : Int × g9} (h : WithR t op r) (hc : r.2.code = 0) : (i4 t ∧ 0 ≤ op ∧ op < t.operators.length) ∧ r.2 = ⟨0, 0⟩ ∧ LC t (fun p => Sol t t.init p ∧ op ∈ p) r.1 := by
 cases h with
 | bad _ hc' => exact absurd hc hc'
 | big => simp at hc
 | opt ht h0 h1 hf hr => exact ⟨⟨ht, h0, h1⟩, hr.idx hc, lc_req ht h0 h1 (hr.lc hc)⟩
theorem OutR.lc {r : Int × g9} (h : OutR t op r) (hc : r.2.code = 0) : (i4 t ∧ 0 ≤ op ∧ op < t.operators.length) ∧ r.2 = ⟨0, 0⟩ ∧ LC t (fun p => Sol t t.init p ∧ op ∉ p) r.1 := by
 cases h with
 | bad _ hc' => exact absurd hc hc'
 | opt ht h0 h1 hr => exact ⟨⟨ht, h0, h1⟩, hr.idx hc, lc_for h0 h1 (hr.lc hc)⟩
end
/-! ### The fixed task -/
theorem ab8 {t : d5} (ht : i4 t) {op : Int} : ∀ {p : List Int}, Val t p → op ∈ p → (opAt t op).cost ≤ A7 t p
 | [], _, h => by simp at h
 | q :: p, hv, h => by
  have h1 := ae6 ht (plan := p) fun x hx => hv x (List.mem_cons_of_mem _ hx)
  have h2 := hv q (by simp)
  have h3 := (O0 ht h2.1 h2.2).2.1
  simp only [A7]
  rcases List.mem_cons.1 h with rfl | h
  ·omega
  ·have := ab8 ht (p := p) (fun x hx => hv x (List.mem_cons_of_mem _ hx)) h
   omega
theorem step_few (s : List Int) (h : Rt m5 s) : s ∈ [[], [0], [1], [0, 1]] := by
 have hs := h.setN L7
 have e : s = J6 (· ∈ s) 2 := hs.eq
 by_cases a : (0 : Int) ∈ s
 ·by_cases b : (1 : Int) ∈ s
  ·rw [(setN_nil 2 |>.1 |> fun _ => hs.1.ext (m := [0, 1]) (by simp) fun x => ?_)]
   ·simp
   ·have := hs.2 x
    constructor
    ·intro hx; have := this hx; simp only [m5] at this; simp; omega
    ·intro hx; simp at hx; rcases hx with rfl | rfl <;> assumption
  ·rw [hs.1.ext (m := [0]) (by simp) fun x => ?_]
   ·simp
   ·have := hs.2 x
    constructor
    ·intro hx
     have := this hx; simp only [m5] at this
     have : x ≠ 1 := fun e => b (e ▸ hx)
     simp; omega
    ·intro hx; simp at hx; rw [hx]; exact a
 ·by_cases b : (1 : Int) ∈ s
  ·rw [hs.1.ext (m := [1]) (by simp) fun x => ?_]
   ·simp
   ·have := hs.2 x
    constructor
    ·intro hx
     have := this hx; simp only [m5] at this
     have : x ≠ 0 := fun e => a (e ▸ hx)
     simp; omega
    ·intro hx; simp at hx; rw [hx]; exact b
  ·rw [hs.1.ext (m := []) (by simp) fun x => ?_]
   ·simp
   ·have := hs.2 x
    constructor
    ·intro hx
     have := this hx; simp only [m5] at this
     have : x ≠ 0 := fun e => a (e ▸ hx)
     have : x ≠ 1 := fun e => b (e ▸ hx)
     omega
    ·intro hx; simp at hx
theorem step_many : ¬ Many m5 := by
 rintro ⟨m, m1, m2, m3⟩
 have := U2 m1 (S := [[], [0], [1], [0, 1]]) fun s hs => step_few s (m3 s hs)
 simp at this; omega
theorem ac2 {op : Int} (h : op = 0 ∨ op = 1) : Sol m5 m5.init [op] := by
 refine ⟨fun x hx => ?_, aft m5 m5.init op, ?_, fun x hx => ?_⟩
 ·simp at hx; subst hx; simp only [m5, List.length_cons, List.length_nil]; omega
 ·simp only [ends]
  rw [if_pos (m9 (show can m5 m5.init op from fun x hx => by
   rcases h with rfl | rfl
   ·simpa [opAt, m5] using hx
   ·simp [opAt, m5] at hx))]
 ·refine P3.2 ?_
  simp [m5] at hx; subst hx
  rcases h with rfl | rfl <;> simp [m5, opAt]
theorem step_ne {p : List Int} (h : Sol m5 m5.init p) : ∃ q, q ∈ p ∧ (q = 0 ∨ q = 1) := by
 cases p with
 | nil =>
  obtain ⟨_, e, h1, h2⟩ := h
  simp only [ends, Option.some.injEq] at h1; subst h1
  have := h2 1 (by simp [m5])
  simp [m5] at this
 | cons q p =>
  refine ⟨q, by simp, ?_⟩
  have := h.1 q (by simp)
  simp only [m5, List.length_cons, List.length_nil] at this
  omega
theorem step_cost0 : (opAt m5 0).cost = 1 := rfl
theorem ac1 : (opAt m5 1).cost = 3 := rfl
theorem lc_of {t : d5} {P : List Int → Prop} {k : Int} {p : List Int} (h0 : 0 ≤ k) (h1 : k < 1000000000) (hp : P p) (hk : A7 t p = k) (hl : ∀ q, P q → k ≤ A7 t q) : LC t P k := ⟨hl, h0, .inr ⟨h1, p, hp, hk⟩⟩
theorem step_opt : x4 m5 = some (1, ⟨0, 0⟩) := by
 obtain ⟨r, r1, r2⟩ := S0 m5
 have hc : r.2.code = 0 := Classical.byContradiction fun hc => step_many (r2.mny L7 hc).1
 have := (r2.lc hc).eq (lc_of (p := [0]) (k := 1) (by decide) (by decide) (ac2 (.inl rfl)) rfl fun q hq => by
  obtain ⟨x, hx, e⟩ := step_ne hq
  have := ab8 L7 hq.1 hx
  rcases e with rfl | rfl
  ·rw [step_cost0] at this; exact this
  ·rw [ac1] at this; omega)
 rw [r1, ← r2.idx hc, ← this]
theorem step_with {op : Int} (h : op = 0 ∨ op = 1) : z6 m5 op = some (if op = 0 then 1 else 3, ⟨0, 0⟩) := by
 obtain ⟨r, r1, r2⟩ := with_spec m5 op
 have h01 : 0 ≤ op ∧ op < m5.operators.length := by simp only [m5, List.length_cons, List.length_nil]; omega
 have hc : r.2.code = 0 := Classical.byContradiction fun hc => by
  cases r2 with
  | bad hn => exact hn ⟨L7, h01⟩
  | big _ _ _ hf => simp [m5] at hf
  | opt ht h0 h1 hf hr => exact many_req L7 h01.1 h01.2 (l := [[], [0], [1], [0, 1]]) (by simp) step_few (hr.mny (req_ok ht h0 h1 hf) hc).1
 obtain ⟨_, k1, k2⟩ := r2.lc hc
 have hv := ac2 h
 have := k2.eq (lc_of (p := [op]) (k := if op = 0 then 1 else 3) (by split <;> omega) (by split <;> omega) ⟨hv, by simp⟩ (by rcases h with rfl | rfl <;> rfl) fun q hq => by
  have := ab8 L7 hq.1.1 hq.2
  rcases h with rfl | rfl
  ·rw [step_cost0] at this; simpa using this
  ·rw [ac1] at this; simpa using this)
 rw [r1, ← k1, ← this]
theorem step_without : u3 m5 0 = some (3, ⟨0, 0⟩) := by
 obtain ⟨r, r1, r2⟩ := ad3 m5 0
 have h01 : (0 : Int) ≤ 0 ∧ (0 : Int) < m5.operators.length := by simp [m5]
 have hc : r.2.code = 0 := Classical.byContradiction fun hc => by
  cases r2 with
  | bad hn => exact hn ⟨L7, h01⟩
  | opt ht h0 h1 hr => exact step_many (many_for h01.1 h01.2 (hr.mny (for_ok ht h0 h1) hc).1)
 obtain ⟨_, k1, k2⟩ := r2.lc hc
 have := k2.eq (lc_of (p := [1]) (k := 3) (by decide) (by decide) ⟨ac2 (.inr rfl), by simp⟩ rfl fun q hq => by
  obtain ⟨x, hx, e⟩ := step_ne hq.1
  have hm := ab8 L7 hq.1.1 hx
  rcases e with rfl | rfl
  ·exact absurd hx hq.2
  ·rw [ac1] at hm; exact hm)
 rw [r1, ← k1, ← this]
theorem priced_true : G6 = some true := by
 unfold G6
 rw [show P7 = some m5 from rfl]
 simp only [oB]
 unfold L8
 obtain ⟨f, k1, k2, k3, k4⟩ := W6 m5 0
 rcases k4 with ⟨rfl, _⟩ | ⟨_, k4⟩
 ·rw [step_with (.inr rfl), step_with (.inl rfl), step_without, step_opt, k1]
  rfl
 ·exact absurd ⟨L7, by simp [m5], by simp [m5]⟩ k4
end Ab
end
section
namespace Ab
open Go
theorem aa1 (t : d5) (op : Int) : A9 t op = some true := by
 unfold A9
 simp only [priced_true]
 obtain ⟨o, o1, o2⟩ := S0 t
 obtain ⟨a, a1, a2⟩ := with_spec t op
 obtain ⟨b, b1, b2⟩ := ad3 t op
 rw [o1, a1, b1]
 simp only [oB]
 by_cases hc : a.2.code = 0 ∧ b.2.code = 0 ∧ o.2.code = 0
 ·obtain ⟨c1, c2, c3⟩ := hc
  rw [if_neg (by simp [c1, c2, c3])]
  have k1 := (a2.lc c1).2.2
  have k2 := (b2.lc c2).2.2
  have k3 := o2.lc c3
  have h1 : o.1 ≤ a.1 := by
   rcases k1.2.2 with ⟨e, _⟩ | ⟨_, p, hp, e⟩
   ·rw [e]; exact k3.le
   ·rw [← e]; exact k3.1 p hp.1
  have h2 : o.1 ≤ b.1 := by
   rcases k2.2.2 with ⟨e, _⟩ | ⟨_, p, hp, e⟩
   ·rw [e]; exact k3.le
   ·rw [← e]; exact k3.1 p hp.1
  have h3 : o.1 = a.1 ∨ o.1 = b.1 := by
   rcases k3.2.2 with ⟨e, _⟩ | ⟨_, p, hp, e⟩
   ·have := k1.le; left; omega
   ·by_cases hm : op ∈ p
    ·have := k1.1 p ⟨hp, hm⟩; left; omega
    ·have := k2.1 p ⟨hp, hm⟩; right; omega
  by_cases e : o.1 = a.1
  ·rw [if_pos e, if_pos h1, if_pos h2]; rfl
  ·rw [if_neg e, if_pos (h3.resolve_left e), if_pos h1, if_pos h2]; rfl
 ·rw [if_pos]
  simp only [Bool.or_eq_true, Bool.not_eq_true', decide_eq_false_iff_not]
  omega
end Ab
end
