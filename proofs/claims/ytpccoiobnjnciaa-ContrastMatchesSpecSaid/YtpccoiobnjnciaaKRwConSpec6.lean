/-
  Texts that the proof stands on.
-/
import Derived.Test.YtpccoiobnjnciaaKRwConSpec5
set_option linter.all false
section
namespace Ab
open Go
theorem half_eq {i j : Int} (h0 : 0 ≤ i) (h1 : i ≤ j) (h2 : j ≤ 1000000) : w64 (shrW .u64 ((IntKind.u64).wrap (w64 (i + j))) 1) = (i + j) / 2 := by
 rw [x6 (n := i + j) (by omega) (by omega), IntKind.wrap_u64, Int.emod_eq_of_lt (by omega) (by omega)]
 have : shrW .u64 (i + j) 1 = (i + j) / 2 := by
  simp only [shrW, IntKind.bits]
  rw [show min (1 : Int).toNat 64 = 1 by rfl, Int.fdiv_eq_ediv_of_nonneg _ (by decide)]
  rfl
 rw [this]
 exact x6 (by omega) (by omega)
theorem less_eq (a b : Int) : P9 a b = some (decide (a < b)) := by simp [P9, B9]
theorem bsearch_eq {xs : List Int} (hs : Inc xs) (hl : xs.length ≤ 500000) (t : Int) : ∃ i, p8 xs t = some (i, dec (t ∈ xs)) ∧ 0 ≤ i ∧ i ≤ xs.length ∧ (∀ k a, 0 ≤ k → k < i → ix xs k = some a → a < t) ∧ (∀ k a, i ≤ k → ix xs k = some a → t ≤ a) := by
 unfold p8
 obtain ⟨i, h1, h2, h3, h4, h5⟩ := M6 (body := w4 xs t) (fun p => (0 ≤ p.1 ∧ p.1 ≤ p.2 ∧ p.2 ≤ xs.length) ∧ (∀ k a, 0 ≤ k → k < p.1 → ix xs k = some a → a < t) ∧ (∀ k a, p.2 ≤ k → ix xs k = some a → t ≤ a))
  (fun i => 0 ≤ i ∧ i ≤ xs.length ∧ (∀ k a, 0 ≤ k → k < i → ix xs k = some a → a < t) ∧ (∀ k a, i ≤ k → ix xs k = some a → t ≤ a)) (fun p => (p.2 - p.1).toNat) (s := (0, (xs.length : Int)))
  ⟨⟨by simp, by simp, by simp⟩, fun k a h1 h2 => by simp at h2; omega, fun k a h1 h2 => by have := (m9 h2).2.1; simp at h1; omega⟩ (fun ⟨i, j⟩ ⟨⟨g1, g2, g3⟩, g4, g5⟩ => by
  dsimp only at g1 g2 g3 g4 g5 ⊢
  unfold w4
  dsimp only
  by_cases c : i < j
  ·rw [if_pos c, half_eq g1 g2 (by omega)]
   obtain ⟨a, ha, ga⟩ := n4 (l := xs) (i := (i + j) / 2) (by omega) (by omega)
   rw [ha]
   simp only [oB, less_eq, decide_eq_true_eq]
   by_cases c2 : a < t
   ·rw [if_pos c2, x6 (by omega) (by omega)]
    refine .inl ⟨_, rfl, ⟨⟨by dsimp only; omega, by dsimp only; omega, g3⟩, fun k b k0 k1 hb => ?_, g5⟩, by dsimp only; omega⟩
    dsimp only at k1
    obtain ⟨_, _, gb⟩ := m9 hb
    by_cases e : k = (i + j) / 2
    ·subst e; rw [ha] at hb; cases hb; exact c2
    ·have := hs.get gb ga (by omega); omega
   ·rw [if_neg c2]
    refine .inl ⟨_, rfl, ⟨⟨g1, by dsimp only; omega, by dsimp only; omega⟩, g4, fun k b k0 hb => ?_⟩, by dsimp only; omega⟩
    dsimp only at k0
    obtain ⟨_, _, gb⟩ := m9 hb
    by_cases e : k = (i + j) / 2
    ·subst e; rw [ha] at hb; cases hb; omega
    ·have := hs.get ga gb (by omega); omega
  ·rw [if_neg c]
   have : i = j := by omega
   subst this
   exact .inr ⟨i, rfl, g1, g3, g4, g5⟩)
 rw [h1]
 simp only [oB]
 refine ⟨i, ?_, h2, h3, h4, h5⟩
 have nin : (∀ a, ix xs i = some a → a ≠ t) → t ∉ xs := fun hne hin => by
  obtain ⟨k, k0, k1, hk⟩ := y8 hin
  rcases Int.lt_trichotomy k i with c | c | c
  ·have := h4 k t k0 c hk; omega
  ·subst c; exact hne t hk rfl
  ·obtain ⟨b, hb, gb⟩ := n4 (l := xs) (i := i) (by omega) (by omega)
   obtain ⟨_, _, gk⟩ := m9 hk
   have := hs.get gb gk (by omega)
   have := h5 i b (Int.le_refl _) hb
   omega
 by_cases c : i < xs.length
 ·obtain ⟨a, ha, ga⟩ := n4 (l := xs) (i := i) (by omega) c
  rw [if_pos c, ha]
  simp only [oB]
  by_cases c2 : a = t
  ·subst c2
   rw [if_pos rfl, j7 (w5 ha)]
   rfl
  ·rw [if_neg c2]
   simp only [H2, decide_true, Bool.not_true, Bool.false_eq_true, if_false, oB]
   rw [s6 (nin fun b hb => by rw [ha] at hb; cases hb; exact c2)]
 ·rw [if_neg c]
  simp only [oB]
  rw [s6 (nin fun b hb => by have := (m9 hb).2.1; omega)]
theorem bsearch2 {xs : List Int} (hs : Inc xs) (hl : xs.length ≤ 500000) (t : Int) : ∃ i, p8 xs t = some (i, dec (t ∈ xs)) :=
 let ⟨i, h, _⟩ := bsearch_eq hs hl t
 ⟨i, h⟩
theorem containsFunc_eq {l : List Int} {f : Int → Option Bool} (p : Int → Prop) (hf : ∀ x ∈ l, f x = some (dec (p x))) : t1 l f = some (dec (∃ x ∈ l, p x)) := by
 unfold t1 A9
 rcases Q9 (body := z7 l f) (n := (l.length : Int)) (fun j => if dec (∀ a, ix l j = some a → ¬ p a) = true then none else some j) (by omega) (fun j h0 h1 _ => by
  obtain ⟨a, ha, _⟩ := n4 (l := l) h0 h1
  unfold z7
  rw [ha]
  simp only [oB, hf a (w5 ha)]
  by_cases c : p a
  ·rw [if_pos (j7 c), if_neg (by rw [j9]; exact fun h => h a rfl c)]
  ·rw [if_neg (by rw [s6 c]; simp), if_pos (j7 fun b hb => by cases hb; exact c)]) with ⟨h1, h2⟩ | ⟨j, o, h0, h1, h2, _, h4⟩
 ·rw [h1]
  simp only [oB]
  rw [s6]
  ·rfl
  ·rintro ⟨x, hx, hp⟩
   obtain ⟨i, g1, g2, g3⟩ := y8 hx
   have := h2 i g1 g2
   split at this
   ·rename_i h; exact j9.1 h x g3 hp
   ·cases this
 ·rw [h4]
  split at h2
  ·cases h2
  ·rename_i h
   cases h2
   simp only [oB]
   rw [j7]
   ·simp [h0]
   ·simp only [j9] at h
    obtain ⟨a, g1, _⟩ := n4 (l := l) h0 h1
    refine ⟨a, w5 g1, ?_⟩
    rcases Classical.em (p a) with c | c
    ·exact c
    ·exact absurd (fun b hb => by rw [g1] at hb; cases hb; exact c) h
theorem meets_eq {a b : List Int} (hb : Inc b) (hl : b.length ≤ 500000) : P6 a b = some (dec (∃ x ∈ a, x ∈ b)) := by
 unfold P6
 rw [containsFunc_eq (fun x => x ∈ b) (fun x _ => by
  unfold R4
  obtain ⟨i, h⟩ := bsearch2 hb hl x
  rw [h]; rfl)]
 rfl
/-! ### Sorted, and equal neighbours made one -/
end Ab
end
section
namespace Ab
open Go
def M7 (o : f5) (n : Int) : Prop := SetN o.pre n ∧ SetN o.add n ∧ SetN o.del n ∧ ∀ x ∈ o.add, x ∉ o.del
def T5 (o : f5) : Prop := 0 ≤ o.cost ∧ o.cost ≤ 100
noncomputable def N3 (o : f5) (n : Int) : Int := if dec (M7 o n) = true then if dec (T5 o) = true then 0 else 3 else 5
structure i6 (t : d9) : Prop where
 n0 : 0 ≤ t.facts
 n1 : t.facts ≤ 24
 init : SetN t.init t.facts
 goal : SetN t.goal t.facts
 ops : t.operators.length ≤ 40
 op : ∀ o ∈ t.operators, M7 o t.facts ∧ T5 o
theorem opCode_zero {o : f5} {n : Int} : N3 o n = 0 ↔ M7 o n ∧ T5 o := by
 unfold N3
 by_cases h : M7 o n
 ·rw [if_pos (j7 h)]
  by_cases g : T5 o
  ·rw [if_pos (j7 g)]; simp [h, g]
  ·rw [if_neg (by rw [s6 g]; simp)]; simp [g]
 ·rw [if_neg (by rw [s6 h]; simp)]; simp [h]
theorem operator_eq {o : f5} {n : Int} (h0 : 0 ≤ n) (h1 : n ≤ 24) : I3 o n = some (N3 o n) := by
 unfold I3 N3
 simp only [isSet_eq, oB, O2]
 have bad : ¬ M7 o n → dec (M7 o n) = true → False := fun h g => h (j9.1 g)
 by_cases c1 : SetN o.pre n
 ·rw [if_neg (by simpa using c1)]
  by_cases c2 : SetN o.add n
  ·rw [if_neg (by simpa using c2)]
   by_cases c3 : SetN o.del n
   ·rw [if_neg (by simpa using c3)]
    have hl := c3.len
    rw [meets_eq c3.1 (by omega)]
    simp only [oB]
    by_cases c4 : ∃ x ∈ o.add, x ∈ o.del
    ·rw [if_pos (j7 c4), if_neg]
     rw [j9]
     obtain ⟨x, g1, g2⟩ := c4
     exact fun h => h.2.2.2 x g1 g2
    ·have hs : M7 o n := ⟨c1, c2, c3, fun x g1 g2 => c4 ⟨x, g1, g2⟩⟩
     rw [if_neg (by rw [s6 c4]; simp), if_pos (j7 hs)]
     by_cases c5 : T5 o
     ·rw [if_pos (j7 c5), if_neg]
      have := c5.1; have := c5.2
      simp; omega
     ·rw [if_neg (fun h => c5 (j9.1 h)), if_pos]
      unfold T5 at c5
      simp; omega
   ·rw [if_pos (by simpa using c3)]
    simp only [oB, if_true]
    rw [if_neg fun h => c3 (j9.1 h).2.2.1]
  ·rw [if_pos (by simpa using c2)]
   simp only [oB, if_true]
   rw [if_neg fun h => c2 (j9.1 h).2.1]
 ·rw [if_pos (by simpa using c1)]
  simp only [oB, if_true]
  rw [if_neg fun h => c1 (j9.1 h).1]
theorem validate_eq (t : d9) : ∃ f, w6 t = some f ∧ L9 t = some f ∧ ((f = ⟨0, 0⟩ ∧ i6 t) ∨ (f.code ≠ 0 ∧ ¬ i6 t)) := by
 unfold w6 L9
 simp only [in_eq, at_eq, oB, O2]
 by_cases c1 : 0 ≤ t.facts ∧ t.facts ≤ 24
 ·rw [if_neg (by simp; omega), ifNN c1]
  simp only [isSet_eq, rIsSet_eq (n := t.facts) _ (by omega) (by omega), oB, O2]
  by_cases c2 : SetN t.init t.facts
  ·rw [ifNN c2, ifNN c2]
   by_cases c3 : SetN t.goal t.facts
   ·rw [ifNN c3, ifNN c3]
    by_cases c4 : 40 < (t.operators.length : Int)
    ·rw [if_pos c4, if_pos c4]
     exact ⟨_, rfl, rfl, .inr ⟨by simp, fun h => by have := h.ops; omega⟩⟩
    ·rw [if_neg c4, if_neg c4]
     have hb : ∀ j : Int, 0 ≤ j → j < t.operators.length → ∃ o, ix t.operators j = some o ∧ D5 t j () = some (if N3 o t.facts = 0 then .inl () else .inr ⟨N3 o t.facts, j⟩) ∧ B6 t j () = some (if N3 o t.facts = 0 then .inl () else .inr ⟨N3 o t.facts, j⟩) := fun j h0 h1 => by
      obtain ⟨o, ho, _⟩ := n4 (l := t.operators) h0 h1
      refine ⟨o, ho, ?_, ?_⟩
      ·unfold D5
       rw [ho]
       simp only [oB, operator_eq c1.1 c1.2]
       by_cases e : N3 o t.facts = 0
       ·rw [if_pos e, if_pos e]
       ·rw [if_neg e, if_neg e]
      ·unfold B6
       rw [ho]
       simp only [oB, rIsSet_eq (n := t.facts) _ (show -9223372036854775808 < t.facts by omega) (show t.facts ≤ 9223372036854775807 by omega), disjoint_eq, in_eq, at_eq, O2]
       have hp : (if dec (¬ SetN o.pre t.facts) = true then some true else if dec (¬ SetN o.add t.facts) = true then some true else if dec (¬ SetN o.del t.facts) = true then some true else some (dec (¬ ∀ x ∈ o.add, x ∉ o.del))) = some (dec (¬ M7 o t.facts)) := by
        unfold M7
        by_cases g1 : SetN o.pre t.facts
        ·rw [if_neg (by simpa using g1)]
         by_cases g2 : SetN o.add t.facts
         ·rw [if_neg (by simpa using g2)]
          by_cases g3 : SetN o.del t.facts
          ·rw [if_neg (by simpa using g3)]
           exact congrArg some (J7 ⟨fun h g => h g.2.2.2, fun h g => h ⟨g1, g2, g3, g⟩⟩)
          ·rw [if_pos (by simpa using g3), j7 (fun g => g3 g.2.2.1)]
         ·rw [if_pos (by simpa using g2), j7 (fun g => g2 g.2.1)]
        ·rw [if_pos (by simpa using g1), j7 (fun g => g1 g.1)]
       rw [hp]
       simp only [oB]
       unfold N3
       by_cases g1 : M7 o t.facts
       ·rw [if_neg (by simpa using g1), if_pos (j7 g1)]
        by_cases g2 : T5 o
        ·rw [ifP g2, ifNN (p := 0 ≤ o.cost ∧ o.cost ≤ 100) g2]; rfl
        ·rw [ifN g2, ifP (p := ¬ (0 ≤ o.cost ∧ o.cost ≤ 100)) g2]; rfl
       ·rw [if_pos (j7 g1), if_neg (fun h => g1 (j9.1 h))]; rfl
     have heq : rngX 0 (t.operators.length : Int) (D5 t) () = rngX 0 (t.operators.length : Int) (B6 t) () :=
      (rngX_eq (fun _ _ => True) (by omega) trivial (fun j s h0 h1 _ => by
       obtain ⟨o, _, e1, e2⟩ := hb j h0 h1
       exact ⟨by rw [e1, e2], by rw [e1]; simp, fun _ _ => trivial⟩)).1
     rcases Q9 (body := B6 t) (n := (t.operators.length : Int)) (fun j => match ix t.operators j with | some o => if N3 o t.facts = 0 then none else some (⟨N3 o t.facts, j⟩ : j5) | none => none) (by omega) (fun j h0 h1 _ => by
      obtain ⟨o, e0, _, e2⟩ := hb j h0 h1
      rw [e2, e0]
      dsimp only
      split <;> rfl) with ⟨h1, h2⟩ | ⟨j, f, h0, h1, h2, _, h4⟩
     ·rw [heq, h1]
      refine ⟨⟨0, 0⟩, rfl, rfl, .inl ⟨rfl, c1.1, c1.2, c2, c3, by omega, fun o ho => ?_⟩⟩
      obtain ⟨j, g0, g1, g2⟩ := y8 ho
      have := h2 j g0 g1
      rw [g2] at this
      dsimp only at this
      split at this
      ·rename_i e; exact opCode_zero.1 e
      ·cases this
     ·rw [heq, h4]
      obtain ⟨o, e0, _, _⟩ := hb j h0 h1
      rw [e0] at h2
      dsimp only at h2
      split at h2
      ·cases h2
      ·rename_i e
       cases h2
       exact ⟨_, rfl, rfl, .inr ⟨e, fun h => e (opCode_zero.2 (h.op o (w5 e0)))⟩⟩
   ·rw [ifP c3, ifP c3]
    exact ⟨_, rfl, rfl, .inr ⟨by simp, fun h => c3 h.goal⟩⟩
  ·rw [ifP c2, ifP c2]
   exact ⟨_, rfl, rfl, .inr ⟨by simp, fun h => c2 h.init⟩⟩
 ·rw [if_pos (by simp; omega), if_pos (j7 c1)]
  exact ⟨_, rfl, rfl, .inr ⟨by simp, fun h => c1 ⟨h.n0, h.n1⟩⟩⟩
/-! ### What operators and plans do -/
def noOp : f5 := ⟨[], [], [], 0⟩
def opAt (t : d9) (op : Int) : f5 := (t.operators[op.toNat]?).getD noOp
theorem R5 {t : d9} {op : Int} (h0 : 0 ≤ op) (h1 : op < t.operators.length) : ix t.operators op = some (opAt t op) := by
 obtain ⟨a, h2, h3⟩ := n4 h0 h1
 rw [h2, opAt, h3]; rfl
theorem i6.at {t : d9} (h : i6 t) {op : Int} (h0 : 0 ≤ op) (h1 : op < t.operators.length) : M7 (opAt t op) t.facts ∧ T5 (opAt t op) := h.op _ (w5 (R5 h0 h1))
def can (t : d9) (s : List Int) (op : Int) : Prop := ∀ x ∈ (opAt t op).pre, x ∈ s
noncomputable def aft (t : d9) (s : List Int) (op : Int) : List Int := G0 (fun x => x ∈ (opAt t op).add ∨ x ∈ s ∧ x ∉ (opAt t op).del) t.facts
theorem U7 (t : d9) (s : List Int) (op : Int) : SetN (aft t s op) t.facts := aj4 _ _
theorem ad0 {t : d9} {op : Int} (h0 : 0 ≤ op) (h1 : op < t.operators.length) (s : List Int) : D7 t s op = some (dec (can t s op)) := by
 unfold D7
 rw [R5 h0 h1]
 simp only [oB, subset_eq]
 rfl
theorem aj5 {t : d9} (ht : i6 t) {op : Int} (h0 : 0 ≤ op) (h1 : op < t.operators.length) (s : List Int) : I8 t s op = some (aft t s op) := by
 have := ht.n1
 unfold I8
 rw [if_pos (by omega)]
 rw [forR_setOf (b := 8) (fun x => x ∈ (opAt t op).add ∨ x ∈ s ∧ x ∉ (opAt t op).del) ht.n0 (by omega) (fun j c g0 g1 => by
  unfold ac2
  simp only [R5 h0 h1, oB, has_eq, O2]
  have e : (if dec (j ∈ (opAt t op).add) = true then some true else if dec (j ∈ s) = true then some (dec (j ∉ (opAt t op).del)) else some false) = some (dec (j ∈ (opAt t op).add ∨ j ∈ s ∧ j ∉ (opAt t op).del)) := by
   by_cases c1 : j ∈ (opAt t op).add
   ·rw [if_pos (j7 c1), j7 (.inl c1)]
   ·rw [if_neg (fun h => c1 (j9.1 h))]
    by_cases c2 : j ∈ s
    ·rw [if_pos (j7 c2)]
     exact congrArg some (J7 ⟨fun h => .inr ⟨c2, h⟩, fun h => (h.resolve_left c1).2⟩)
    ·rw [if_neg (fun h => c2 (j9.1 h)), s6 (fun h => c2 (h.resolve_left c1).1)]
  rw [e]
  simp only [oB]
  refine ⟨fun hq => ?_, fun hq => ?_⟩
  ·rw [if_pos (j7 hq)]
   cases app 8 c [j] <;> rfl
  ·rw [if_neg (fun h => hq (j9.1 h))]; rfl)]
 rfl
noncomputable def ends (t : d9) : List Int → List Int → Option (List Int)
 | s, [] => some s
 | s, op :: r => if dec (can t s op) = true then ends t (aft t s op) r else none
theorem ends_setN {t : d9} : ∀ {plan s e : List Int}, SetN s t.facts → ends t s plan = some e → SetN e t.facts
 | [], s, e, hs, h => by cases h; exact hs
 | op :: r, s, e, hs, h => by
  simp only [ends] at h
  split at h
  ·exact ends_setN (U7 t s op) h
  ·cases h
theorem O0 {t : d9} : ∀ {p q s : List Int}, ends t s (p ++ q) = (ends t s p).bind fun e => ends t e q
 | [], q, s => rfl
 | op :: r, q, s => by
  simp only [List.cons_append, ends]
  split
  ·exact O0
  ·rfl
def G1 (t : d9) (s plan : List Int) : Prop := ∃ e, ends t s plan = some e ∧ ∀ x ∈ t.goal, x ∈ e
end Ab
end
section
namespace Ab
open Go
/-! ### States as' numbers -/
def wsN : List Int → Nat
 | [] => 0
 | a :: l => 2 ^ a.toNat + wsN l
theorem wsN_append : ∀ {l m : List Int}, wsN (l ++ m) = wsN l + wsN m
 | [], m => by simp [wsN]
 | a :: l, m => by simp only [List.cons_append, wsN, wsN_append (l := l)]; omega
theorem wsN_le : ∀ {l : List Int}, (∀ x ∈ l, x < 24) → wsN l ≤ l.length * 16777216
 | [], _ => by simp [wsN]
 | a :: l, h => by
  have h1 := wsN_le (l := l) fun x hx => h x (List.mem_cons_of_mem _ hx)
  have h2 : 2 ^ a.toNat ≤ 2 ^ 24 := Nat.pow_le_pow_right (by decide) (by have := h a (by simp); omega)
  simp only [wsN, List.length_cons]
  omega
theorem wsN_dvd {k : Nat} : ∀ {l : List Int}, (∀ x ∈ l, k ≤ x.toNat) → 2 ^ k ∣ wsN l
 | [], _ => ⟨0, rfl⟩
 | a :: l, h => Nat.dvd_add (Nat.pow_dvd_pow 2 (h a (by simp))) (wsN_dvd fun x hx => h x (List.mem_cons_of_mem _ hx))
theorem two_pow_no {k : Nat} (h : 2 ^ (k + 1) ∣ 2 ^ k) : False := by
 have h1 := Nat.le_of_dvd (Nat.two_pow_pos k) h
 have h2 := Nat.two_pow_pos k
 rw [Nat.pow_succ] at h1
 omega
theorem wsN_ne {a : Int} {l m : List Int} (ha : 0 ≤ a) (hl : ∀ x ∈ l, a < x) (hm : ∀ x ∈ m, a < x) : wsN (a :: l) ≠ wsN m := fun h => by
 have d1 : 2 ^ (a.toNat + 1) ∣ wsN l := wsN_dvd fun x hx => by have := hl x hx; omega
 have d2 : 2 ^ (a.toNat + 1) ∣ wsN m := wsN_dvd fun x hx => by have := hm x hx; omega
 rw [← h, wsN] at d2
 exact two_pow_no ((Nat.dvd_add_left d1).1 d2)
theorem wsN_inj : ∀ {l m : List Int}, Inc l → Inc m → (∀ x ∈ l, 0 ≤ x) → (∀ x ∈ m, 0 ≤ x) → wsN l = wsN m → l = m
 | [], [], _, _, _, _, _ => rfl
 | [], b :: m, _, _, _, _, h => by
  have := Nat.two_pow_pos b.toNat
  simp only [wsN] at h; omega
 | a :: l, [], _, _, _, _, h => by
  have := Nat.two_pow_pos a.toNat
  simp only [wsN] at h; omega
 | a :: l, b :: m, h1, h2, h3, h4, h => by
  obtain ⟨l1, l2⟩ := List.pairwise_cons.1 h1
  obtain ⟨m1, m2⟩ := List.pairwise_cons.1 h2
  rcases Int.lt_trichotomy a b with c | c | c
  ·exact absurd h (wsN_ne (h3 a (by simp)) l1 fun x hx => by
    rcases List.mem_cons.1 hx with rfl | hx
    ·exact c
    ·have := m1 x hx; omega)
  ·subst c
   simp only [wsN] at h
   rw [wsN_inj l2 m2 (fun x hx => h3 x (List.mem_cons_of_mem _ hx)) (fun x hx => h4 x (List.mem_cons_of_mem _ hx)) (by omega)]
  ·exact absurd h.symm (wsN_ne (h4 b (by simp)) m1 fun x hx => by
    rcases List.mem_cons.1 hx with rfl | hx
    ·exact c
    ·have := l1 x hx; omega)
theorem SetN.word_inj {s s' : List Int} {n : Int} (h : SetN s n) (h' : SetN s' n) (e : wsN s = wsN s') : s = s' :=
 wsN_inj h.1 h'.1 (fun x hx => (h.2 x hx).1) (fun x hx => (h'.2 x hx).1) e
theorem word_eq {s : List Int} {n : Int} (hs : SetN s n) (hn : n ≤ 24) : I5 s = some (wsN s : Int) := by
 have hl := hs.len
 unfold I5
 obtain ⟨w, h1, h2⟩ := v8 (body := Y4 s) (n := (s.length : Int)) (s := 0) (fun j w => w = (wsN (s.take j.toNat) : Int)) (by omega) (by simp [wsN]) (fun j w j0 j1 hP => by
  obtain ⟨a, ha, ga⟩ := n4 (l := s) j0 j1
  have hb := hs.2 a (w5 ha)
  have ht : s.take (j + 1).toNat = s.take j.toNat ++ [a] := by rw [show (j + 1).toNat = j.toNat + 1 by omega, List.take_add_one, ga]; rfl
  have b1 : wsN (s.take j.toNat) ≤ (s.take j.toNat).length * 16777216 := wsN_le fun x hx => by have := hs.2 x (List.mem_of_mem_take hx); omega
  have b2 : (s.take j.toNat).length ≤ 24 := by rw [List.length_take]; omega
  have b4 : (s.take j.toNat).length * 16777216 ≤ 24 * 16777216 := Nat.mul_le_mul_right _ b2
  obtain ⟨q, hq⟩ : ∃ q : Nat, q = 2 ^ a.toNat := ⟨_, rfl⟩
  have b3 : q ≤ 16777216 := by rw [hq]; exact (Nat.pow_le_pow_right (by decide) (by omega) : 2 ^ a.toNat ≤ 2 ^ 24)
  have ep : (2 : Int) ^ a.toNat = (q : Int) := by rw [hq]; push_cast; rfl
  unfold Y4
  rw [ha]
  simp only [oB]
  rw [IntKind.wrap_u64, Int.emod_eq_of_lt (by omega) (by omega), chk0, if_neg (by omega)]
  simp only [oB]
  have es : shlW .i64 1 a = (q : Int) := by
   unfold shlW
   rw [show min a.toNat (IntKind.i64).bits = a.toNat by simp only [IntKind.bits]; omega, Int.one_mul, ep]
   exact x6 (by omega) (by omega)
  rw [es, x6 (by omega) (by omega), ht, wsN_append, hP]
  refine ⟨_, rfl, ?_⟩
  simp only [wsN, ← hq]
  omega)
 rw [h1, h2, Int.toNat_natCast, List.take_length]
 rfl
end Ab
end
section
namespace Ab
open Go
/-! ### Maps -/
theorem D2 {K V : Type} [DecidableEq K] (k k' : K) (v : V) : ∀ m : List (K × V), mget (mset m k v) k' = if k' = k then some v else mget m k'
 | [] => by
  simp only [mset, mget]
 | p :: r => by
  simp only [mset]
  by_cases h : k = p.1
  ·rw [if_pos h]
   simp only [mget]
   by_cases h2 : k' = k
   ·rw [if_pos h2, if_pos h2]
   ·rw [if_neg h2, if_neg h2, if_neg (by rw [← h]; exact h2)]
  ·rw [if_neg h]
   simp only [mget]
   rw [D2 k k' v r]
   by_cases h2 : k' = p.1
   ·rw [if_pos h2, if_pos h2, if_neg (fun e => h (e.symm.trans h2))]
   ·rw [if_neg h2, if_neg h2]
end Ab
end
section
namespace Ab
open Go
theorem W8 {α : Type} [DecidableEq α] : ∀ {c S : List α}, c.Nodup → (∀ x ∈ c, x ∈ S) → c.length ≤ S.length
 | [], _, _, _ => Nat.zero_le _
 | a :: c, S, h, hs => by
  obtain ⟨h1, h2⟩ := List.nodup_cons.1 h
  have ha := hs a (by simp)
  have := W8 (c := c) (S := S.erase a) h2 fun x hx => by
   have hne : x ≠ a := fun e => h1 (e ▸ hx)
   exact (List.mem_erase_of_ne hne).2 (hs x (List.mem_cons_of_mem _ hx))
  rw [List.length_erase_of_mem ha] at this
  have : 0 < S.length := List.length_pos_of_mem ha
  simp only [List.length_cons]
  omega
section
variable {α : Type}
def Dn (G L : α → Prop) (nx : α → List α) : Nat → α → Prop
 | 0, s => G s
 | k + 1, s => G s ∨ (L s ∧ ∀ y ∈ nx s, Dn G L nx k y)
variable {G L : α → Prop} {nx : α → List α}
theorem Dn.goal {k : Nat} {s : α} (h : G s) : Dn G L nx k s := by
 cases k with
 | zero => exact h
 | succ k => exact .inl h
theorem Dn.succ : ∀ {k : Nat} {s : α}, Dn G L nx k s → Dn G L nx (k + 1) s
 | 0, s, h => .inl h
 | k + 1, s, h => by
  rcases h with h | ⟨h1, h2⟩
  ·exact .inl h
  ·exact .inr ⟨h1, fun y hy => (h2 y hy).succ⟩
theorem Dn.mono {k m : Nat} {s : α} (h : Dn G L nx k s) (hm : k ≤ m) : Dn G L nx m s := by
 induction hm with
 | refl => exact h
 | step _ ih => exact ih.succ
def Ht (G L : α → Prop) (nx : α → List α) (k : Nat) (s : α) : Prop := Dn G L nx k s ∧ ∀ j, j < k → ¬ Dn G L nx j s
theorem Ht.unique {k m : Nat} {s : α} (h : Ht G L nx k s) (h' : Ht G L nx m s) : k = m := by
 rcases Nat.lt_trichotomy k m with c | c | c
 ·exact absurd h.1 (h'.2 k c)
 ·exact c
 ·exact absurd h'.1 (h.2 m c)
theorem Ht.le {k m : Nat} {s : α} (h : Ht G L nx k s) (h' : Dn G L nx m s) : k ≤ m := by
 rcases Nat.lt_or_ge m k with c | c
 ·exact absurd h' (h.2 m c)
 ·exact c
theorem Ht.of_dn : ∀ {k : Nat} {s : α}, Dn G L nx k s → ∃ m, m ≤ k ∧ Ht G L nx m s
 | 0, s, h => ⟨0, Nat.le_refl _, h, fun j hj => by omega⟩
 | k + 1, s, h => by
  by_cases c : Dn G L nx k s
  ·obtain ⟨m, h1, h2⟩ := Ht.of_dn c
   exact ⟨m, by omega, h2⟩
  ·exact ⟨k + 1, Nat.le_refl _, h, fun j hj hd => c (hd.mono (by omega))⟩
theorem Ht.zero {s : α} (h : G s) : Ht G L nx 0 s := ⟨h, fun j hj => by omega⟩
theorem Ht.goal {k : Nat} {s : α} (h : Ht G L nx k s) (hg : G s) : k = 0 := h.unique (.zero hg)
theorem Ht.step {k : Nat} {s : α} (h : Ht G L nx k s) (hg : ¬ G s) (hne : ∀ s, L s → nx s ≠ []) : ∃ m, k = m + 1 ∧ L s ∧ (∀ y ∈ nx s, ∃ j, j ≤ m ∧ Ht G L nx j y) ∧ ∃ y ∈ nx s, Ht G L nx m y := by
 cases k with
 | zero => exact absurd h.1 hg
 | succ m =>
  rcases h.1 with g | ⟨h1, h2⟩
  ·exact absurd g hg
  ·refine ⟨m, rfl, h1, fun y hy => Ht.of_dn (h2 y hy), ?_⟩
   cases m with
   | zero =>
    obtain ⟨y, hy⟩ := List.exists_mem_of_ne_nil _ (hne s h1)
    exact ⟨y, hy, h2 y hy, fun j hj => by omega⟩
   | succ m =>
    have hn := h.2 (m + 1) (by omega)
    have : ∃ y ∈ nx s, ¬ Dn G L nx m y := Classical.byContradiction fun hc => hn (.inr ⟨h1, fun y hy => Classical.byContradiction fun hy2 => hc ⟨y, hy, hy2⟩⟩)
    obtain ⟨y, hy, hy2⟩ := this
    exact ⟨y, hy, h2 y hy, fun j hj hd => hy2 (hd.mono (by omega))⟩
end
end Ab
end
section
namespace Ab
open Go
/-! ### Maps -/
section
variable {K V : Type} [DecidableEq K]
theorem Q7 {k : K} {v : V} : ∀ {m : List (K × V)}, mget m k = none → mset m k v = m ++ [(k, v)]
 | [], _ => rfl
 | p :: r, h => by
  simp only [mget] at h
  split at h
  ·cases h
  ·rename_i hne
   simp only [mset, if_neg hne, Q7 h, List.cons_append]
theorem mset_keys {k : K} {v : V} : ∀ {m : List (K × V)}, mget m k ≠ none → (mset m k v).map (·.1) = m.map (·.1)
 | [], h => absurd rfl h
 | p :: r, h => by
  simp only [mget] at h
  simp only [mset]
  split
  ·rename_i e; simp [e]
  ·rename_i hne
   rw [if_neg hne] at h
   simp [mset_keys h]
theorem mget_mem {k : K} {v : V} : ∀ {m : List (K × V)}, mget m k = some v → (k, v) ∈ m
 | [], h => by cases h
 | p :: r, h => by
  simp only [mget] at h
  split at h
  ·rename_i e; cases h; subst e; exact List.mem_cons_self
  ·exact List.mem_cons_of_mem _ (mget_mem h)
theorem mget_none {k : K} : ∀ {m : List (K × V)}, mget m k = none → k ∉ m.map (·.1)
 | [], _ => by simp
 | p :: r, h => by
  simp only [mget] at h
  split at h
  ·cases h
  ·rename_i hne
   have := mget_none h
   simp only [List.map_cons, List.mem_cons, not_or]
   exact ⟨hne, this⟩
end
theorem I4 {α : Type} {l : List α} {i : Int} (h : i < 0) : ix l i = none := by
 unfold ix; rw [if_neg (by omega)]
theorem ad6 {α : Type} {l : List α} {x : α} {i : Int} : ix (l ++ [x]) i = if i = l.length then some x else ix l i := by
 by_cases h0 : 0 ≤ i
 ·obtain ⟨k, rfl⟩ := Int.eq_ofNat_of_zero_le h0
  rw [Y7, Y7]
  by_cases e : k = l.length
  ·subst e; simp
  ·rw [if_neg (by omega)]
   rcases Nat.lt_or_ge k l.length with h | h
   ·rw [List.getElem?_append_left h]
   ·rw [List.getElem?_eq_none (by simp; omega), List.getElem?_eq_none h]
 ·rw [I4 (by omega), I4 (by omega), if_neg (by omega)]
theorem ah0 {α : Type} {l : List α} {x a : α} {i : Int} (h : ix l i = some a) : ix (l ++ [x]) i = some a := by
 rw [ad6, if_neg (by have := m9 h; omega), h]
theorem ix_snoc_new {α : Type} {l : List α} {x : α} : ix (l ++ [x]) (l.length : Int) = some x := by rw [ad6, if_pos rfl]
end Ab
end
section
namespace Ab
open Go
theorem setN1 (a : Int) {n : Int} (h0 : 0 ≤ a) (h1 : a < n) : SetN [a] n := ⟨by simp, by simp [h0, h1]⟩
def o5 : d9 := ⟨2, [0], [1], [⟨[0], [1], [0], 1⟩, ⟨[], [1], [], 3⟩]⟩
theorem R8 : i6 o5 where
 n0 := by decide
 n1 := by decide
 init := setN1 0 (by decide) (by decide)
 goal := setN1 1 (by decide) (by decide)
 ops := by decide
 op o ho := by
  simp only [o5, List.mem_cons, List.not_mem_nil, or_false] at ho
  rcases ho with rfl | rfl
  ·exact ⟨⟨setN1 0 (by decide) (by decide), setN1 1 (by decide) (by decide), setN1 0 (by decide) (by decide), by simp⟩, by decide, by decide⟩
  ·exact ⟨⟨setN_nil _, setN1 1 (by decide) (by decide), setN_nil _, by simp⟩, by decide, by decide⟩
theorem subL_drop {α : Type} {l : List α} {i : Int} (h0 : 0 ≤ i) (h1 : i ≤ l.length) : subL l i (l.length : Int) = some (l.drop i.toNat) := by
 rw [subL, if_pos (by omega)]
 rw [show ((l.length : Int)).toNat = l.length by omega, List.take_length]
theorem subL_take {α : Type} {l : List α} {i : Int} (h0 : 0 ≤ i) (h1 : i ≤ l.length) : subL l 0 i = some (l.take i.toNat) := by
 rw [subL, if_pos (by omega)]; rfl
end Ab
end
section
namespace Ab
open Go
def llt : List Int → List Int → Prop
 | [], [] => False
 | [], _ :: _ => True
 | _ :: _, [] => False
 | a :: l, b :: m => a < b ∨ a = b ∧ llt l m
theorem R9 : ∀ l : List Int, ¬ llt l l
 | [] => id
 | a :: l => fun h => by
  rcases h with h | ⟨_, h⟩
  ·omega
  ·exact R9 l h
theorem ag0 : ∀ {a b c : List Int}, llt a b → llt b c → llt a c
 | [], [], _, h, _ => h.elim
 | [], _ :: _, [], _, h => h.elim
 | [], _ :: _, _ :: _, _, _ => trivial
 | _ :: _, [], _, h, _ => h.elim
 | _ :: _, _ :: _, [], _, h => h.elim
 | x :: a, y :: b, z :: c, h, g => by
  rcases h with h | ⟨rfl, h⟩ <;> rcases g with g | ⟨rfl, g⟩
  ·exact .inl (by omega)
  ·exact .inl h
  ·exact .inl g
  ·exact .inr ⟨rfl, ag0 h g⟩
theorem llt_total : ∀ a b : List Int, llt a b ∨ a = b ∨ llt b a
 | [], [] => .inr (.inl rfl)
 | [], _ :: _ => .inl trivial
 | _ :: _, [] => .inr (.inr trivial)
 | x :: a, y :: b => by
  rcases Int.lt_trichotomy x y with h | rfl | h
  ·exact .inl (.inl h)
  ·rcases llt_total a b with h | rfl | h
   ·exact .inl (.inr ⟨rfl, h⟩)
   ·exact .inr (.inl rfl)
   ·exact .inr (.inr (.inr ⟨rfl, h⟩))
  ·exact .inr (.inr (.inl h))
theorem llt_asymm {a b : List Int} (h : llt a b) (g : llt b a) : False := R9 a (ag0 h g)
noncomputable def cmpL (a b : List Int) : Int := if dec (llt a b) = true then -1 else if dec (a = b) = true then 0 else 1
theorem cmpL_lt {a b : List Int} : cmpL a b < 0 ↔ llt a b := by
 unfold cmpL
 by_cases h : llt a b
 ·rw [ifP h]; simp [h]
 ·rw [ifN h]
  split <;> simp [h]
theorem cmpL_eq {a b : List Int} : cmpL a b = 0 ↔ a = b := by
 unfold cmpL
 by_cases h : llt a b
 ·rw [ifP h]
  constructor
  ·intro e; omega
  ·rintro rfl; exact absurd h (R9 _)
 ·rw [ifN h]
  by_cases g : a = b
  ·rw [ifP g]; simp [g]
  ·rw [ifN g]; simp [g]
theorem cmpInt_eq (x y : Int) : I6 x y = some (if x < y then -1 else if y < x then 1 else 0) := by
 unfold I6 B9
 simp only [decide_true, Bool.not_true, oB, Bool.false_eq_true, if_false]
 split
 ·rfl
 ·split <;> rfl
theorem llt_drop : ∀ {a b : List Int} (k : Nat), k ≤ a.length → k ≤ b.length → a.take k = b.take k → (llt a b ↔ llt (a.drop k) (b.drop k))
 | _, _, 0, _, _, _ => by simp
 | [], _, k + 1, h, _, _ => by simp at h
 | _ :: _, [], k + 1, _, h, _ => by simp at h
 | x :: a, y :: b, k + 1, h1, h2, h3 => by
  simp only [List.take_succ_cons, List.cons.injEq] at h3
  obtain ⟨rfl, h3⟩ := h3
  simp only [List.drop_succ_cons]
  rw [← llt_drop k (by simpa using h1) (by simpa using h2) h3]
  simp [llt]
theorem compare_eq (a b : List Int) : u8 a b = some (cmpL a b) := by
 unfold u8
 rcases rngX_inv (body := A6 a b) (n := (a.length : Int)) (s := ()) (fun j _ => j ≤ b.length ∧ a.take j.toNat = b.take j.toNat) (fun o => o = cmpL a b) (by omega) ⟨by omega, by simp⟩ (fun j _ j0 j1 ⟨k1, k2⟩ => by
  obtain ⟨x, hx, gx⟩ := n4 (l := a) j0 j1
  have hxl := (List.getElem?_eq_some_iff.1 gx).2
  unfold A6
  rw [hx]
  simp only [oB]
  have hd := llt_drop (a := a) (b := b) j.toNat (by omega) (by omega) k2
  have da : a.drop j.toNat = x :: a.drop (j.toNat + 1) := by rw [← hxl]; exact List.drop_eq_getElem_cons (by omega)
  by_cases c : (b.length : Int) ≤ j
  ·rw [if_pos c]
   refine .inr ⟨_, rfl, ?_⟩
   have db : b.drop j.toNat = [] := List.drop_of_length_le (by omega)
   rw [da, db] at hd
   unfold cmpL
   rw [ifN (fun h => (hd.1 h).elim), ifN]
   rintro rfl; omega
  ·rw [if_neg c]
   obtain ⟨y, hy, gy⟩ := n4 (l := b) (i := j) j0 (by omega)
   have hyl := (List.getElem?_eq_some_iff.1 gy).2
   have db : b.drop j.toNat = y :: b.drop (j.toNat + 1) := by rw [← hyl]; exact List.drop_eq_getElem_cons (by omega)
   rw [hy]
   simp only [oB, cmpInt_eq]
   rw [da, db] at hd
   have hne : x ≠ y → a ≠ b := fun h e => by subst e; rw [hx] at hy; cases hy; exact h rfl
   rcases Int.lt_trichotomy x y with h | rfl | h
   ·rw [if_pos h, if_neg (by decide)]
    refine .inr ⟨_, rfl, ?_⟩
    unfold cmpL
    rw [ifP (hd.2 (.inl h))]
   ·simp only [Int.lt_irrefl, if_false, if_true]
    refine .inl ⟨(), trivial, by omega, ?_⟩
    rw [show (j + 1).toNat = j.toNat + 1 by omega, List.take_add_one, List.take_add_one, gx, gy, k2]
   ·rw [if_neg (show ¬ x < y by omega), if_pos h, if_neg (by decide)]
    refine .inr ⟨_, rfl, ?_⟩
    unfold cmpL
    rw [ifN, ifN (hne (by omega))]
    intro g
    rcases hd.1 g with g | ⟨g, _⟩ <;> omega) with ⟨_, r1, r2, r3⟩ | ⟨o, r1, rfl⟩
 ·rw [r1]
  simp only [oB]
  have hd := llt_drop (a := a) (b := b) a.length (Nat.le_refl _) (by omega) (by simpa using r3)
  have da : a.drop a.length = [] := by simp
  rw [da] at hd
  have e3 : a = b.take a.length := by simpa using r3
  by_cases c : (a.length : Int) < b.length
  ·rw [if_pos c]
   have : b.drop a.length ≠ [] := by simp; omega
   unfold cmpL
   rw [ifP]
   rw [hd]
   cases h : b.drop a.length with
   | nil => exact absurd h this
   | cons x l => trivial
  ·rw [if_neg c]
   have : a = b := by rw [e3, List.take_of_length_le (by omega)]
   rw [cmpL_eq.2 this]
 ·rw [r1]; rfl
theorem cmp_ok : CmpOk u8 cmpL := by
 refine ⟨compare_eq, ⟨fun x => ?_, fun x y z h1 h2 => ?_, fun x y z h1 h2 => ?_⟩, fun a b h1 h2 => ?_⟩
 ·simp only [Go.Proofs.ltOf, decide_eq_false_iff_not, cmpL_lt]
  exact R9 x
 ·simp only [Go.Proofs.ltOf, decide_eq_true_eq, cmpL_lt] at h1 h2 ⊢
  exact ag0 h1 h2
 ·simp only [Go.Proofs.ltOf, decide_eq_false_iff_not, cmpL_lt] at h1 h2 ⊢
  intro h
  rcases llt_total x y with g | rfl | g
  ·exact h1 g
  ·exact h2 h
  ·exact h2 (ag0 g h)
 ·rw [cmpL_lt] at h1 h2
  rcases llt_total a b with g | g | g
  ·exact absurd g h1
  ·exact g
  ·exact absurd g h2
/-! ### Lists compared -/
theorem listEq {α : Type} {a b : List α} {body : Int → Unit → Option (Unit ⊕ Bool)} (hl : a.length = b.length) (hb : ∀ j x y, ix a j = some x → ix b j = some y → (x = y ∧ body j () = some (.inl ())) ∨ (x ≠ y ∧ body j () = some (.inr false))) :
  (Option.bind (rngX 0 (a.length : Int) body ()) fun | .inl _ => some true | .inr x => some x) = some (dec (a = b)) := by
 rcases Q9 (body := body) (n := (a.length : Int)) (fun j => if dec (ix a j = ix b j) = true then none else some false) (by omega) (fun j h0 h1 _ => by
  obtain ⟨x, hx, _⟩ := n4 (l := a) h0 h1
  obtain ⟨y, hy, _⟩ := n4 (l := b) (i := j) h0 (by omega)
  rcases hb j x y hx hy with ⟨e, h⟩ | ⟨e, h⟩
  ·rw [h, ifP (by rw [hx, hy, e])]
  ·rw [h, ifN (by rw [hx, hy]; simpa using e)]) with ⟨h1, h2⟩ | ⟨j, o, h0, h1, h2, _, h4⟩
 ·rw [h1, j7]
  ·rfl
  ·refine List.ext_getElem? fun k => ?_
   by_cases hk : k < a.length
   ·have := h2 k (by omega) (by omega)
    split at this
    ·rename_i e
     have := j9.1 e
     rwa [Y7, Y7] at this
    ·cases this
   ·rw [List.getElem?_eq_none (by omega), List.getElem?_eq_none (by omega)]
 ·rw [h4]
  split at h2
  ·cases h2
  ·rename_i e
   cases h2
   rw [s6 (fun h => e (j7 (by rw [h])))]; rfl
theorem ints_eq (a b : List Int) : W9 a b = some (dec (a = b)) := by
 unfold W9
 by_cases hl : (a.length : Int) = b.length
 ·rw [if_pos hl]
  refine listEq (by omega) fun j x y hx hy => ?_
  unfold ad8
  simp only [hx, hy, oB]
  by_cases e : x = y
  ·rw [if_pos e]; exact .inl ⟨e, rfl⟩
  ·rw [if_neg e]; exact .inr ⟨e, rfl⟩
 ·rw [if_neg hl, s6 (fun h => hl (by rw [h]))]
theorem place_eq (l : List (List Int)) (s : List Int) : ∃ r, S3 l s = some r ∧ ((r = -1 ∧ s ∉ l) ∨ (0 ≤ r ∧ r < l.length ∧ ix l r = some s ∧ ∀ j, 0 ≤ j → j < r → ix l j ≠ some s)) := by
 unfold S3
 rcases Q9 (body := U1 l s) (n := (l.length : Int)) (fun j => if dec (ix l j = some s) = true then some j else none) (by omega) (fun j h0 h1 _ => by
  obtain ⟨x, hx, _⟩ := n4 (l := l) h0 h1
  unfold U1
  simp only [hx, oB, ints_eq]
  by_cases e : x = s
  ·rw [ifP e, ifP (by rw [e])]
  ·rw [ifN e, ifN (by simpa using e)]) with ⟨h1, h2⟩ | ⟨j, o, h0, h1, h2, h3, h4⟩
 ·rw [h1]
  refine ⟨-1, rfl, .inl ⟨rfl, fun hs => ?_⟩⟩
  obtain ⟨i, i0, i1, hi⟩ := y8 hs
  have := h2 i i0 i1
  rw [ifP hi] at this
  cases this
 ·rw [h4]
  split at h2
  ·rename_i e
   cases h2
   refine ⟨_, rfl, .inr ⟨h0, h1, j9.1 e, fun i i0 i1 => ?_⟩⟩
   have := h3 i i0 i1
   split at this
   ·cases this
   ·rename_i e
    exact fun h => e (j7 h)
  ·cases h2
/-! ### Ordered lists -/
abbrev Ord (l : List (List Int)) : Prop := l.Pairwise llt
theorem Ord.ext : ∀ {l m : List (List Int)}, Ord l → Ord m → (∀ x, x ∈ l ↔ x ∈ m) → l = m
 | [], [], _, _, _ => rfl
 | [], b :: m, _, _, h => absurd ((h b).2 (by simp)) (by simp)
 | a :: l, [], _, _, h => absurd ((h a).1 (by simp)) (by simp)
 | a :: l, b :: m, hl, hm, h => by
  obtain ⟨l1, l2⟩ := List.pairwise_cons.1 hl
  obtain ⟨m1, m2⟩ := List.pairwise_cons.1 hm
  have hab : a = b := by
   rcases List.mem_cons.1 ((h a).1 (by simp)) with e | e
   ·exact e
   ·rcases List.mem_cons.1 ((h b).2 (by simp)) with e' | e'
    ·exact e'.symm
    ·exact (llt_asymm (l1 b e') (m1 a e)).elim
  subst hab
  rw [Ord.ext l2 m2 fun x => ⟨fun hx => ?_, fun hx => ?_⟩]
  ·rcases List.mem_cons.1 ((h x).1 (by simp [hx])) with e | e
   ·subst e; exact absurd (l1 x hx) (R9 x)
   ·exact e
  ·rcases List.mem_cons.1 ((h x).2 (by simp [hx])) with e | e
   ·subst e; exact absurd (m1 x hx) (R9 x)
   ·exact e
end Ab
end
section
namespace Ab
open Go
theorem wsN_tb : ∀ {l : List Int}, Inc l → (∀ x ∈ l, 0 ≤ x) → ∀ k : Nat, (wsN l).testBit k = dec ((k : Int) ∈ l)
 | [], _, _, k => by simp [wsN, dec]
 | a :: l, h, h0, k => by
  have hc := List.pairwise_cons.1 h
  obtain ⟨q, hq⟩ : 2 ^ (a.toNat + 1) ∣ wsN l := wsN_dvd fun x hx => by have := hc.1 x hx; have := h0 a (by simp); omega
  have ih := wsN_tb hc.2 (fun x hx => h0 x (List.mem_cons_of_mem _ hx)) k
  have e : wsN (a :: l) = wsN l ||| 2 ^ a.toNat := by
   rw [hq, ← Nat.two_pow_add_eq_or_of_lt (Nat.pow_lt_pow_right (by omega) (by omega)) q, ← hq]
   simp only [wsN]; omega
  rw [e, Nat.testBit_or, ih, Nat.testBit_two_pow]
  have ha := h0 a (by simp)
  by_cases c : (k : Int) = a
  ·have : a.toNat = k := by omega
   simp [this, c]
  ·have : ¬ a.toNat = k := by omega
   simp [this, c]
theorem SetN.tb {s : List Int} {n : Int} (h : SetN s n) (k : Nat) : (wsN s).testBit k = dec ((k : Int) ∈ s) := wsN_tb h.1 (fun x hx => (h.2 x hx).1) k
theorem SetN.w32 {s : List Int} {n : Int} (h : SetN s n) (hn : n ≤ 24) : wsN s < 4294967296 := by
 refine Nat.lt_pow_two_of_testBit (n := 32) _ fun i hi => ?_
 rw [h.tb, dec_false]
 intro q
 have := (h.2 _ q).2
 omega
theorem wrap32 {n : Nat} (h : n < 4294967296) : IntKind.wrap .u32 (n : Int) = n := by
 simp only [IntKind.wrap, IntKind.bits, IntKind.signed, Bool.false_and, Bool.false_eq_true, if_false]
 omega
theorem bit_and {a b : Nat} (ha : a < 4294967296) : Go.bits .and .u32 (a : Int) (b : Int) = ((a &&& b : Nat) : Int) := by
 have e : (BitVec.ofNat 32 a &&& BitVec.ofNat 32 b).toNat = a &&& b := by
  rw [BitVec.toNat_and, BitVec.toNat_ofNat, BitVec.toNat_ofNat]
  refine Nat.eq_of_testBit_eq fun i => ?_
  simp only [Nat.testBit_and, Nat.testBit_mod_two_pow]
  by_cases c : i < 32
  ·simp [c]
  ·have : a.testBit i = false := Nat.testBit_lt_two_pow (Nat.lt_of_lt_of_le ha (Nat.pow_le_pow_right (n := 2) (by omega) (show 32 ≤ i by omega)))
   simp [this]
 rw [← e]
 simp only [Go.bits, BitVec.ofInt_natCast, IntKind.bits]
 exact wrap32 (BitVec.ofNat 32 a &&& BitVec.ofNat 32 b).isLt
theorem bit_or {a b : Nat} (ha : a < 4294967296) (hb : b < 4294967296) : Go.bits .or .u32 (a : Int) (b : Int) = ((a ||| b : Nat) : Int) := by
 have e : (BitVec.ofNat 32 a ||| BitVec.ofNat 32 b).toNat = a ||| b := by
  rw [BitVec.toNat_or, BitVec.toNat_ofNat, BitVec.toNat_ofNat, Nat.mod_eq_of_lt (by simpa using ha), Nat.mod_eq_of_lt (by simpa using hb)]
 rw [← e]
 simp only [Go.bits, BitVec.ofInt_natCast, IntKind.bits]
 exact wrap32 (BitVec.ofNat 32 a ||| BitVec.ofNat 32 b).isLt
theorem bit_andNot {a b : Nat} (ha : a < 4294967296) : ∃ c : Nat, Go.bits .andNot .u32 (a : Int) (b : Int) = (c : Int) ∧ c < 4294967296 ∧ ∀ k, c.testBit k = (a.testBit k && !b.testBit k) := by
 refine ⟨(BitVec.ofNat 32 a &&& ~~~BitVec.ofNat 32 b).toNat, ?_, (BitVec.ofNat 32 a &&& ~~~BitVec.ofNat 32 b).isLt, fun k => ?_⟩
 ·simp only [Go.bits, BitVec.ofInt_natCast, IntKind.bits]
  exact wrap32 (BitVec.ofNat 32 a &&& ~~~BitVec.ofNat 32 b).isLt
 ·rw [BitVec.testBit_toNat, BitVec.getLsbD_and, BitVec.getLsbD_not, BitVec.getLsbD_ofNat, BitVec.getLsbD_ofNat]
  by_cases c : k < 32
  ·simp [c]
  ·have : a.testBit k = false := Nat.testBit_lt_two_pow (Nat.lt_of_lt_of_le ha (Nat.pow_le_pow_right (n := 2) (by omega) (show 32 ≤ k by omega)))
   simp [c, this]
theorem sub_word {s p : List Int} {n : Int} (hs : SetN s n) (hp : SetN p n) (hn : n ≤ 24) : Go.bits .and .u32 (wsN s : Int) (wsN p : Int) = (wsN p : Int) ↔ ∀ x ∈ p, x ∈ s := by
 rw [bit_and (hs.w32 hn)]
 constructor
 ·intro h x hx
  have h0 := (hp.2 x hx).1
  have e : (wsN s &&& wsN p) = wsN p := by omega
  have := congrArg (fun n => Nat.testBit n x.toNat) e
  simp only [Nat.testBit_and, hs.tb, hp.tb, show ((x.toNat : Nat) : Int) = x by omega, j7 hx, Bool.and_true, j9] at this
  exact this
 ·intro h
  have e : (wsN s &&& wsN p) = wsN p := by
   refine Nat.eq_of_testBit_eq fun i => ?_
   rw [Nat.testBit_and, hs.tb, hp.tb, dec_and]
   exact J7 ⟨fun q => q.2, fun q => ⟨h _ q, q⟩⟩
  rw [e]
theorem next_word {s d a : List Int} {n : Int} (hs : SetN s n) (hd : SetN d n) (ha : SetN a n) (hn : n ≤ 24) :
  Go.bits .or .u32 (Go.bits .andNot .u32 (wsN s : Int) (wsN d : Int)) (wsN a : Int) = (wsN (G0 (fun x => x ∈ a ∨ x ∈ s ∧ x ∉ d) n) : Int) := by
 obtain ⟨c, c1, c2, c3⟩ := bit_andNot (b := wsN d) (hs.w32 hn)
 have hr : SetN (G0 (fun x => x ∈ a ∨ x ∈ s ∧ x ∉ d) n) n := aj4 _ _
 rw [c1, bit_or c2 (ha.w32 hn)]
 have e : c ||| wsN a = wsN (G0 (fun x => x ∈ a ∨ x ∈ s ∧ x ∉ d) n) := by
  refine Nat.eq_of_testBit_eq fun i => ?_
  rw [Nat.testBit_or, c3, hs.tb, hd.tb, ha.tb, hr.tb, O2, dec_and, dec_or]
  refine J7 ?_
  rw [J1]
  constructor
  ·rintro (⟨q1, q2⟩ | q)
   ·exact ⟨(hs.2 _ q1).1, (hs.2 _ q1).2, .inr ⟨q1, q2⟩⟩
   ·exact ⟨(ha.2 _ q).1, (ha.2 _ q).2, .inl q⟩
  ·rintro ⟨_, _, q | q⟩
   ·exact .inr q
   ·exact .inl q
 rw [e]
theorem ae2 {s : List Int} {n : Int} (hs : SetN s n) (hn : n ≤ 24) : F6 s = some (wsN s : Int) := by
 unfold F6
 obtain ⟨w, h1, h2⟩ := v8 (body := U4 s) (n := (s.length : Int)) (s := 0) (fun j w => w = (wsN (s.take j.toNat) : Int)) (by omega) (by simp [wsN]) (fun j w j0 j1 hP => by
  obtain ⟨a, ha, ga⟩ := n4 (l := s) j0 j1
  have hb := hs.2 a (w5 ha)
  have ht : s.take (j + 1).toNat = s.take j.toNat ++ [a] := by rw [show (j + 1).toNat = j.toNat + 1 by omega, List.take_add_one, ga]; rfl
  have h1 : SetN (s.take j.toNat) n := ⟨List.Pairwise.sublist (List.take_sublist _ _) hs.1, fun x hx => hs.2 x (List.mem_of_mem_take hx)⟩
  have h2 : SetN (s.take j.toNat ++ [a]) n := by rw [← ht]; exact ⟨List.Pairwise.sublist (List.take_sublist _ _) hs.1, fun x hx => hs.2 x (List.mem_of_mem_take hx)⟩
  have h3 : SetN [a] n := ⟨List.pairwise_singleton _ _, fun x hx => by simp at hx; subst hx; exact hb⟩
  have e1 : shlW .u32 1 a = (wsN [a] : Int) := by
   have := h3.w32 hn
   unfold shlW
   simp only [wsN, Nat.add_zero] at this ⊢
   rw [show min a.toNat (IntKind.u32).bits = a.toNat by simp only [IntKind.bits]; omega, Int.one_mul]
   have ep : (2 : Int) ^ a.toNat = ((2 ^ a.toNat : Nat) : Int) := by push_cast; rfl
   rw [ep]; exact wrap32 this
  refine ⟨Go.bits .or .u32 w (shlW .u32 1 a), by simp only [U4, ha, oB, chk0, if_neg (show ¬ a < 0 by omega)], ?_⟩
  rw [e1, hP, bit_or (h1.w32 hn) (h3.w32 hn), ht]
  have e : wsN (s.take j.toNat) ||| wsN [a] = wsN (s.take j.toNat ++ [a]) := by
   refine Nat.eq_of_testBit_eq fun i => ?_
   rw [Nat.testBit_or, h1.tb, h2.tb, h3.tb, dec_or]
   exact J7 (by simp)
  rw [e])
 rw [h1, h2, Int.toNat_natCast, List.take_length]
 rfl
noncomputable def F2 (w : Nat) (n : Nat) : List Int := (nums 0 n).filter fun x => w.testBit x.toNat
theorem facts_eq {w : Nat} (hw : w < 4294967296) : O3 (w : Int) = some (F2 w 32) := by
 unfold O3
 obtain ⟨r, h1, h2⟩ := v8 (body := S4 (w : Int)) (n := 32) (s := []) (fun j c => c = F2 w j.toNat) (by omega) (by simp [F2, nums]) (fun j c j0 j1 hP => by
  subst hP
  have hlen : (F2 w j.toNat).length ≤ 32 := by
   refine Nat.le_trans (List.length_filter_le _ _) ?_
   rw [len_nums]; omega
  have hn : nums 0 (j + 1).toNat = nums 0 j.toNat ++ [j] := by
   refine Inc.ext (ai6 _ _) (List.pairwise_append.2 ⟨ai6 _ _, List.pairwise_singleton _ _, fun x hx y hy => ?_⟩) fun x => ?_
   ·simp at hy; subst hy; have := Q3.1 hx; omega
   ·rw [List.mem_append, Q3, Q3, List.mem_singleton]; omega
  have e1 : shrW .u32 (w : Int) j = ((w >>> j.toNat : Nat) : Int) := by
   unfold shrW
   rw [show min j.toNat (IntKind.u32).bits = j.toNat by simp only [IntKind.bits]; omega]
   have ep : (2 : Int) ^ j.toNat = ((2 ^ j.toNat : Nat) : Int) := by push_cast; rfl
   rw [ep, Nat.shiftRight_eq_div_pow, Int.fdiv_eq_ediv_of_nonneg _ (Int.natCast_nonneg _)]
   rfl
  have h2 : w >>> j.toNat < 4294967296 := Nat.lt_of_le_of_lt (Nat.shiftRight_le _ _) hw
  have e2 : Go.bits .and .u32 ((w >>> j.toNat : Nat) : Int) 1 = ((w >>> j.toNat &&& 1 : Nat) : Int) := bit_and (b := 1) h2
  have e3 : (w >>> j.toNat &&& 1 = 1) ↔ w.testBit j.toNat = true := by
   rw [Nat.testBit]; simp [Nat.and_comm]
  unfold S4
  rw [e1, e2]
  by_cases c : w.testBit j.toNat = true
  ·rw [if_pos (by have := e3.2 c; omega), app, if_pos (by simp; omega)]
   exact ⟨_, rfl, by simp [F2, hn, List.filter_append, c]⟩
  ·rw [if_neg (fun q => c (e3.1 (by omega)))]
   exact ⟨_, rfl, by simp [F2, hn, List.filter_append, c]⟩)
 rw [h1, h2]; rfl
theorem bitsOf_inj {a b : Nat} (ha : a < 4294967296) (hb : b < 4294967296) (h : F2 a 32 = F2 b 32) : a = b := by
 refine Nat.eq_of_testBit_eq fun i => ?_
 by_cases c : i < 32
 ·have key : ∀ w : Nat, (i : Int) ∈ F2 w 32 ↔ w.testBit i = true := fun w => by
   simp only [F2, List.mem_filter, Q3, Int.toNat_natCast]
   exact ⟨fun q => q.2, fun q => ⟨by omega, q⟩⟩
  have := (key a).symm.trans ((by rw [h]) : ((i : Int) ∈ F2 a 32 ↔ (i : Int) ∈ F2 b 32)) |>.trans (key b)
  cases h1 : a.testBit i <;> cases h2 : b.testBit i <;> simp [h1, h2] at this ⊢
 ·have low : ∀ w : Nat, w < 4294967296 → w.testBit i = false := fun w hw => Nat.testBit_lt_two_pow (Nat.lt_of_lt_of_le hw (Nat.pow_le_pow_right (n := 2) (by omega) (show 32 ≤ i by omega)))
  rw [low a ha, low b hb]
theorem words_cmp : CmpOk (fun a b : U32 => E5 a.1 b.1) (fun a b => cmpL (F2 a.1.toNat 32) (F2 b.1.toNat 32)) := by
 obtain ⟨h1, h2, h3⟩ := cmp_ok
 refine ⟨fun a b => ?_, ⟨fun x => h2.irrefl _, fun x y z => h2.trans _ _ _, fun x y z => h2.ntrans _ _ _⟩, fun a b q1 q2 => ?_⟩
 ·have ea := facts_eq (w := a.1.toNat) (by have := a.2; omega)
  have eb := facts_eq (w := b.1.toNat) (by have := b.2; omega)
  rw [show ((a.1.toNat : Nat) : Int) = a.1 by have := a.2; omega] at ea
  rw [show ((b.1.toNat : Nat) : Int) = b.1 by have := b.2; omega] at eb
  simp only [E5, ea, eb, oB, h1]
 ·have := bitsOf_inj (a := a.1.toNat) (b := b.1.toNat) (by have := a.2; omega) (by have := b.2; omega) (h3 _ _ q1 q2)
  have ha := a.2; have hb := b.2
  exact Subtype.ext (by omega)
theorem sortW {l : List Int} (hl : l.length ≤ 1000000) (hw : ∀ x ∈ l, 0 ≤ x ∧ x < 4294967296) : ∃ l', sortFU E5 l = some l' ∧ l'.Perm l := by
 unfold sortFU
 rw [dif_pos hw, sortFL_eq (by simp; omega) words_cmp]
 refine ⟨_, rfl, ?_⟩
 have := (List.mergeSort_perm (l.attach.map fun x => (⟨x.1, hw x.1 x.2⟩ : U32)) (fun x y => decide (¬ cmpL (F2 y.1.toNat 32) (F2 x.1.toNat 32) < 0))).map (fun z : U32 => z.1)
 simpa using this
end Ab
end
section
namespace Ab
open Go
inductive Rt (t : d9) : List Int → Prop
 | init : Rt t t.init
 | step {s : List Int} {op : Int} (h : Rt t s) (h0 : 0 ≤ op) (h1 : op < t.operators.length) (hc : can t s op) : Rt t (aft t s op)
theorem Rt.setN {t : d9} (ht : i6 t) {s : List Int} (h : Rt t s) : SetN s t.facts := by
 cases h with
 | init => exact ht.init
 | step => exact U7 _ _ _
theorem Rt.ends {t : d9} : ∀ {plan s e : List Int}, Rt t s → (∀ x ∈ plan, (0 : Int) ≤ x ∧ x < t.operators.length) → ends t s plan = some e → Rt t e
 | [], s, e, hs, _, h => by simp only [Ab.ends, Option.some.injEq] at h; subst h; exact hs
 | op :: r, s, e, hs, hv, h => by
  simp only [Ab.ends] at h
  split at h
  ·rename_i hc
   have := hv op List.mem_cons_self
   exact Rt.ends (hs.step this.1 this.2 (j9.1 hc)) (fun x hx => hv x (List.mem_cons_of_mem _ hx)) h
  ·cases h
theorem Rt.way {t : d9} {s : List Int} (h : Rt t s) : ∃ plan : List Int, (∀ x ∈ plan, (0 : Int) ≤ x ∧ x < t.operators.length) ∧ Ab.ends t t.init plan = some s := by
 induction h with
 | init => exact ⟨[], by simp, rfl⟩
 | @step s op h h0 h1 hc ih =>
  obtain ⟨p, p1, p2⟩ := ih
  refine ⟨p ++ [op], fun x hx => ?_, ?_⟩
  ·rcases List.mem_append.1 hx with hx | hx
   ·exact p1 x hx
   ·simp only [List.mem_singleton] at hx; subst hx; exact ⟨h0, h1⟩
  ·rw [O0, p2]
   simp only [oB, Ab.ends]
   rw [if_pos (j7 hc)]
def Cls (t : d9) (l : List (List Int)) (s : List Int) : Prop := ∀ op : Int, 0 ≤ op → op < t.operators.length → can t s op → aft t s op ∈ l
theorem Rt.mem {t : d9} {l : List (List Int)} (hi : t.init ∈ l) (hc : ∀ s ∈ l, Cls t l s) {s : List Int} (h : Rt t s) : s ∈ l := by
 induction h with
 | init => exact hi
 | step h h0 h1 hcan ih => exact hc _ ih _ h0 h1 hcan
def Many (t : d9) : Prop := ∃ l : List (List Int), l.Nodup ∧ l.length = 2001 ∧ ∀ s ∈ l, Rt t s
end Ab
end
section
namespace Ab
open Go
abbrev Mk := i7
def wd (s : List Int) : Int := (wsN s : Int)
def mkOf (o : f5) : Mk := ⟨wd o.pre, wd o.add, wd o.del, o.cost⟩
def mks (t : d9) : List Mk := t.operators.map mkOf
def canW (m : Mk) (x : Int) : Prop := Go.bits .and .u32 x m.pre = m.pre
def tgtW (m : Mk) (x : Int) : Int := Go.bits .or .u32 (Go.bits .andNot .u32 x m.del) m.add
theorem wd_inj {t : d9} (ht : i6 t) {s s' : List Int} (h : SetN s t.facts) (h' : SetN s' t.facts) (e : wd s = wd s') : s = s' :=
 h.word_inj h' (by unfold wd at e; omega)
theorem wd_u32 {t : d9} (ht : i6 t) {s : List Int} (h : SetN s t.facts) : 0 ≤ wd s ∧ wd s < 4294967296 := by
 have := h.w32 ht.n1; unfold wd; omega
theorem J8 {t : d9} (ht : i6 t) {op : Int} (h0 : 0 ≤ op) (h1 : op < t.operators.length) : M7 (opAt t op) t.facts ∧ T5 (opAt t op) := ht.op _ (w5 (R5 h0 h1))
theorem ai2 {t : d9} (ht : i6 t) {s : List Int} (h : SetN s t.facts) {op : Int} (h0 : 0 ≤ op) (h1 : op < t.operators.length) : canW (mkOf (opAt t op)) (wd s) ↔ can t s op :=
 sub_word h (J8 ht h0 h1).1.1 ht.n1
theorem tgtW_eq {t : d9} (ht : i6 t) {s : List Int} (h : SetN s t.facts) {op : Int} (h0 : 0 ≤ op) (h1 : op < t.operators.length) : tgtW (mkOf (opAt t op)) (wd s) = wd (aft t s op) :=
 next_word h (J8 ht h0 h1).1.2.2.1 (J8 ht h0 h1).1.2.1 ht.n1
theorem mks_mem {t : d9} {m : Mk} (h : m ∈ mks t) : ∃ op : Int, 0 ≤ op ∧ op < t.operators.length ∧ m = mkOf (opAt t op) := by
 obtain ⟨o, ho, rfl⟩ := List.mem_map.1 h
 obtain ⟨i, h0, h1, h2⟩ := y8 ho
 rw [R5 h0 h1] at h2; cases h2
 exact ⟨i, h0, h1, rfl⟩
theorem mks_of {t : d9} {op : Int} (h0 : 0 ≤ op) (h1 : op < t.operators.length) : mkOf (opAt t op) ∈ mks t := List.mem_map.2 ⟨_, w5 (R5 h0 h1), rfl⟩
theorem of_eq {t : d9} (ht : i6 t) : Y3 t = some (wd t.init, wd t.goal, mks t) := by
 unfold Y3
 rw [ae2 ht.init ht.n1, ae2 ht.goal ht.n1]
 simp only [oB]
 obtain ⟨r, h1, h2⟩ := v8 (body := T8 t) (n := (t.operators.length : Int)) (s := []) (fun j c => c = (t.operators.take j.toNat).map mkOf) (by omega) (by simp) (fun j c j0 j1 hP => by
  have ho := J8 ht j0 j1
  have hx := R5 j0 j1
  have ga := (m9 hx).2.2
  have hl := ht.ops
  have htk : t.operators.take (j + 1).toNat = t.operators.take j.toNat ++ [opAt t j] := by rw [show (j + 1).toNat = j.toNat + 1 by omega, List.take_add_one, ga]; rfl
  unfold T8
  rw [hx]
  simp only [oB, ae2 ho.1.1 ht.n1, ae2 ho.1.2.1 ht.n1, ae2 ho.1.2.2.1 ht.n1]
  refine ⟨c ++ [mkOf (opAt t j)], ?_, ?_⟩
  ·unfold app
   rw [if_pos (by rw [hP]; simp; omega)]; rfl
  ·rw [hP, htk]; simp)
 rw [h1, h2, Int.toNat_natCast, List.take_length]
 rfl
def Rwd (t : d9) (x : Int) : Prop := ∃ s, Rt t s ∧ x = wd s
theorem states_of {t : d9} : ∀ {l : List Int}, (∀ x ∈ l, Rwd t x) → ∃ ss : List (List Int), ss.map wd = l ∧ ∀ s ∈ ss, Rt t s
 | [], _ => ⟨[], rfl, by simp⟩
 | x :: l, h => by
  obtain ⟨s, s1, s2⟩ := h x (by simp)
  obtain ⟨ss, h1, h2⟩ := states_of (l := l) fun y hy => h y (List.mem_cons_of_mem _ hy)
  exact ⟨s :: ss, by simp [h1, s2], by simp [s1]; exact h2⟩
theorem ae7 {α β : Type} {f : α → β} : ∀ {l : List α}, (l.map f).Nodup → l.Nodup
 | [], _ => List.nodup_nil
 | x :: l, h => by
  simp only [List.map_cons, List.nodup_cons] at h
  exact List.nodup_cons.2 ⟨fun hx => h.1 (List.mem_map.2 ⟨x, hx, rfl⟩), ae7 h.2⟩
theorem many_of {t : d9} {l : List Int} (hn : l.Nodup) (hl : 2000 < l.length) (h : ∀ x ∈ l, Rwd t x) : Many t := by
 obtain ⟨ss, h1, h2⟩ := states_of (l := l.take 2001) fun x hx => h x (List.mem_of_mem_take hx)
 refine ⟨ss, ae7 (f := wd) (by rw [h1]; exact hn.sublist (List.take_sublist _ _)), ?_, h2⟩
 have := congrArg List.length h1
 simp only [List.length_map, List.length_take] at this
 omega
theorem Rwd.next {t : d9} (ht : i6 t) {x : Int} (h : Rwd t x) {m : Mk} (hm : m ∈ mks t) (hc : canW m x) : Rwd t (tgtW m x) := by
 obtain ⟨s, s1, rfl⟩ := h
 obtain ⟨op, h0, h1, rfl⟩ := mks_mem hm
 have hs := s1.setN ht
 exact ⟨_, .step s1 h0 h1 ((ai2 ht hs h0 h1).1 hc), tgtW_eq ht hs h0 h1⟩
theorem Rwd.all {t : d9} (ht : i6 t) {l : List Int} (hi : wd t.init ∈ l) (hc : ∀ x ∈ l, ∀ m ∈ mks t, canW m x → tgtW m x ∈ l) {x : Int} (h : Rwd t x) : x ∈ l := by
 obtain ⟨s, h, rfl⟩ := h
 induction h with
 | init => exact hi
 | step h h0 h1 hcan ih =>
  have hs := h.setN ht
  have := hc _ ih _ (mks_of h0 h1) ((ai2 ht hs h0 h1).2 hcan)
  rwa [tgtW_eq ht hs h0 h1] at this
abbrev MpU := List (Int × Unit)
theorem mgetU {m : MpU} {x : Int} : mget m x = none ↔ x ∉ m.map (·.1) := by
 constructor
 ·exact mget_none
 ·intro h
  cases e : mget m x with
  | none => rfl
  | some u => exact absurd (List.mem_map.2 ⟨_, mget_mem e, rfl⟩) h
structure AlW (t : d9) (q : List Int) (f : MpU) (a : List Int) : Prop where
 nd : (f.map (·.1)).Nodup
 pm : (f.map (·.1)).Perm (q ++ a)
 rw : ∀ x ∈ f.map (·.1), Rwd t x
theorem all_in {t : d9} (ht : i6 t) {q a : List Int} {f : MpU} {x : Int} (hx : Rwd t x) (h : AlW t q f a) (hf : f.length ≤ 2000) (u : Unit) {c : List Int} (hc : o7 c 0 ((c.length : Int) - 1) = q) :
  ∃ f' q', E7 (mks t) c f x u = some (f', q') ∧ AlW t q' f' a ∧ (∀ y ∈ f.map (·.1), y ∈ f'.map (·.1)) ∧ ∀ m ∈ mks t, canW m x → tgtW m x ∈ f'.map (·.1) := by
 unfold E7
 have hml : (mks t).length ≤ 40 := by simp [mks]; exact ht.ops
 obtain ⟨r, h1, h2, h3, h4, h5⟩ := v8 (body := E4 (mks t) x u) (n := ((mks t).length : Int)) (s := (f, o7 c 0 ((c.length : Int) - 1)))
  (fun j s => AlW t s.2 s.1 a ∧ (∀ y ∈ f.map (·.1), y ∈ s.1.map (·.1)) ∧ s.1.length ≤ 2000 + j ∧ ∀ i m, i < j → ix (mks t) i = some m → canW m x → tgtW m x ∈ s.1.map (·.1)) (by omega)
  ⟨by rw [hc]; exact h, fun _ h => h, by simp only; omega, fun i m hi hm => by have := (m9 hm).1; omega⟩ (fun j s j0 j1 hP => by
   obtain ⟨f', q'⟩ := s
   obtain ⟨p1, p2, p3, p4⟩ := hP
   simp only at p1 p2 p3 p4
   obtain ⟨m, hm, _⟩ := n4 j0 j1
   have hmm := w5 hm
   unfold E4
   simp only [hm, oB]
   by_cases c1 : Go.bits .and .u32 x m.pre = m.pre
   ·rw [if_pos c1]
    have c1' : canW m x := c1
    have ee : Go.bits .or .u32 (Go.bits .andNot .u32 x m.del) m.add = tgtW m x := rfl
    rw [ee]
    by_cases c2 : mget f' (tgtW m x) = none
    ·rw [if_pos (by simp [c2])]
     have hq : q'.length ≤ f'.length := by have := p1.pm.length_eq; simp at this; omega
     have ha : app 4 q' [tgtW m x] = some (q' ++ [tgtW m x]) := by unfold app; rw [if_pos (by simp; omega)]
     simp only [ha, oB]
     have hmem := mgetU.1 c2
     refine ⟨_, rfl, ⟨?_, ?_, ?_⟩, ?_, ?_, ?_⟩
     ·simp only [Q7 c2, List.map_append]
      refine List.nodup_append.2 ⟨p1.nd, by simp, fun y hy z hz e => ?_⟩
      simp at hz; subst hz; subst e; exact hmem hy
     ·simp only [Q7 c2, List.map_append, List.map_cons, List.map_nil]
      refine (p1.pm.append_right _).trans ?_
      rw [List.append_assoc, List.append_assoc]
      exact List.Perm.append_left _ List.perm_append_comm
     ·intro y hy
      simp only [Q7 c2, List.map_append, List.mem_append, List.map_cons, List.map_nil, List.mem_singleton] at hy
      rcases hy with hy | rfl
      ·exact p1.rw y hy
      ·exact hx.next ht hmm c1'
     ·intro y hy
      simp only [Q7 c2, List.map_append, List.mem_append]
      exact .inl (p2 y hy)
     ·simp only [Q7 c2, List.length_append, List.length_singleton]; omega
     ·intro i m' hi hm' hc'
      simp only [Q7 c2, List.map_append, List.mem_append]
      by_cases e : i = j
      ·subst e; rw [hm] at hm'; cases hm'; exact .inr (by simp)
      ·exact .inl (p4 i m' (by omega) hm' hc')
    ·rw [if_neg (by simp; cases e : mget f' (tgtW m x) with | none => exact absurd e c2 | some _ => simp)]
     refine ⟨_, rfl, p1, p2, by simp only; omega, fun i m' hi hm' hc' => ?_⟩
     by_cases e : i = j
     ·subst e; rw [hm] at hm'; cases hm'
      exact Classical.byContradiction fun q => c2 (mgetU.2 q)
     ·exact p4 i m' (by omega) hm' hc'
   ·rw [if_neg c1]
    refine ⟨_, rfl, p1, p2, by simp only; omega, fun i m' hi hm' hc' => ?_⟩
    by_cases e : i = j
    ·subst e; rw [hm] at hm'; cases hm'; exact absurd hc' c1
    ·exact p4 i m' (by omega) hm' hc')
 refine ⟨r.1, r.2, by rw [h1]; rfl, h2, h3, fun m hm hcan => ?_⟩
 obtain ⟨i, i0, i1, hi⟩ := y8 hm
 exact h5 i m i1 hi hcan
theorem all_spec {t : d9} (ht : i6 t) (goal : Int) : ∃ l b, D3 (wd t.init) goal (mks t) = some (l, b) ∧ (b = false → Many t) ∧ (b = true → l.Nodup ∧ l.length ≤ 2000 ∧ ∀ x, x ∈ l ↔ Rwd t x) := by
 unfold D3
 simp only [v6, oB]
 have hi0 : Rwd t (wd t.init) := ⟨_, .init, rfl⟩
 obtain ⟨o, h1, h2⟩ := M6 (body := E6 (wd t.init) goal (mks t)) (s := ([wd t.init], mset ([] : MpU) (wd t.init) (), []))
  (fun s => AlW t s.1 s.2.1 s.2.2 ∧ wd t.init ∈ s.2.1.map (·.1) ∧ s.2.1.length ≤ 2000 ∧ ∀ x ∈ s.2.2, ∀ m ∈ mks t, canW m x → tgtW m x ∈ s.2.1.map (·.1))
  (fun o => match o with | .inl l => l.Nodup ∧ l.length ≤ 2000 ∧ ∀ x, x ∈ l ↔ Rwd t x | .inr x => x = ([], false) ∧ Many t)
  (fun s => 2000 - s.2.2.length) ⟨⟨by simp [mset], by simp [mset], by simp [mset]; exact hi0⟩, by simp [mset], by simp [mset], by simp⟩ (by
   rintro ⟨q, f, a⟩ ⟨p1, p2, p3, p4⟩
   simp only at p1 p2 p3 p4
   have hlen : f.length = q.length + a.length := by have := p1.pm.length_eq; simpa using this
   unfold E6
   by_cases c : 0 < q.length
   ·simp only [show (0 : Int) < (q.length : Int) by omega, if_true]
    obtain ⟨x, hx, gx⟩ := n4 (l := q) (i := (q.length : Int) - 1) (by omega) (by omega)
    have hq : o7 q 0 ((q.length : Int) - 1) ++ [x] = q := by
     have : o7 q 0 ((q.length : Int) - 1) = q.take (q.length - 1) := by
      simp only [o7, Int.toNat_zero, List.drop_zero]
      rw [show ((q.length : Int) - 1).toNat = q.length - 1 by omega]
     rw [this]
     have e : q.take (q.length - 1 + 1) = q.take (q.length - 1) ++ [x] := by
      rw [List.take_add_one]
      rw [show ((q.length : Int) - 1).toNat = q.length - 1 by omega] at gx
      rw [gx]; rfl
     rw [← e, show q.length - 1 + 1 = q.length by omega, List.take_length]
    have hxm : x ∈ f.map (·.1) := p1.pm.mem_iff.2 (List.mem_append_left _ (w5 hx))
    have hxr := p1.rw x hxm
    have ha : app 4 a [x] = some (a ++ [x]) := by unfold app; rw [if_pos (by simp; omega)]
    have p1' : AlW t (o7 q 0 ((q.length : Int) - 1)) f (a ++ [x]) := ⟨p1.nd, p1.pm.trans (by
     rw (occs := .pos [1]) [← hq]
     rw [List.append_assoc]
     exact List.Perm.append_left _ List.perm_append_comm), p1.rw⟩
    obtain ⟨f', q', k1, k2, k3, k4⟩ := all_in ht hxr p1' p3 () rfl
    simp only [hx, ha, cutV, oB, A0]
    rw [if_pos (by omega)]
    simp only [oB, k1]
    by_cases big : 2000 < f'.length
    ·rw [if_pos (by omega)]
     exact .inr ⟨_, rfl, rfl, many_of k2.nd (by simpa using big) k2.rw⟩
    ·rw [if_neg (by omega)]
     have hlen' : f'.length = q'.length + (a ++ [x]).length := by have := k2.pm.length_eq; simpa using this
     refine .inl ⟨_, rfl, ⟨k2, k3 _ p2, by simp only; omega, fun y hy m hm hc => ?_⟩, by simp only [List.length_append, List.length_singleton] at hlen' ⊢; omega⟩
     simp only [List.mem_append, List.mem_singleton] at hy
     rcases hy with hy | rfl
     ·exact k3 _ (p4 y hy m hm hc)
     ·exact k4 m hm hc
   ·have : q = [] := List.eq_nil_of_length_eq_zero (by omega)
    subst this
    refine .inr ⟨.inl a, by simp, ?_⟩
    have hp : (f.map (·.1)).Perm a := by simpa using p1.pm
    refine ⟨hp.nodup_iff.1 p1.nd, by simp at hlen; omega, fun x => ⟨fun hx => p1.rw x (hp.mem_iff.2 hx), fun hx => ?_⟩⟩
    exact Rwd.all ht (hp.mem_iff.1 p2) (fun y hy m hm hc => hp.mem_iff.1 (p4 y hy m hm hc)) hx)
 rw [h1]
 rcases o with l | o
 ·exact ⟨l, true, rfl, by simp, fun _ => h2⟩
 ·obtain ⟨rfl, h3⟩ := h2
  exact ⟨[], false, rfl, fun _ => h3, by simp⟩
end Ab
end
section
namespace Ab
open Go
abbrev En := d4
def Hp (L : List Int) (E : List En) : Prop := ∀ i h, ix L i = some h → ∃ e, ix E h = some e ∧ e.fat = i
structure Sme (L : List Int) (E : List En) (L' : List Int) (E' : List En) : Prop where
 len : L'.length = L.length
 mem : ∀ h, h ∈ L' ↔ h ∈ L
 elen : E'.length = E.length
 e : ∀ h a, ix E h = some a → ∃ a', ix E' h = some a' ∧ a'.item = a.item ∧ a'.key = a.key
theorem Sme.refl (L : List Int) (E : List En) : Sme L E L E := ⟨rfl, fun _ => Iff.rfl, rfl, fun h a ha => ⟨a, ha, rfl, rfl⟩⟩
theorem Sme.trans {L L' L'' : List Int} {E E' E'' : List En} (h : Sme L E L' E') (g : Sme L' E' L'' E'') : Sme L E L'' E'' := by
 refine ⟨g.len.trans h.len, fun x => (g.mem x).trans (h.mem x), g.elen.trans h.elen, fun x a ha => ?_⟩
 obtain ⟨b, b1, b2, b3⟩ := h.e x a ha
 obtain ⟨c, c1, c2, c3⟩ := g.e x b b1
 exact ⟨c, c1, c2.trans b2, c3.trans b3⟩
theorem Hp.inj {L : List Int} {E : List En} (h : Hp L E) {i j x : Int} (h1 : ix L i = some x) (h2 : ix L j = some x) : i = j := by
 obtain ⟨e, e1, e2⟩ := h i x h1
 obtain ⟨f, f1, f2⟩ := h j x h2
 rw [e1] at f1; cases f1; rw [← e2, ← f2]
theorem mem_ixI {α : Type} {l : List α} {x : α} : x ∈ l ↔ ∃ i : Int, ix l i = some x := by
 constructor
 ·intro h
  obtain ⟨k, hk⟩ := List.getElem?_of_mem h
  exact ⟨k, by rw [Y7]; exact hk⟩
 ·rintro ⟨i, h⟩; exact w5 h
theorem less_ok {L : List Int} {E : List En} (h : Hp L E) {i k : Int} (hi : 0 ≤ i) (hi' : i < L.length) (hk : 0 ≤ k) (hk' : k < L.length) : ∃ b, l0 i k L E = some b := by
 obtain ⟨x, x1, _⟩ := n4 hi hi'
 obtain ⟨y, y1, _⟩ := n4 hk hk'
 obtain ⟨e, e1, _⟩ := h i x x1
 obtain ⟨f, f1, _⟩ := h k y y1
 exact ⟨_, by simp only [l0, x1, y1, e1, f1, oB]; rfl⟩
theorem swap_ok {L : List Int} {E : List En} (h : Hp L E) {i k : Int} (hi : 0 ≤ i) (hi' : i < L.length) (hk : 0 ≤ k) (hk' : k < L.length) :
  ∃ L' E', k9 i k L E = some (L', E') ∧ Hp L' E' ∧ Sme L E L' E' ∧ (∀ x, ix L i = some x → ix L' k = some x) := by
 obtain ⟨x, x1, _⟩ := n4 hi hi'
 obtain ⟨y, y1, _⟩ := n4 hk hk'
 obtain ⟨e, e1, e2⟩ := h i x x1
 obtain ⟨f, f1, f2⟩ := h k y y1
 obtain ⟨ex0, ex1, _⟩ := m9 e1
 obtain ⟨ey0, ey1, _⟩ := m9 f1
 have hL : ∀ j, ix ((L.set i.toNat y).set k.toNat x) j = if j = k then some x else if j = i then some y else ix L j := by
  intro j
  by_cases hj : 0 ≤ j
  ·rw [Q8 hk (by simp; omega) hj]
   split
   ·rfl
   ·rw [Q8 hi hi' hj]
  ·rw [I4 (by omega), I4 (by omega), if_neg (by omega), if_neg (by omega)]
 have q1 : ix ((L.set i.toNat y).set k.toNat x) i = some y := by
  rw [hL]
  by_cases c : i = k
  ·subst c; rw [x1] at y1; cases y1; simp
  ·rw [if_neg c, if_pos rfl]
 have q2 : ix ((L.set i.toNat y).set k.toNat x) k = some x := by rw [hL, if_pos rfl]
 have hE : ∀ j, ix (E.set y.toNat (⟨f.item, f.key, f.time, i⟩ : En)) j = if j = y then some ⟨f.item, f.key, f.time, i⟩ else ix E j := by
  intro j
  by_cases hj : 0 ≤ j
  ·rw [Q8 ey0 ey1 hj]
  ·rw [I4 (by omega), I4 (by omega), if_neg (by omega)]
 obtain ⟨g, g1, g2, g3⟩ : ∃ g, ix (E.set y.toNat (⟨f.item, f.key, f.time, i⟩ : En)) x = some g ∧ g.item = e.item ∧ g.key = e.key := by
  rw [hE]
  by_cases c : x = y
  ·subst c; rw [e1] at f1; cases f1; exact ⟨_, if_pos rfl, rfl, rfl⟩
  ·exact ⟨e, by rw [if_neg c, e1], rfl, rfl⟩
 have hE2 : ∀ j, ix ((E.set y.toNat (⟨f.item, f.key, f.time, i⟩ : En)).set x.toNat (⟨g.item, g.key, g.time, k⟩ : En)) j = if j = x then some ⟨g.item, g.key, g.time, k⟩ else if j = y then some ⟨f.item, f.key, f.time, i⟩ else ix E j := by
  intro j
  by_cases hj : 0 ≤ j
  ·rw [Q8 ex0 (by simp; omega) hj, hE]
  ·rw [I4 (by omega), I4 (by omega), if_neg (by omega), if_neg (by omega)]
 refine ⟨_, _, by simp only [k9, x1, y1, q1, q2, f1, g1, oB]; rfl, ?_, ⟨by simp, fun z => ?_, by simp, fun z a ha => ?_⟩, ?_⟩
 ·intro j z hz
  rw [hL] at hz
  by_cases c : j = k
  ·rw [if_pos c] at hz; cases hz
   exact ⟨_, by rw [hE2, if_pos rfl], c.symm⟩
  ·rw [if_neg c] at hz
   by_cases d : j = i
   ·rw [if_pos d] at hz; cases hz
    have : y ≠ x := fun q => by subst q; exact c (d.trans (h.inj x1 y1))
    exact ⟨_, by rw [hE2, if_neg this, if_pos rfl], d.symm⟩
   ·rw [if_neg d] at hz
    obtain ⟨a, a1, a2⟩ := h j z hz
    refine ⟨a, ?_, a2⟩
    rw [hE2, if_neg (fun q => by subst q; exact d (h.inj hz x1)), if_neg (fun q => by subst q; exact c (h.inj hz y1)), a1]
 ·rw [mem_ixI, mem_ixI]
  constructor
  ·rintro ⟨j, hj⟩
   rw [hL] at hj
   split at hj
   ·cases hj; exact ⟨i, x1⟩
   ·split at hj
    ·cases hj; exact ⟨k, y1⟩
    ·exact ⟨j, hj⟩
  ·rintro ⟨j, hj⟩
   by_cases c : j = k
   ·subst c; rw [y1] at hj; cases hj; exact ⟨i, q1⟩
   ·by_cases d : j = i
    ·subst d; rw [x1] at hj; cases hj; exact ⟨k, q2⟩
    ·exact ⟨j, by rw [hL, if_neg c, if_neg d, hj]⟩
 ·rw [hE2]
  by_cases c : z = x
  ·subst c; rw [e1] at ha; cases ha; exact ⟨_, if_pos rfl, g2, g3⟩
  ·rw [if_neg c]
   by_cases d : z = y
   ·subst d; rw [f1] at ha; cases ha; exact ⟨_, if_pos rfl, rfl, rfl⟩
   ·exact ⟨a, by rw [if_neg d, ha], rfl, rfl⟩
 ·intro z hz; rw [x1] at hz; cases hz; exact q2
theorem same_swap : r8 = k9 := rfl
theorem same_down : C8 = w8 := rfl
structure Kp (nv : Int) (L : List Int) (E : List En) (l : List Int) (e : List En) : Prop where
 hp : Hp l e
 sm : Sme L E l e
 hi : ∀ j, nv ≤ j → ix l j = ix L j
theorem ix_sw {L L' : List Int} {E E' : List En} {i k : Int} (h : k9 i k L E = some (L', E')) (hk0 : 0 ≤ k) (hi0 : 0 ≤ i) (hi1 : i < L.length) (hk1 : k < L.length) {j : Int} (h1 : j ≠ i) (h2 : j ≠ k) : ix L' j = ix L j := by
 unfold k9 at h
 simp only [Option.bind_eq_some_iff] at h
 obtain ⟨a, _, b, _, c, _, d, _, e, _, f, _, g⟩ := h
 cases g
 by_cases hj : 0 ≤ j
 ·rw [Q8 hk0 (by simp; omega) hj, if_neg h2, Q8 hi0 hi1 hj, if_neg h1]
 ·rw [I4 (by omega), I4 (by omega)]
theorem down_body {nv i : Int} {L l : List Int} {E e : List En} (g : Kp nv L E l e) (hn : nv ≤ L.length) (hb : L.length ≤ 1000000) {c : Int} (hc : 0 ≤ c) (hc' : c < L.length) :
  (∃ l' e' c', s5 nv (l, e, c) = some (.inl (l', e', c')) ∧ Kp nv L E l' e' ∧ c < c' ∧ c' < nv) ∨ s5 nv (l, e, c) = some (.inr (l, e, c)) := by
 have hl := g.sm.len
 unfold s5
 have e1 : w64 (w64 (2 * c) + 1) = 2 * c + 1 := by rw [x6 (n := 2 * c) (by omega) (by omega), x6 (by omega) (by omega)]
 simp only [e1]
 by_cases c1 : nv ≤ 2 * c + 1
 ·rw [if_pos (by simp [c1])]; exact .inr rfl
 rw [if_neg (by simp; omega)]
 have e2 : w64 (2 * c + 1 + 1) = 2 * c + 2 := by rw [x6 (by omega) (by omega)]; omega
 simp only [e2]
 obtain ⟨j, j1, j2, j3⟩ : ∃ j, (Option.bind (if 2 * c + 2 < nv then Option.bind (l0 (2 * c + 2) (2 * c + 1) l e) fun a32 => some a32 else some false) fun t69 => if t69 = true then some (2 * c + 2) else some (2 * c + 1)) = some j ∧ c < j ∧ j < nv := by
  by_cases c2 : 2 * c + 2 < nv
  ·obtain ⟨b, hb'⟩ := less_ok g.hp (i := 2 * c + 2) (k := 2 * c + 1) (by omega) (by omega) (by omega) (by omega)
   rw [if_pos c2, hb']
   cases b
   ·exact ⟨2 * c + 1, rfl, by omega, by omega⟩
   ·exact ⟨2 * c + 2, rfl, by omega, by omega⟩
  ·rw [if_neg c2]
   exact ⟨2 * c + 1, rfl, by omega, by omega⟩
 rw [j1, Option.bind_some]
 obtain ⟨b, hb'⟩ := less_ok g.hp (i := j) (k := c) (by omega) (by omega) (by omega) (by omega)
 rw [hb', Option.bind_some]
 cases b
 ·exact .inr rfl
 ·obtain ⟨l', e', s1, s2, s3, _⟩ := swap_ok g.hp (i := c) (k := j) (by omega) (by omega) (by omega) (by omega)
  simp only [s1, oB, Y2, s3.len]
  refine .inl ⟨l', e', j, rfl, ⟨s2, g.sm.trans s3, fun q hq => ?_⟩, j2, j3⟩
  rw [ix_sw s1 (by omega) (by omega) (by omega) (by omega) (by omega) (by omega), g.hi q hq]
theorem down_ok {nv t0 : Int} {L : List Int} {M : List (Int × Int)} {E : List En} (h : Hp L E) {i : Int} (hi : 0 ≤ i) (hi' : i < L.length) (hn : nv ≤ L.length) (hb : L.length ≤ 1000000) :
  ∃ L' E' b, w8 i nv t0 L M E = some (L', E', b) ∧ Kp nv L E L' E' := by
 unfold w8
 obtain ⟨o, o1, o2⟩ := M6 (body := s5 nv) (s := (L, E, i))
  (fun s => Kp nv L E s.1 s.2.1 ∧ 0 ≤ s.2.2 ∧ s.2.2 < L.length) (fun o => Kp nv L E o.1 o.2.1) (fun s => (nv - s.2.2).toNat)
  ⟨⟨h, .refl _ _, fun _ _ => rfl⟩, hi, hi'⟩ (by
   rintro ⟨l, e, c⟩ ⟨g1, g2, g3⟩
   simp only at g1 g2 g3
   rcases down_body (i := i) g1 hn hb g2 g3 with ⟨l', e', c', q1, q2, q3, q4⟩ | q
   ·exact .inl ⟨_, q1, ⟨q2, by change 0 ≤ c'; omega, by change c' < _; omega⟩, by change (nv - c').toNat < (nv - c).toNat; omega⟩
   ·exact .inr ⟨_, q, g1⟩)
 obtain ⟨a, b, c⟩ := o
 exact ⟨a, b, _, by rw [o1]; rfl, o2⟩
theorem up_ok {t0 : Int} {L : List Int} {M : List (Int × Int)} {E : List En} (h : Hp L E) {i : Int} (hi : 0 ≤ i) (hi' : i < L.length) (hb : L.length ≤ 1000000) :
  ∃ L' E', A4 i t0 L M E = some (L', E') ∧ Hp L' E' ∧ Sme L E L' E' := by
 unfold A4
 obtain ⟨o, o1, o2⟩ := M6 (body := C9) (s := (L, E, i))
  (fun s => (Hp s.1 s.2.1 ∧ Sme L E s.1 s.2.1) ∧ 0 ≤ s.2.2 ∧ s.2.2 < L.length) (fun o => Hp o.1 o.2 ∧ Sme L E o.1 o.2) (fun s => s.2.2.toNat)
  ⟨⟨h, .refl _ _⟩, hi, hi'⟩ (by
   rintro ⟨l, e, c⟩ ⟨⟨g1, g4⟩, g2, g3⟩
   simp only at g1 g2 g3 g4
   have hl := g4.len
   unfold C9
   have e1 : w64 (c - 1) = c - 1 := x6 (by omega) (by omega)
   have e3 : (c - 1).tdiv 2 = if c = 0 then 0 else (c - 1) / 2 := by
    split
    ·rename_i q; subst q; rfl
    ·rw [Int.tdiv_eq_ediv_of_nonneg (by omega)]
   have e2 : w64 ((c - 1).tdiv 2) = if c = 0 then 0 else (c - 1) / 2 := by
    rw [e3]; split
    ·rfl
    ·exact x6 (by omega) (by omega)
   simp only [e1, e2, chkN, show ((2 : Int) = 0) = False by simp, if_false, oB]
   by_cases c0 : c = 0
   ·subst c0
    rw [if_pos (by simp)]
    exact .inr ⟨_, rfl, g1, g4⟩
   ·simp only [if_neg c0]
    rw [if_neg (by omega)]
    obtain ⟨b, hb'⟩ := less_ok g1 (i := c) (k := (c - 1) / 2) (by omega) (by omega) (by omega) (by omega)
    rw [hb']
    cases b
    ·exact .inr ⟨_, rfl, g1, g4⟩
    ·obtain ⟨l', e', s1, s2, s3, _⟩ := swap_ok g1 (i := (c - 1) / 2) (k := c) (by omega) (by omega) (by omega) (by omega)
     simp only [oB, Bool.not_true, Bool.false_eq_true, if_false, s1, Y2, s3.len, if_true]
     exact .inl ⟨_, rfl, ⟨⟨s2, g4.trans s3⟩, by simp only; omega, by simp only; omega⟩, by simp only; omega⟩)
 exact ⟨o.1, o.2, by rw [o1]; rfl, o2⟩
theorem fix_ok {t0 : Int} {L : List Int} {M : List (Int × Int)} {E : List En} (h : Hp L E) {i : Int} (hi : 0 ≤ i) (hi' : i < L.length) (hb : L.length ≤ 1000000) :
  ∃ L' E', x8 i t0 L M E = some (L', E') ∧ Hp L' E' ∧ Sme L E L' E' := by
 unfold x8
 obtain ⟨L', E', b, h1, h2⟩ := down_ok (nv := L.length) (t0 := t0) (M := M) h hi hi' (by omega) hb
 simp only [m7, h1, oB]
 cases b
 ·obtain ⟨L2, E2, k1, k2, k3⟩ := up_ok (t0 := t0) (M := M) h2.hp hi (by rw [h2.sm.len]; exact hi') (by rw [h2.sm.len]; exact hb)
  exact ⟨L2, E2, by simp [k1], k2, h2.sm.trans k3⟩
 ·exact ⟨L', E', by simp, h2.hp, h2.sm⟩
theorem push_ok {t0 : Int} {L : List Int} {M : List (Int × Int)} {E : List En} (h : Hp L E) {x : Int} {e : En} (hx : ix E x = some e) (hn : x ∉ L) (hb : L.length ≤ 999999) :
  ∃ L' E', w7 x t0 E L M = some (E', L') ∧ Hp L' E' ∧ Sme (L ++ [x]) E L' E' := by
 unfold w7 w9
 obtain ⟨x0, x1, _⟩ := m9 hx
 have ha : app 8 L [x] = some (L ++ [x]) := by unfold app; rw [if_pos (by simp; omega)]
 have hE : ∀ j, ix (E.set x.toNat (⟨e.item, e.key, e.time, (L.length : Int)⟩ : En)) j = if j = x then some ⟨e.item, e.key, e.time, (L.length : Int)⟩ else ix E j := by
  intro j
  by_cases hj : 0 ≤ j
  ·rw [Q8 x0 x1 hj]
  ·rw [I4 (by omega), I4 (by omega), if_neg (by omega)]
 simp only [hx, ha, oB, m7]
 have e1 : w64 (((L ++ [x]).length : Int) - 1) = (L.length : Int) := by rw [show (((L ++ [x]).length : Int) - 1) = (L.length : Int) by simp]; exact x6 (by omega) (by omega)
 have hh : Hp (L ++ [x]) (E.set x.toNat (⟨e.item, e.key, e.time, (L.length : Int)⟩ : En)) := by
  intro i z hz
  rw [ad6] at hz
  by_cases c : i = L.length
  ·rw [if_pos c] at hz; cases hz
   exact ⟨_, by rw [hE, if_pos rfl], c.symm⟩
  ·rw [if_neg c] at hz
   obtain ⟨a, a1, a2⟩ := h i z hz
   exact ⟨a, by rw [hE, if_neg (fun q => by subst q; exact hn (w5 hz)), a1], a2⟩
 obtain ⟨L', E', k1, k2, k3⟩ := up_ok (t0 := t0) (M := M) hh (i := L.length) (by omega) (by simp; omega) (by simp; omega)
 refine ⟨L', E', by rw [e1, k1]; rfl, k2, Sme.trans ⟨rfl, fun _ => Iff.rfl, by simp, fun z a hz => ?_⟩ k3⟩
 rw [hE]
 by_cases c : z = x
 ·subst c; rw [hx] at hz; cases hz; exact ⟨_, if_pos rfl, rfl, rfl⟩
 ·exact ⟨a, by rw [if_neg c, hz], rfl, rfl⟩
theorem pop_ok {t0 : Int} {L : List Int} {M : List (Int × Int)} {E : List En} (h : Hp L E) (hl : 0 < L.length) (hb : L.length ≤ 1000000) :
  ∃ L' E' x, B5 t0 L M E = some (E', L', x) ∧ Hp L' E' ∧ Sme L E (L' ++ [x]) E' ∧ x ∉ L' := by
 unfold B5
 have e1 : w64 ((L.length : Int) - 1) = (L.length : Int) - 1 := x6 (by omega) (by omega)
 obtain ⟨l, e, s1, s2, s3, _⟩ := swap_ok h (i := 0) (k := (L.length : Int) - 1) (by omega) (by omega) (by omega) (by omega)
 have hl' := s3.len
 obtain ⟨L1, E1, b, d1, d2⟩ := down_ok (nv := (L.length : Int) - 1) (t0 := t0) (M := M) s2 (i := 0) (by omega) (by omega) (by omega) (by omega)
 have hs := s3.trans d2.sm
 have hl1 := hs.len
 obtain ⟨x, x1, _⟩ := n4 (l := L1) (i := (L.length : Int) - 1) (by omega) (by omega)
 have hcut : subL L1 0 ((L1.length : Int) - 1) = some L1.dropLast := by
  unfold subL
  rw [if_pos (by omega)]
  simp only [Int.toNat_zero, List.drop_zero, List.dropLast_eq_take]
  rw [show ((L1.length : Int) - 1).toNat = L1.length - 1 by omega]
 have hsnoc : L1.dropLast ++ [x] = L1 := by
  have hne : L1 ≠ [] := by intro q; rw [q] at hl1; simp at hl1; omega
  have := (m9 x1).2.2
  rw [show ((L.length : Int) - 1).toNat = L1.length - 1 by omega] at this
  have hlast : L1.getLast hne = x := by
   rw [List.getLast_eq_getElem]
   have := List.getElem?_eq_some_iff.1 this
   exact this.2
  rw [← hlast]; exact List.dropLast_concat_getLast hne
 have hd : Hp L1.dropLast E1 := fun i z hz => d2.hp i z (by
  have := ah0 (x := x) hz; rwa [hsnoc] at this)
 refine ⟨L1.dropLast, E1, x, ?_, hd, by rw [hsnoc]; exact hs, fun hx => ?_⟩
 ·rw [same_swap, same_down]
  simp only [m7, e1, s1, oB, Y2, hl', if_true, d1, y7, hcut]
  rw [show (L1.length : Int) - 1 = (L.length : Int) - 1 by omega, x1]; rfl
 ·obtain ⟨i, hi⟩ := mem_ixI.1 hx
  have h2 := ah0 (x := x) hi
  rw [hsnoc] at h2
  have := d2.hp.inj h2 x1
  have h3 := (m9 hi).2.1
  simp at h3; omega
end Ab
end
section
namespace Ab
open Go
theorem mset_nodup {k v : Int} {m : List (Int × Int)} (h : (m.map (·.1)).Nodup) : ((mset m k v).map (·.1)).Nodup := by
 by_cases c : mget m k = none
 ·rw [Q7 c, List.map_append]
  refine List.nodup_append.2 ⟨h, by simp, fun a ha b hb e => ?_⟩
  simp at hb; subst hb; subst e; exact mget_none c ha
 ·rw [mset_keys c]; exact h
theorem mget_of_mem {k v : Int} : ∀ {m : List (Int × Int)}, (m.map (·.1)).Nodup → (k, v) ∈ m → mget m k = some v
 | [], _, h => by simp at h
 | p :: r, hn, h => by
  simp only [List.map_cons, List.nodup_cons] at hn
  simp only [mget]
  rcases List.mem_cons.1 h with e | h
  ·subst e; simp
  ·rw [if_neg (fun e => hn.1 (by rw [← e]; exact List.mem_map.2 ⟨_, h, rfl⟩))]
   exact mget_of_mem hn.2 h
theorem mdel_sub {k : Int} : ∀ {m : List (Int × Int)}, (mdel m k).Sublist m
 | [] => List.Sublist.slnil
 | p :: r => by
  simp only [mdel]
  split
  ·exact List.sublist_cons_self _ _
  ·exact mdel_sub.cons_cons _
theorem mget_mdel {k : Int} : ∀ {m : List (Int × Int)}, (m.map (·.1)).Nodup → ∀ x, mget (mdel m k) x = if x = k then none else mget m x
 | [], _, x => by simp [mdel, mget]
 | p :: r, hn, x => by
  simp only [List.map_cons, List.nodup_cons] at hn
  simp only [mdel]
  by_cases c : k = p.1
  ·rw [if_pos c]
   by_cases d : x = k
   ·rw [if_pos d]
    cases e : mget r x with
    | none => rfl
    | some v => exact absurd (List.mem_map.2 ⟨_, mget_mem e, rfl⟩) (by rw [d, c]; exact hn.1)
   ·rw [if_neg d]
    simp only [mget]
    rw [if_neg (fun e => d (e.trans c.symm))]
  ·rw [if_neg c]
   simp only [mget, mget_mdel hn.2]
   by_cases d : x = k
   ·rw [if_pos d, if_pos d, if_neg (by rw [d]; exact c)]
   ·rw [if_neg d, if_neg d]
structure Qu (M : List (Int × Int)) (L : List Int) (E : List En) : Prop where
 hp : Hp L E
 keys : (M.map (·.1)).Nodup
 mem : ∀ x h, mget M x = some h ↔ h ∈ L ∧ ∃ e, ix E h = some e ∧ e.item = x
def qkey (M : List (Int × Int)) (E : List En) (x : Int) : Option Int := (mget M x).bind fun h => (ix E h).map (·.key)
theorem Sme.item {L L' : List Int} {E E' : List En} (h : Sme L E L' E') (x y : Int) : (∃ e, ix E' x = some e ∧ e.item = y) ↔ ∃ e, ix E x = some e ∧ e.item = y := by
 constructor
 ·rintro ⟨e, e1, e2⟩
  obtain ⟨a, b, _⟩ := m9 e1
  obtain ⟨f, f1, _⟩ := n4 (l := E) a (by rw [← h.elen]; exact b)
  obtain ⟨g, g1, g2, _⟩ := h.e x f f1
  rw [e1] at g1; cases g1
  exact ⟨f, f1, g2.symm.trans e2⟩
 ·rintro ⟨e, e1, e2⟩
  obtain ⟨g, g1, g2, _⟩ := h.e x e e1
  exact ⟨g, g1, g2.trans e2⟩
theorem Sme.key {L L' : List Int} {E E' : List En} (h : Sme L E L' E') (x : Int) : (ix E' x).map (·.key) = (ix E x).map (·.key) := by
 cases e1 : ix E x with
 | some e =>
  obtain ⟨g, g1, _, g3⟩ := h.e x e e1
  rw [g1]; simp [g3]
 | none =>
  cases e2 : ix E' x with
  | none => rfl
  | some e =>
   obtain ⟨a, b, _⟩ := m9 e2
   obtain ⟨f, f1, _⟩ := n4 (l := E) a (by rw [← h.elen]; exact b)
   rw [e1] at f1; cases f1
theorem Qu.sme {M : List (Int × Int)} {L L' : List Int} {E E' : List En} (h : Qu M L E) (hp : Hp L' E') (hs : Sme L E L' E') : Qu M L' E' ∧ ∀ x, qkey M E' x = qkey M E x := by
 refine ⟨⟨hp, h.keys, fun x y => ?_⟩, fun x => ?_⟩
 ·rw [h.mem, hs.mem, hs.item]
 ·unfold qkey
  cases mget M x with
  | none => rfl
  | some y => simp [hs.key]
theorem Qu.nil : Qu [] [] [] := ⟨fun i h e => by simp [ix] at e, by simp, fun x h => by simp [mget]⟩
theorem Qu.val {M : List (Int × Int)} {L : List Int} {E : List En} (h : Qu M L E) {z : Int} (hz : z ∈ L) : z.toNat < E.length := by
 obtain ⟨i, _, _, hi⟩ := y8 hz
 obtain ⟨e, e1, _⟩ := h.hp i z hi
 exact f7 e1
theorem Qu.chk1 {M : List (Int × Int)} {L : List Int} {E : List En} (h : Qu M L E) : chkH E.length L = some () := by
 unfold chkH; rw [if_pos (fun z hz => h.val hz)]
theorem Qu.chk2 {M : List (Int × Int)} {L : List Int} {E : List En} (h : Qu M L E) : chkH E.length (M.map (·.2)) = some () := by
 unfold chkH
 rw [if_pos]
 intro z hz
 obtain ⟨p, hp, rfl⟩ := List.mem_map.1 hz
 exact h.val ((h.mem p.1 p.2).1 (mget_of_mem h.keys hp)).1
theorem Qu.item_inj {M : List (Int × Int)} {L : List Int} {E : List En} (h : Qu M L E) {a b : Int} {e f : En} (ha : a ∈ L) (hb : b ∈ L) (he : ix E a = some e) (hf : ix E b = some f) (hi : e.item = f.item) : a = b := by
 have h1 := (h.mem e.item a).2 ⟨ha, e, he, rfl⟩
 have h2 := (h.mem e.item b).2 ⟨hb, f, hf, hi.symm⟩
 rw [h1] at h2; exact Option.some.inj h2
theorem Hp.nodup {L : List Int} {E : List En} (h : Hp L E) : L.Nodup := by
 refine List.pairwise_iff_getElem.2 fun i j hi hj hij e => ?_
 have h1 : ix L (j : Int) = some L[j] := ix_ltN hj
 have h2 : ix L (i : Int) = some L[j] := by rw [← e]; exact ix_ltN hi
 have := h.inj h1 h2
 omega
theorem Qu.le {M : List (Int × Int)} {L : List Int} {E : List En} (h : Qu M L E) {vs : List Int} (hv : ∀ x, qkey M E x ≠ none → x ∈ vs) : L.length ≤ vs.length := by
 have h1 : (L.map fun z => ((ix E z).map (·.item)).getD 0).Nodup := by
  refine List.pairwise_map.2 ?_
  have := h.hp.nodup
  refine List.Pairwise.imp_of_mem (R := (· ≠ ·)) (fun {a b} ha hb hab e => hab ?_) this
  obtain ⟨i, _, _, hi⟩ := y8 ha
  obtain ⟨j, _, _, hj⟩ := y8 hb
  obtain ⟨x, x1, _⟩ := h.hp i a hi
  obtain ⟨y, y1, _⟩ := h.hp j b hj
  refine h.item_inj ha hb x1 y1 ?_
  simpa [x1, y1] using e
 have := W8 h1 (S := vs) (fun x hx => by
  obtain ⟨a, ha, rfl⟩ := List.mem_map.1 hx
  obtain ⟨i, _, _, hi⟩ := y8 ha
  obtain ⟨e, e1, _⟩ := h.hp i a hi
  refine hv _ ?_
  have := (h.mem e.item a).2 ⟨ha, e, e1, rfl⟩
  simp [e1, qkey, this])
 simpa using this
theorem set_ok {M : List (Int × Int)} {L : List Int} {E : List En} (h : Qu M L E) (hb : L.length ≤ 999999) (item key t0 : Int) :
  ∃ M' L' E', n7 item key t0 L M E = some (M', L', E') ∧ Qu M' L' E' ∧ ∀ x, qkey M' E' x = if x = item then some key else qkey M E x := by
 unfold n7
 cases hm : mget M item with
 | some z =>
  simp only [Option.isSome_some, if_true, oB]
  obtain ⟨hz, e, e1, e2⟩ := (h.mem item z).1 hm
  obtain ⟨z0, z1, _⟩ := m9 e1
  obtain ⟨i, i0, i1, hi⟩ := y8 hz
  have hf : e.fat = i := by
   obtain ⟨f, f1, f2⟩ := h.hp i z hi
   rw [e1] at f1; cases f1; exact f2
  simp only [e1, oB, List.set_set]
  have hE : ∀ j, ix (E.set z.toNat (⟨e.item, key, w64 (t0 + 1), e.fat⟩ : En)) j = if j = z then some ⟨e.item, key, w64 (t0 + 1), e.fat⟩ else ix E j := by
   intro j
   by_cases hj : 0 ≤ j
   ·rw [Q8 z0 z1 hj]
   ·rw [I4 (by omega), I4 (by omega), if_neg (by omega)]
  have h1 : Hp L (E.set z.toNat (⟨e.item, key, w64 (t0 + 1), e.fat⟩ : En)) := by
   intro j y hy
   rw [hE]
   by_cases c : y = z
   ·subst c; exact ⟨_, if_pos rfl, hf.trans (h.hp.inj hi hy)⟩
   ·rw [if_neg c]; exact h.hp j y hy
  obtain ⟨L', E', k1, k2, k3⟩ := fix_ok (t0 := w64 (t0 + 1)) (M := M) h1 (i := e.fat) (by omega) (by omega) (by omega)
  have hq : Qu M L (E.set z.toNat (⟨e.item, key, w64 (t0 + 1), e.fat⟩ : En)) := ⟨h1, h.keys, fun x y => by
   rw [h.mem, hE]
   by_cases c : y = z
   ·subst c
    simp [e1]
   ·rw [if_neg c]⟩
  obtain ⟨q1, q2⟩ := hq.sme k2 k3
  refine ⟨M, L', E', by rw [k1]; rfl, q1, fun x => ?_⟩
  rw [q2]
  unfold qkey
  by_cases c : x = item
  ·subst c; rw [if_pos rfl, hm]; simp [hE]
  ·rw [if_neg c]
   cases hx : mget M x with
   | none => rfl
   | some y =>
    have : y ≠ z := fun q => by
     subst q
     obtain ⟨_, f, f1, f2⟩ := (h.mem x y).1 hx
     rw [e1] at f1; cases f1; exact c (f2.symm.trans e2)
    simp [hE, if_neg this]
 | none =>
  simp only [Option.isSome_none, Bool.false_eq_true, if_false, h.chk1, h.chk2, oB]
  have hn : (E.length : Int) ∉ L := fun q => by have := h.val q; simp at this
  have h1 : Hp L (E ++ [(⟨item, key, w64 (t0 + 1), 0⟩ : En)]) := fun i z hz => by
   obtain ⟨e, e1, e2⟩ := h.hp i z hz
   exact ⟨e, ah0 e1, e2⟩
  obtain ⟨L', E', k1, k2, k3⟩ := push_ok (t0 := w64 (t0 + 1)) (M := mset M item (E.length : Int)) h1 (x := (E.length : Int)) ix_snoc_new hn hb
  refine ⟨_, L', E', by rw [k1]; rfl, ⟨k2, mset_nodup h.keys, fun x y => ?_⟩, fun x => ?_⟩
  ·rw [D2, k3.mem, k3.item, List.mem_append, List.mem_singleton, ad6]
   by_cases c : x = item
   ·subst c
    rw [if_pos rfl]
    by_cases d : y = (E.length : Int)
    ·rw [if_pos d]; simp [d]
    ·rw [if_neg d]
     constructor
     ·intro q; exact absurd (Option.some.inj q).symm d
     ·rintro ⟨a | a, b⟩
      ·exact absurd ((h.mem x y).2 ⟨a, b⟩) (by rw [hm]; simp)
      ·exact absurd a d
   ·rw [if_neg c, h.mem]
    by_cases d : y = (E.length : Int)
    ·rw [if_pos d]; subst d
     constructor
     ·rintro ⟨q, _⟩; exact absurd q hn
     ·rintro ⟨_, e, e1, e2⟩; cases e1; exact absurd e2.symm c
    ·rw [if_neg d]; simp [d]
  ·unfold qkey
   rw [D2]
   by_cases c : x = item
   ·rw [if_pos c, if_pos c]
    simp [k3.key, ad6]
   ·rw [if_neg c, if_neg c]
    cases hx : mget M x with
    | none => rfl
    | some y =>
     have : y ≠ (E.length : Int) := fun q => hn (by rw [← q]; exact ((h.mem x y).1 hx).1)
     simp [k3.key, ad6, if_neg this]
theorem take_ok {M : List (Int × Int)} {L : List Int} {E : List En} (h : Qu M L E) (hl : 0 < L.length) (hb : L.length ≤ 1000000) (t0 : Int) :
  ∃ M' L' E' it k, q9 t0 L M E = some (M', E', L', it, k, true) ∧ Qu M' L' E' ∧ qkey M E it = some k ∧ (∀ x, qkey M' E' x = if x = it then none else qkey M E x) ∧ L'.length + 1 = L.length := by
 unfold q9
 rw [if_neg (by omega)]
 obtain ⟨L', E', z, k1, k2, k3, k4⟩ := pop_ok (t0 := t0) (M := M) h.hp hl hb
 have hz : z ∈ L := (k3.mem z).1 (by simp)
 obtain ⟨i, _, _, hi⟩ := y8 hz
 obtain ⟨e, e1, e2⟩ := h.hp i z hi
 obtain ⟨f, f1, f2, f3⟩ := k3.e z e e1
 have hm := (h.mem e.item z).2 ⟨hz, e, e1, rfl⟩
 refine ⟨mdel M f.item, L', E', f.item, f.key, by simp only [k1, oB, f1], ⟨k2, List.Nodup.sublist (mdel_sub.map _) h.keys, fun x y => ?_⟩, ?_, fun x => ?_, ?_⟩
 ·rw [mget_mdel h.keys]
  by_cases c : x = f.item
  ·rw [if_pos c]
   constructor
   ·intro q; cases q
   ·rintro ⟨a, b⟩
    have := (h.mem x y).2 ⟨(k3.mem y).1 (by simp [a]), (k3.item y x).1 b⟩
    rw [c, f2, hm] at this
    cases this; exact absurd a k4
  ·rw [if_neg c, h.mem, ← k3.mem, k3.item, List.mem_append, List.mem_singleton]
   constructor
   ·rintro ⟨a | a, b⟩
    ·exact ⟨a, b⟩
    ·subst a
     obtain ⟨g, g1, g2⟩ := b
     rw [e1] at g1; cases g1
     exact absurd (g2.symm.trans f2.symm) c
   ·rintro ⟨a, b⟩; exact ⟨.inl a, b⟩
 ·unfold qkey; rw [f2, hm]; simp [e1, f3]
 ·unfold qkey
  rw [mget_mdel h.keys]
  by_cases c : x = f.item
  ·rw [if_pos c, if_pos c]; rfl
  ·rw [if_neg c, if_neg c]
   cases mget M x with
   | none => rfl
   | some y => simp [k3.key]
 ·have := k3.len; simpa using this
theorem same_set : y6 = n7 := rfl
end Ab
end
section
namespace Ab
open Go
abbrev MpI := List (Int × Int)
def I2 (g x : Int) : Prop := Go.bits .and .u32 x g = g
def cst (c : MpI) (x : Int) : Int := (mget c x).getD 0
inductive PthW (vs : List Int) (ms : List Mk) (g : Int) : Int → Int → Prop
 | goal {x : Int} (h : x ∈ vs) (hg : I2 g x) : PthW vs ms g x 0
 | step {x k : Int} {m : Mk} (h : x ∈ vs) (hm : m ∈ ms) (hc : canW m x) (hp : PthW vs ms g (tgtW m x) k) : PthW vs ms g x (k + m.cost)
structure Gr (vs : List Int) (ms : List Mk) : Prop where
 cl : ∀ x ∈ vs, ∀ m ∈ ms, canW m x → tgtW m x ∈ vs
 co : ∀ m ∈ ms, 0 ≤ m.cost ∧ m.cost ≤ 100
 ml : ms.length ≤ 40
 vl : vs.length ≤ 2000
structure Cd (vs : List Int) (ms : List Mk) (g : Int) (c : MpI) : Prop where
 dom : ∀ x ∈ vs, ∃ k, mget c x = some k ∧ 0 ≤ k ∧ k ≤ 1000000000 ∧ (k = 1000000000 ∨ PthW vs ms g x k)
 goal : ∀ x ∈ vs, I2 g x → mget c x = some 0
structure Iv (vs : List Int) (ms : List Mk) (g : Int) (c M : MpI) (L : List Int) (E : List En) (exc : Int → Prop) : Prop where
 cd : Cd vs ms g c
 qu : Qu M L E
 qk : ∀ x k, qkey M E x = some k → x ∈ vs ∧ mget c x = some k
 arc : ∀ x ∈ vs, ∀ m ∈ ms, canW m x → ¬ exc (tgtW m x) → qkey M E (tgtW m x) = none → cst c x ≤ cst c (tgtW m x) + m.cost
theorem Iv.len {vs : List Int} {ms : List Mk} {g : Int} {c M : MpI} {L : List Int} {E : List En} {exc : Int → Prop} (h : Iv vs ms g c M L E exc) : L.length ≤ vs.length :=
 h.qu.le fun x hx => by
  cases e : qkey M E x with
  | none => exact absurd e hx
  | some k => exact (h.qk x k e).1
def sm (vs : List Int) (c : MpI) : Nat := (vs.map fun x => (cst c x).toNat).sum
theorem sum_le {α : Type} {f g : α → Nat} : ∀ {l : List α}, (∀ x ∈ l, f x ≤ g x) → (l.map f).sum ≤ (l.map g).sum
 | [], _ => by simp
 | x :: l, h => by
  have h1 := h x (by simp)
  have h2 := sum_le (l := l) fun y hy => h y (List.mem_cons_of_mem _ hy)
  simp only [List.map_cons, List.sum_cons]; omega
theorem sum_lt {α : Type} {f g : α → Nat} : ∀ {l : List α}, (∀ x ∈ l, f x ≤ g x) → (∃ x ∈ l, f x < g x) → (l.map f).sum < (l.map g).sum
 | [], _, h => by simp at h
 | x :: l, h, ⟨y, hy, hlt⟩ => by
  have h1 := h x (by simp)
  have h2 := sum_le (l := l) fun y hy => h y (List.mem_cons_of_mem _ hy)
  simp only [List.map_cons, List.sum_cons]
  rcases List.mem_cons.1 hy with rfl | hy
  ·omega
  ·have := sum_lt (l := l) (fun y hy => h y (List.mem_cons_of_mem _ hy)) ⟨y, hy, hlt⟩
   omega
theorem ae4 {c : MpI} {x v : Int} (z : Int) : cst (mset c x v) z = if z = x then v else cst c z := by
 unfold cst; rw [D2]; split <;> rfl
theorem sm_lt {vs : List Int} {c : MpI} {x v : Int} (hx : x ∈ vs) (h0 : 0 ≤ v) (hv : v < cst c x) : sm vs (mset c x v) < sm vs c := by
 refine sum_lt (fun z _ => ?_) ⟨x, hx, ?_⟩
 ·rw [ae4]
  split
  ·rename_i e; subst e; omega
  ·exact Nat.le_refl _
 ·rw [ae4, if_pos rfl]; omega
theorem relax_ok {vs : List Int} {ms : List Mk} {g : Int} {c M : MpI} {L : List Int} {E : List En} {exc : Int → Prop} (hg : Gr vs ms) (h : Iv vs ms g c M L E exc) {x v : Int} (hx : x ∈ vs) (h0 : 0 ≤ v) (hv : v < cst c x) (hp : PthW vs ms g x v) (t0 : Int) :
  ∃ M' L' E', n7 x v t0 L M E = some (M', L', E') ∧ Iv vs ms g (mset c x v) M' L' E' exc ∧ ∀ z, qkey M' E' z = if z = x then some v else qkey M E z := by
 have hlen := h.len
 have hvl := hg.vl
 obtain ⟨M', L', E', k1, k2, k3⟩ := set_ok h.qu (by omega) x v t0
 refine ⟨M', L', E', k1, ⟨⟨fun z hz => ?_, fun z hz hgz => ?_⟩, k2, fun z k hk => ?_, fun z hz m hm hc he hq => ?_⟩, k3⟩
 ·rw [D2]
  by_cases e : z = x
  ·subst e
   obtain ⟨k, q1, q2, q3, _⟩ := h.cd.dom z hz
   have : cst c z = k := by unfold cst; rw [q1]; rfl
   exact ⟨v, if_pos rfl, h0, by omega, .inr hp⟩
  ·rw [if_neg e]; exact h.cd.dom z hz
 ·rw [D2]
  by_cases e : z = x
  ·subst e
   have : cst c z = 0 := by unfold cst; rw [h.cd.goal z hz hgz]; rfl
   omega
  ·rw [if_neg e]; exact h.cd.goal z hz hgz
 ·rw [k3] at hk
  rw [D2]
  by_cases e : z = x
  ·rw [if_pos e] at hk ⊢; cases hk; exact ⟨by rw [e]; exact hx, rfl⟩
  ·rw [if_neg e] at hk ⊢; exact h.qk z k hk
 ·rw [k3] at hq
  by_cases e : tgtW m z = x
  ·rw [if_pos e] at hq; cases hq
  ·rw [if_neg e] at hq
   have := h.arc z hz m hm hc he hq
   rw [ae4, ae4, if_neg e]
   by_cases f : z = x
   ·rw [if_pos f]; subst f; omega
   ·rw [if_neg f]; exact this
abbrev Bkm := List (Int × List q7)
def BkOk (vs : List Int) (ms : List Mk) (b : Bkm) : Prop := ∀ y a, a ∈ rowM b y ↔ ∃ x ∈ vs, ∃ m ∈ ms, canW m x ∧ tgtW m x = y ∧ a = ⟨x, m.cost⟩
abbrev St5 := MpI × MpI × List En × Int × List Int
theorem relax_all {vs : List Int} {ms : List Mk} {g : Int} {b : Bkm} {c M : MpI} {L : List Int} {E : List En} {y k : Int} (hg : Gr vs ms) (hb : BkOk vs ms b) (h : Iv vs ms g c M L E (· = y)) (hy : y ∈ vs) (hk : mget c y = some k) (hq : qkey M E y = none) (t0 : Int) (bb : Bool) :
  ∃ s : St5, forR 0 ((rowM b y).length : Int) (F4 b (M, E, L, y, k, bb)) (c, M, E, t0, L) = some s ∧ Iv vs ms g s.1 s.2.1 s.2.2.2.2 s.2.2.1 (fun _ => False) ∧ ((sm vs s.1 = sm vs c ∧ s.2.2.2.2 = L) ∨ sm vs s.1 < sm vs c) := by
 obtain ⟨s, h1, h2, h3, h4, h5, h6⟩ := v8 (body := F4 b (M, E, L, y, k, bb)) (n := ((rowM b y).length : Int)) (s := ((c, M, E, t0, L) : St5))
  (fun j s => Iv vs ms g s.1 s.2.1 s.2.2.2.2 s.2.2.1 (· = y) ∧ mget s.1 y = some k ∧ qkey s.2.1 s.2.2.1 y = none ∧ (∀ i a, i < j → ix (rowM b y) i = some a → cst s.1 a.ffrom ≤ k + a.cost) ∧ ((sm vs s.1 = sm vs c ∧ s.2.2.2.2 = L) ∨ sm vs s.1 < sm vs c)) (by omega)
  ⟨h, hk, hq, fun i a hi ha => by have := (m9 ha).1; omega, .inl ⟨rfl, rfl⟩⟩ (fun j s j0 j1 hP => by
   obtain ⟨c', M', E', t', L'⟩ := s
   obtain ⟨p1, p2, p3, p4, p5⟩ := hP
   simp only at p1 p2 p3 p4 p5
   obtain ⟨a, ha, _⟩ := n4 (l := rowM b y) j0 j1
   obtain ⟨x, hx, m, hm, hc, hty, rfl⟩ := (hb y a).1 (w5 ha)
   have hco := hg.co m hm
   obtain ⟨k', q1, q2, q3, q4⟩ := p1.cd.dom y hy
   rw [p2] at q1; cases q1
   have hw : w64 (k + m.cost) = k + m.cost := x6 (by omega) (by omega)
   unfold F4
   simp only [ha, oB, hw]
   have hcx : Option.getD (mget c' x) 0 = cst c' x := rfl
   rw [hcx]
   by_cases cc : k + m.cost < cst c' x
   ·rw [if_pos cc]
    have hpy : PthW vs ms g y k := by
     rcases q4 with q4 | q4
     ·obtain ⟨k2, r1, r2, r3, _⟩ := p1.cd.dom x hx
      have : cst c' x = k2 := by unfold cst; rw [r1]; rfl
      omega
     ·exact q4
    have hxy : x ≠ y := fun e => by
     subst e
     have : cst c' x = k := by unfold cst; rw [p2]; rfl
     omega
    obtain ⟨M2, L2, E2, k1, k2, k3⟩ := relax_ok hg p1 hx (by omega) cc (.step hx hm hc (by rw [hty]; exact hpy)) t'
    rw [same_set, k1]
    have hsm := sm_lt (vs := vs) (c := c') hx (by omega) cc
    refine ⟨_, rfl, k2, ?_, ?_, fun i a' hi ha' => ?_, .inr (by simp only; rcases p5 with p5 | p5 <;> omega)⟩
    ·simp only [D2]; rw [if_neg (Ne.symm hxy)]; exact p2
    ·simp only [k3]; rw [if_neg (Ne.symm hxy)]; exact p3
    ·simp only [ae4]
     by_cases e : i = j
     ·subst e; rw [ha] at ha'; cases ha'; simp
     ·have := p4 i a' (by omega) ha'
      split
      ·rename_i f; rw [f] at this; omega
      ·exact this
   ·rw [if_neg cc]
    refine ⟨_, rfl, p1, p2, p3, fun i a' hi ha' => ?_, p5⟩
    by_cases e : i = j
    ·subst e; rw [ha] at ha'; cases ha'; simp only; omega
    ·exact p4 i a' (by omega) ha')
 refine ⟨s, h1, ⟨h2.cd, h2.qu, h2.qk, fun x hx m hm hc _ hqn => ?_⟩, h6⟩
 by_cases e : tgtW m x = y
 ·have hmem := (hb y ⟨x, m.cost⟩).2 ⟨x, hx, m, hm, hc, e, rfl⟩
  obtain ⟨i, i0, i1, hi⟩ := y8 hmem
  have := h5 i _ i1 hi
  change cst s.1 x ≤ k + m.cost at this
  rw [e]
  have e2 : cst s.1 y = k := by unfold cst; rw [h3]; rfl
  omega
 ·exact h2.arc x hx m hm hc e hqn
structure Best (vs : List Int) (ms : List Mk) (g : Int) (c : MpI) : Prop where
 cd : Cd vs ms g c
 least : ∀ x k, PthW vs ms g x k → cst c x ≤ k
theorem main_ok {vs : List Int} {ms : List Mk} {g : Int} {b : Bkm} {c M : MpI} {L : List Int} {E : List En} (hg : Gr vs ms) (hb : BkOk vs ms b) (h : Iv vs ms g c M L E fun _ => False) (t0 : Int) :
  ∃ r, Loop (F3 b) (c, M, E, t0, L) = some r ∧ Best vs ms g r := by
 have hvl := hg.vl
 refine M6 (body := F3 b) (s := ((c, M, E, t0, L) : St5)) (fun s : St5 => Iv vs ms g s.1 s.2.1 s.2.2.2.2 s.2.2.1 fun _ => False) (fun r => Best vs ms g r)
  (fun s => sm vs s.1 * 2001 + s.2.2.2.2.length) h ?_
 rintro ⟨c, M, E, t, L⟩ p
 simp only at p
 have hlen := p.len
 unfold F3
 simp only [z6, oB]
 by_cases cl : 0 < L.length
 ·rw [if_pos (by omega)]
  obtain ⟨M', L', E', y, k, k1, k2, k3, k4, k5⟩ := take_ok p.qu cl (by omega) t
  obtain ⟨hy, hk⟩ := p.qk y k k3
  have h' : Iv vs ms g c M' L' E' (· = y) := ⟨p.cd, k2, fun x k hx => by
    rw [k4] at hx
    by_cases e : x = y
    ·rw [if_pos e] at hx; cases hx
    ·rw [if_neg e] at hx; exact p.qk x k hx, fun x hx m hm hc he hq => by
    rw [k4, if_neg he] at hq
    exact p.arc x hx m hm hc (fun q => q) hq⟩
  obtain ⟨s, s1, s2, s3⟩ := relax_all hg hb h' hy hk (by rw [k4, if_pos rfl]) t true
  have hl2 := s2.len
  simp only [k1, oB, s1]
  refine .inl ⟨s, rfl, s2, ?_⟩
  change sm vs s.1 * 2001 + s.2.2.2.2.length < sm vs c * 2001 + L.length
  rcases s3 with ⟨s3, s4⟩ | s3
  ·rw [s3, s4]; omega
  ·omega
 ·rw [if_neg (by omega)]
  refine .inr ⟨c, rfl, p.cd, ?_⟩
  have hL : L = [] := List.eq_nil_of_length_eq_zero (by omega)
  have hq : ∀ x, qkey M E x = none := fun x => by
   unfold qkey
   cases e : mget M x with
   | none => rfl
   | some z => have := ((p.qu.mem x z).1 e).1; rw [hL] at this; cases this
  intro x k hp
  induction hp with
  | goal hx hgx => unfold cst; rw [p.cd.goal _ hx hgx]; simp
  | step hx hm hc hp ih =>
   have := p.arc _ hx _ hm hc (fun q => q) (hq _)
   omega
theorem rowM_mset {b : Bkm} {k : Int} {v : List q7} (y : Int) : rowM (mset b k v) y = if y = k then v else rowM b y := by
 unfold rowM; rw [D2]; split <;> rfl
theorem back_ok {ms : List Mk} {b : Bkm} {x : Int} (hml : ms.length ≤ 40) {B : Nat} (hB : ∀ y, (rowM b y).length ≤ B) (hB' : B ≤ 1000000) :
  ∃ b', K4 ms b x = some b' ∧ (∀ y, (rowM b' y).length ≤ B + 40) ∧ ∀ y a, a ∈ rowM b' y ↔ a ∈ rowM b y ∨ ∃ m ∈ ms, canW m x ∧ tgtW m x = y ∧ a = ⟨x, m.cost⟩ := by
 unfold K4
 obtain ⟨b', h1, h2, h3⟩ := v8 (body := K6 ms x) (n := (ms.length : Int)) (s := b)
  (fun j c => (∀ y, ((rowM c y).length : Int) ≤ B + j) ∧ ∀ y a, a ∈ rowM c y ↔ a ∈ rowM b y ∨ ∃ i m, i < j ∧ ix ms i = some m ∧ canW m x ∧ tgtW m x = y ∧ a = ⟨x, m.cost⟩) (by omega)
  ⟨fun y => by have := hB y; omega, fun y a => ⟨.inl, fun q => by
   rcases q with q | ⟨i, m, hi, hm, _⟩
   ·exact q
   ·have := (m9 hm).1; omega⟩⟩ (fun j c j0 j1 hP => by
   obtain ⟨p1, p2⟩ := hP
   obtain ⟨m, hm, _⟩ := n4 j0 j1
   unfold K6
   simp only [hm, oB]
   by_cases c1 : Go.bits .and .u32 x m.pre = m.pre
   ·rw [if_pos c1]
    have ee : Go.bits .or .u32 (Go.bits .andNot .u32 x m.del) m.add = tgtW m x := rfl
    rw [ee]
    have hl := p1 (tgtW m x)
    have ha : app 16 (rowM c (tgtW m x)) [(⟨x, m.cost⟩ : q7)] = some (rowM c (tgtW m x) ++ [⟨x, m.cost⟩]) := by unfold app; rw [if_pos (by simp; omega)]
    simp only [ha, oB]
    refine ⟨_, rfl, fun y => ?_, fun y a => ?_⟩
    ·rw [rowM_mset]
     split
     ·simp; omega
     ·have := p1 y; omega
    ·rw [rowM_mset]
     have key : (∃ i m', i < j + 1 ∧ ix ms i = some m' ∧ canW m' x ∧ tgtW m' x = y ∧ a = ⟨x, m'.cost⟩) ↔ (∃ i m', i < j ∧ ix ms i = some m' ∧ canW m' x ∧ tgtW m' x = y ∧ a = ⟨x, m'.cost⟩) ∨ (tgtW m x = y ∧ a = ⟨x, m.cost⟩) := by
      constructor
      ·rintro ⟨i, m', q1, q2, q3, q4, q5⟩
       by_cases e : i = j
       ·subst e; rw [hm] at q2; cases q2; exact .inr ⟨q4, q5⟩
       ·exact .inl ⟨i, m', by omega, q2, q3, q4, q5⟩
      ·rintro (⟨i, m', q1, q2⟩ | ⟨q1, q2⟩)
       ·exact ⟨i, m', by omega, q2⟩
       ·exact ⟨j, m, by omega, hm, c1, q1, q2⟩
     rw [key]
     by_cases e : y = tgtW m x
     ·rw [if_pos e, List.mem_append, List.mem_singleton, ← e, p2]
      simp [or_assoc]
     ·rw [if_neg e, p2]
      have : ¬ tgtW m x = y := fun q => e q.symm
      simp [this]
   ·rw [if_neg c1]
    refine ⟨_, rfl, fun y => by have := p1 y; omega, fun y a => ?_⟩
    rw [p2]
    refine or_congr_right ⟨?_, ?_⟩
    ·rintro ⟨i, m', q1, q2⟩; exact ⟨i, m', by omega, q2⟩
    ·rintro ⟨i, m', q1, q2, q3, q4⟩
     by_cases e : i = j
     ·subst e; rw [hm] at q2; cases q2; exact absurd q3 c1
     ·exact ⟨i, m', by omega, q2, q3, q4⟩)
 refine ⟨b', by rw [h1]; rfl, fun y => by have := h2 y; omega, fun y a => ?_⟩
 rw [h3]
 refine or_congr_right ⟨?_, ?_⟩
 ·rintro ⟨i, m, _, q2, q3⟩; exact ⟨m, w5 q2, q3⟩
 ·rintro ⟨m, q2, q3⟩
  obtain ⟨i, _, i1, hi⟩ := y8 q2
  exact ⟨i, m, i1, hi, q3⟩
abbrev St6 := Bkm × MpI × MpI × List En × Int × List Int
theorem first_ok {vs : List Int} {ms : List Mk} (start g : Int) (hg : Gr vs ms) :
  ∃ s : St6, forR 0 (vs.length : Int) (F5 vs start g ms) ([], [], [], [], 0, []) = some s ∧ BkOk vs ms s.1 ∧ Iv vs ms g s.2.1 s.2.2.1 s.2.2.2.2.2 s.2.2.2.1 fun _ => False := by
 have hvl := hg.vl
 have hml := hg.ml
 obtain ⟨s, h1, h2, h3, h4, h5, h6⟩ := v8 (body := F5 vs start g ms) (n := (vs.length : Int)) (s := (([], [], [], [], 0, []) : St6))
  (fun j s => (∀ y a, a ∈ rowM s.1 y ↔ ∃ x ∈ vs.take j.toNat, ∃ m ∈ ms, canW m x ∧ tgtW m x = y ∧ a = ⟨x, m.cost⟩) ∧ (∀ y, (rowM s.1 y).length ≤ j.toNat * 40) ∧
   (∀ x, x ∈ vs.take j.toNat → mget s.2.1 x = some (if dec (I2 g x) = true then 0 else 1000000000)) ∧ Qu s.2.2.1 s.2.2.2.2.2 s.2.2.2.1 ∧ ∀ x, qkey s.2.2.1 s.2.2.2.1 x = if dec (x ∈ vs.take j.toNat ∧ I2 g x) = true then some 0 else none) (by omega)
  ⟨fun y a => by simp [rowM, mget], fun y => by simp [rowM, mget], by simp, Qu.nil, fun x => by simp [qkey, mget, dec]⟩ (fun j s j0 j1 hP => by
   obtain ⟨b, c, M, E, t, L⟩ := s
   obtain ⟨p1, p2, p3, p4, p5⟩ := hP
   simp only at p1 p2 p3 p4 p5
   obtain ⟨x, hx, gx⟩ := n4 j0 j1
   have hj : (j + 1).toNat = j.toNat + 1 := by omega
   have htk : vs.take (j + 1).toNat = vs.take j.toNat ++ [x] := by rw [hj, List.take_add_one, gx]; rfl
   have hlen : L.length ≤ vs.length := p4.le fun z hz => by
    rw [p5] at hz
    by_cases e : z ∈ vs.take j.toNat ∧ I2 g z
    ·exact List.mem_of_mem_take e.1
    ·rw [if_neg (by rw [s6 e]; simp)] at hz; exact absurd rfl hz
   obtain ⟨b', b1, b2, b3⟩ := back_ok (x := x) hml (B := j.toNat * 40) p2 (by omega)
   have hback : ∀ y a, a ∈ rowM b' y ↔ ∃ x ∈ vs.take (j + 1).toNat, ∃ m ∈ ms, canW m x ∧ tgtW m x = y ∧ a = ⟨x, m.cost⟩ := fun y a => by
    rw [b3, p1, htk]
    simp only [List.mem_append, List.mem_singleton, or_and_right, exists_or, exists_eq_left]
   have hrow : ∀ y, (rowM b' y).length ≤ (j + 1).toNat * 40 := fun y => by have := b2 y; omega
   unfold F5
   simp only [hx, oB, H4, A0]
   by_cases cg : Go.bits .and .u32 x g = g
   ·rw [if_pos cg]
    have cg' : I2 g x := cg
    obtain ⟨M', L', E', k1, k2, k3⟩ := set_ok p4 (by omega) x 0 t
    simp only [k1, oB, b1]
    refine ⟨_, rfl, hback, hrow, fun z hz => ?_, k2, fun z => ?_⟩
    ·simp only [D2]
     by_cases e : z = x
     ·subst e; rw [if_pos rfl, if_pos (j7 cg')]
     ·rw [if_neg e, if_neg e]
      refine p3 z ?_
      rw [htk] at hz; simp [e] at hz; exact hz
    ·simp only [k3, p5, htk]
     by_cases e : z = x
     ·subst e; rw [if_pos rfl, if_pos (j7 ⟨by simp, cg'⟩)]
     ·rw [if_neg e]
      have : (z ∈ vs.take j.toNat ++ [x] ∧ I2 g z) ↔ (z ∈ vs.take j.toNat ∧ I2 g z) := by simp [e]
      rw [J7 this]
   ·rw [if_neg cg]
    have cg' : ¬ I2 g x := cg
    simp only [oB, b1]
    refine ⟨_, rfl, hback, hrow, fun z hz => ?_, p4, fun z => ?_⟩
    ·simp only [D2]
     by_cases e : z = x
     ·subst e; rw [if_pos rfl, if_neg (by rw [s6 cg']; simp)]
     ·rw [if_neg e]
      refine p3 z ?_
      rw [htk] at hz; simp [e] at hz; exact hz
    ·simp only [p5, htk]
     have : (z ∈ vs.take j.toNat ++ [x] ∧ I2 g z) ↔ (z ∈ vs.take j.toNat ∧ I2 g z) := by
      constructor
      ·rintro ⟨q1, q2⟩
       rcases List.mem_append.1 q1 with q1 | q1
       ·exact ⟨q1, q2⟩
       ·simp at q1; subst q1; exact absurd q2 cg'
      ·rintro ⟨q1, q2⟩; exact ⟨List.mem_append_left _ q1, q2⟩
     rw [J7 this])
 have ht : vs.take (vs.length : Int).toNat = vs := by rw [Int.toNat_natCast, List.take_length]
 rw [ht] at h2 h4 h6
 have hc : ∀ x ∈ vs, ¬ I2 g x → mget s.2.1 x = some 1000000000 := fun x hx hn => by rw [h4 x hx, if_neg (by rw [s6 hn]; simp)]
 have hc0 : ∀ x ∈ vs, I2 g x → mget s.2.1 x = some 0 := fun x hx hn => by rw [h4 x hx, if_pos (j7 hn)]
 refine ⟨s, h1, h2, ⟨fun x hx => ?_, hc0⟩, h5, fun x k hk => ?_, fun x hx m hm hcan _ hq => ?_⟩
 ·by_cases e : I2 g x
  ·exact ⟨0, hc0 x hx e, by omega, by omega, .inr (.goal hx e)⟩
  ·exact ⟨1000000000, hc x hx e, by omega, by omega, .inl rfl⟩
 ·rw [h6] at hk
  by_cases e : x ∈ vs ∧ I2 g x
  ·rw [if_pos (j7 e)] at hk; cases hk; exact ⟨e.1, hc0 x e.1 e.2⟩
  ·rw [if_neg (by rw [s6 e]; simp)] at hk; cases hk
 ·have hy := hg.cl x hx m hm hcan
  rw [h6] at hq
  have hn : ¬ I2 g (tgtW m x) := fun q => by rw [if_pos (j7 ⟨hy, q⟩)] at hq; cases hq
  have h0 := (hg.co m hm).1
  unfold cst
  rw [hc _ hy hn, h4 x hx]
  simp only [Option.getD_some]
  split <;> omega
theorem costs_ok {vs : List Int} {ms : List Mk} (start g : Int) (hg : Gr vs ms) : ∃ c, K7 vs start g ms = some c ∧ Best vs ms g c := by
 unfold K7
 obtain ⟨s, s1, s2, s3⟩ := first_ok start g hg
 obtain ⟨r, r1, r2⟩ := main_ok hg s2 s3 s.2.2.2.2.1
 refine ⟨r, ?_, r2⟩
 obtain ⟨a, b, c, d, e, f⟩ := s
 simp only [E3, oB, s1]
 rw [r1]; rfl
end Ab
end
section
namespace Ab
open Go
def Val (t : d9) (plan : List Int) : Prop := ∀ x ∈ plan, (0 : Int) ≤ x ∧ x < t.operators.length
def n9 (t : d9) : List Int → Int
 | [] => 0
 | op :: r => n9 t r + (opAt t op).cost
def Few (t : d9) : Prop := ∃ l : List (List Int), l.Nodup ∧ l.length ≤ 2000 ∧ ∀ s, s ∈ l ↔ Rt t s
theorem aa2 {t : d9} (ht : i6 t) : ∀ {plan : List Int}, Val t plan → 0 ≤ n9 t plan
 | [], _ => by simp [n9]
 | op :: r, h => by
  have h1 := aa2 ht (plan := r) fun x hx => h x (List.mem_cons_of_mem _ hx)
  have h2 := h op (by simp)
  have h3 := (J8 ht h2.1 h2.2).2.1
  simp only [n9]; omega
section
variable {t : d9} {vs : List Int}
theorem pth_of (ht : i6 t) (hv : ∀ x, x ∈ vs ↔ Rwd t x) : ∀ {plan s : List Int}, Rt t s → Val t plan → G1 t s plan → PthW vs (mks t) (wd t.goal) (wd s) (n9 t plan)
 | [], s, hs, _, ⟨e, h1, h2⟩ => by
  simp only [ends, Option.some.injEq] at h1; subst h1
  exact .goal ((hv _).2 ⟨s, hs, rfl⟩) ((sub_word (hs.setN ht) ht.goal ht.n1).2 h2)
 | op :: r, s, hs, hp, ⟨e, h1, h2⟩ => by
  have h3 := hp op (by simp)
  simp only [ends] at h1
  split at h1
  ·rename_i hc
   have hc := j9.1 hc
   have ih := pth_of ht hv (plan := r) (hs.step h3.1 h3.2 hc) (fun x hx => hp x (List.mem_cons_of_mem _ hx)) ⟨e, h1, h2⟩
   rw [← tgtW_eq ht (hs.setN ht) h3.1 h3.2] at ih
   exact .step ((hv _).2 ⟨s, hs, rfl⟩) (mks_of h3.1 h3.2) ((ai2 ht (hs.setN ht) h3.1 h3.2).2 hc) ih
  ·cases h1
theorem plan_of (ht : i6 t) {x k : Int} (h : PthW vs (mks t) (wd t.goal) x k) : ∀ {s : List Int}, Rt t s → x = wd s → ∃ plan, Val t plan ∧ G1 t s plan ∧ n9 t plan = k := by
 induction h with
 | goal hx hg =>
  intro s hs e; subst e
  exact ⟨[], by simp [Val], ⟨s, rfl, (sub_word (hs.setN ht) ht.goal ht.n1).1 hg⟩, rfl⟩
 | step hx hm hc hp ih =>
  intro s hs e; subst e
  obtain ⟨op, h0, h1, rfl⟩ := mks_mem hm
  have hcan := (ai2 ht (hs.setN ht) h0 h1).1 hc
  obtain ⟨plan, p1, ⟨e, p2, p3⟩, p4⟩ := ih (hs.step h0 h1 hcan) (tgtW_eq ht (hs.setN ht) h0 h1)
  refine ⟨op :: plan, fun y hy => ?_, ⟨e, ?_, p3⟩, by simp [n9, p4, mkOf]⟩
  ·rcases List.mem_cons.1 hy with rfl | hy
   ·exact ⟨h0, h1⟩
   ·exact p1 y hy
  ·simp only [ends]; rw [if_pos (j7 hcan)]; exact p2
end
/-! ### A way that is not long -/
inductive Hop (vs : List Int) (ms : List Mk) (g : Int) : Nat → Int → Prop
 | goal {x : Int} (h : x ∈ vs) (hg : I2 g x) : Hop vs ms g 0 x
 | step {x : Int} {n : Nat} {m : Mk} (h : x ∈ vs) (hm : m ∈ ms) (hc : canW m x) (hp : Hop vs ms g n (tgtW m x)) : Hop vs ms g (n + 1) x
section
variable {vs : List Int} {ms : List Mk} {g : Int}
theorem Hop.of {x k : Int} (h : PthW vs ms g x k) : ∃ n, Hop vs ms g n x := by
 induction h with
 | goal hx hg => exact ⟨0, .goal hx hg⟩
 | step hx hm hc _ ih => obtain ⟨n, hn⟩ := ih; exact ⟨n + 1, .step hx hm hc hn⟩
theorem Hop.mem {n : Nat} {x : Int} (h : Hop vs ms g n x) : x ∈ vs := by cases h <;> assumption
theorem Hop.cost (hg : Gr vs ms) {n : Nat} {x : Int} (h : Hop vs ms g n x) : ∃ k, PthW vs ms g x k ∧ k ≤ 100 * n := by
 induction h with
 | goal hx hgx => exact ⟨0, .goal hx hgx, by omega⟩
 | step hx hm hc _ ih =>
  obtain ⟨k, k1, k2⟩ := ih
  have := hg.co _ hm
  exact ⟨_, .step hx hm hc k1, by push_cast; omega⟩
def MHop (vs : List Int) (ms : List Mk) (g : Int) (n : Nat) (x : Int) : Prop := Hop vs ms g n x ∧ ∀ m, m < n → ¬ Hop vs ms g m x
theorem MHop.of : ∀ {n : Nat} {x : Int}, Hop vs ms g n x → ∃ m, m ≤ n ∧ MHop vs ms g m x := by
 intro n
 induction n using Nat.strongRecOn with
 | _ n ih =>
  intro x h
  by_cases c : ∃ m, m < n ∧ Hop vs ms g m x
  ·obtain ⟨m, m1, m2⟩ := c
   obtain ⟨q, q1, q2⟩ := ih m m1 m2
   exact ⟨q, by omega, q2⟩
  ·exact ⟨n, Nat.le_refl _, h, fun m hm hh => c ⟨m, hm, hh⟩⟩
theorem MHop.chain : ∀ {n : Nat} {x : Int}, MHop vs ms g n x → ∃ l : List Int, l.length = n + 1 ∧ l.Nodup ∧ ∀ y ∈ l, y ∈ vs ∧ ∃ m, m ≤ n ∧ MHop vs ms g m y
 | 0, x, h => ⟨[x], rfl, by simp, fun y hy => by simp at hy; subst hy; exact ⟨h.1.mem, 0, Nat.le_refl _, h⟩⟩
 | n + 1, x, h => by
  cases h.1 with
  | @step _ _ m hx hm hc hp =>
   have h' : MHop vs ms g n (tgtW m x) := ⟨hp, fun q hq hh => h.2 (q + 1) (by omega) (.step hx hm hc hh)⟩
   obtain ⟨l, l1, l2, l3⟩ := MHop.chain h'
   refine ⟨x :: l, by simp [l1], List.nodup_cons.2 ⟨fun hxl => ?_, l2⟩, fun y hy => ?_⟩
   ·obtain ⟨_, q, q1, q2⟩ := l3 x hxl
    exact h.2 q (by omega) q2.1
   ·rcases List.mem_cons.1 hy with rfl | hy
    ·exact ⟨hx, n + 1, Nat.le_refl _, h⟩
    ·obtain ⟨y1, q, q1, q2⟩ := l3 y hy
     exact ⟨y1, q, by omega, q2⟩
theorem pth_small (hg : Gr vs ms) {x k : Int} (h : PthW vs ms g x k) : ∃ k', PthW vs ms g x k' ∧ k' ≤ 199900 := by
 obtain ⟨n, hn⟩ := Hop.of h
 obtain ⟨m, _, hm⟩ := MHop.of hn
 obtain ⟨l, l1, l2, l3⟩ := hm.chain
 have := W8 l2 (S := vs) fun y hy => (l3 y hy).1
 have hv := hg.vl
 obtain ⟨k', k1, k2⟩ := hm.1.cost hg
 exact ⟨k', k1, by omega⟩
end
theorem words_of {t : d9} (ht : i6 t) {vs : List Int} (hl : vs.length ≤ 2000) (hv : ∀ x, x ∈ vs ↔ Rwd t x) : Gr vs (mks t) := ⟨fun x hx m hm hc => (hv _).2 (((hv x).1 hx).next ht hm hc), fun m hm => by
 obtain ⟨op, h0, h1, rfl⟩ := mks_mem hm
 exact (J8 ht h0 h1).2, by simp [mks]; exact ht.ops, hl⟩
theorem few_of {t : d9} (ht : i6 t) {vs : List Int} (hn : vs.Nodup) (hl : vs.length ≤ 2000) (hv : ∀ x, x ∈ vs ↔ Rwd t x) : Few t := by
 obtain ⟨ss, h1, h2⟩ := states_of (t := t) (l := vs) fun x hx => (hv x).1 hx
 refine ⟨ss, ae7 (f := wd) (by rw [h1]; exact hn), ?_, fun s => ⟨h2 s, fun hs => ?_⟩⟩
 ·have := congrArg List.length h1
  simp only [List.length_map] at this; omega
 ·have : wd s ∈ ss.map wd := by rw [h1]; exact (hv _).2 ⟨s, hs, rfl⟩
  obtain ⟨s', s1, s2⟩ := List.mem_map.1 this
  rw [wd_inj ht (hs.setN ht) ((h2 s' s1).setN ht) s2.symm]; exact s1
theorem checked_spec (t : d9) : (¬ i6 t ∧ ∃ f, w6 t = some f ∧ f.code ≠ 0 ∧ A8 t = some (.inl (f.code, f.index))) ∨ (i6 t ∧ Many t ∧ A8 t = some (.inl (10, -7))) ∨
  (i6 t ∧ Few t ∧ ∃ vs : List Int, vs.Nodup ∧ vs.length ≤ 2000 ∧ (∀ x, x ∈ vs ↔ Rwd t x) ∧ A8 t = some (.inr (wd t.init, wd t.goal, mks t, vs))) := by
 obtain ⟨f, h1, _, h3⟩ := validate_eq t
 unfold A8
 rw [h1]
 simp only [oB]
 rcases h3 with ⟨rfl, ht⟩ | ⟨hc, hn⟩
 ·rw [if_neg (by simp), of_eq ht]
  obtain ⟨l, b, a1, a2, a3⟩ := all_spec ht (wd t.goal)
  simp only [oB, a1]
  cases b with
  | false => exact .inr (.inl ⟨ht, a2 rfl, rfl⟩)
  | true =>
   obtain ⟨q1, q2, q3⟩ := a3 rfl
   obtain ⟨vs, v1, v2⟩ := sortW (l := l) (by omega) (fun x hx => by
    obtain ⟨s, s1, rfl⟩ := (q3 x).1 hx
    exact wd_u32 ht (s1.setN ht))
   have hv : ∀ x, x ∈ vs ↔ Rwd t x := fun x => v2.mem_iff.trans (q3 x)
   have hvn : vs.Nodup := v2.nodup_iff.2 q1
   have hvl : vs.length ≤ 2000 := by rw [v2.length_eq]; exact q2
   exact .inr (.inr ⟨ht, few_of ht hvn hvl hv, vs, hvn, hvl, hv, by simp [v1]⟩)
 ·rw [if_pos (by simp [hc])]
  exact .inl ⟨hn, f, rfl, hc, rfl⟩
inductive OptR (t : d9) : Int × j5 → Prop
 | bad {f : j5} (h : ¬ i6 t) (hf : w6 t = some f) (hc : f.code ≠ 0) : OptR t (0, f)
 | many (h : i6 t) (hm : Many t) : OptR t (0, ⟨10, -7⟩)
 | none (h : i6 t) (hf : Few t) (hn : ∀ plan, Val t plan → ¬ G1 t t.init plan) : OptR t (1000000000, ⟨0, 0⟩)
 | some {k : Int} {plan : List Int} (h : i6 t) (hf : Few t) (h0 : 0 ≤ k) (h1 : k ≤ 199900) (hv : Val t plan) (hw : G1 t t.init plan) (hk : n9 t plan = k) (hl : ∀ p, Val t p → G1 t t.init p → k ≤ n9 t p) : OptR t (k, ⟨0, 0⟩)
theorem ae8 (t : d9) : ∃ r, C1 t = some r ∧ OptR t r := by
 unfold C1
 rcases checked_spec t with ⟨h, f, h1, h2, h3⟩ | ⟨h, h1, h2⟩ | ⟨ht, h1, vs, v1, v2, v3, h2⟩
 ·rw [h3]
  simp only [oB]
  rw [if_pos (by simp [h2])]
  exact ⟨_, rfl, .bad h h1 h2⟩
 ·rw [h2]
  simp only [oB]
  rw [if_pos (by simp)]
  exact ⟨_, rfl, .many h h1⟩
 ·rw [h2]
  simp only [oB]
  rw [if_neg (by simp)]
  have hg := words_of ht v2 v3
  obtain ⟨c, c1, c2⟩ := costs_ok (wd t.init) (wd t.goal) hg
  simp only [c1, oB, v6]
  have hi : wd t.init ∈ vs := (v3 _).2 ⟨_, .init, rfl⟩
  obtain ⟨k, k1, k2, k3, k4⟩ := c2.cd.dom _ hi
  have hck : cst c (wd t.init) = k := by unfold cst; rw [k1]; rfl
  refine ⟨_, rfl, ?_⟩
  rw [k1]
  simp only [Option.getD_some]
  by_cases e : ∃ k', PthW vs (mks t) (wd t.goal) (wd t.init) k'
  ·obtain ⟨k0, e⟩ := e
   obtain ⟨k', e1, e2⟩ := pth_small hg e
   have hle := c2.least _ _ e1
   rcases k4 with k4 | k4
   ·omega
   ·obtain ⟨plan, p1, p2, p3⟩ := plan_of ht k4 .init rfl
    refine .some ht h1 k2 (by omega) p1 p2 p3 fun p q1 q2 => ?_
    have := c2.least _ _ (pth_of ht v3 .init q1 q2)
    omega
  ·rcases k4 with rfl | k4
   ·exact .none ht h1 fun p q1 q2 => e ⟨_, pth_of ht v3 .init q1 q2⟩
   ·exact absurd ⟨_, k4⟩ e
end Ab
end
section
namespace Ab
open Go
def reqT (t : d9) (op : Int) : d9 := ⟨t.facts + 1, t.init, t.goal ++ [t.facts], t.operators.set op.toNat ⟨(opAt t op).pre, (opAt t op).add ++ [t.facts], (opAt t op).del, (opAt t op).cost⟩⟩
def forT (t : d9) (op : Int) : d9 := ⟨t.facts, t.init, t.goal, t.operators.take op.toNat ++ t.operators.drop (op.toNat + 1)⟩
theorem ab6 {l : List Int} (h : l.length ≤ 1000000) : k6 l = some l := by
 unfold k6 app
 rw [if_pos (by simp; omega)]; rfl
theorem SetN.len24 {l : List Int} {n : Int} (h : SetN l n) (hn : n ≤ 24) : l.length ≤ 24 := by have := h.len; omega
theorem cclone_body {t : d9} (ht : i6 t) {j : Int} (j0 : 0 ≤ j) (j1 : j < t.operators.length) : D6 t j (t.operators.take j.toNat) = some (t.operators.take (j + 1).toNat) := by
 have ho := J8 ht j0 j1
 have hx := R5 j0 j1
 have ga := (m9 hx).2.2
 have hl := ht.ops
 have htk : t.operators.take (j + 1).toNat = t.operators.take j.toNat ++ [opAt t j] := by rw [show (j + 1).toNat = j.toNat + 1 by omega, List.take_add_one, ga]; rfl
 have h1 := ho.1.1.len24 ht.n1
 have h2 := ho.1.2.1.len24 ht.n1
 have h3 := ho.1.2.2.1.len24 ht.n1
 unfold D6
 simp only [hx, oB, ab6 (show (opAt t j).pre.length ≤ 1000000 by omega), ab6 (show (opAt t j).add.length ≤ 1000000 by omega), ab6 (show (opAt t j).del.length ≤ 1000000 by omega)]
 rw [app, if_pos (by simp; omega), htk]; rfl
theorem cclone_eq {t : d9} (ht : i6 t) : E8 t = some (t.init, t.goal, t.operators) := by
 unfold E8
 have h1 := ht.init.len24 ht.n1
 have h2 := ht.goal.len24 ht.n1
 simp only [ab6 (show t.init.length ≤ 1000000 by omega), ab6 (show t.goal.length ≤ 1000000 by omega), oB]
 obtain ⟨r, r1, rfl⟩ := v8 (body := D6 t) (n := (t.operators.length : Int)) (s := []) (fun j c => c = t.operators.take j.toNat) (by omega) (by simp) (fun j c j0 j1 hP => ⟨_, by rw [hP]; exact cclone_body ht j0 j1, rfl⟩)
 rw [r1, Int.toNat_natCast, List.take_length]; rfl
theorem clone_same : M5 = E8 := rfl
end Ab
end
section
namespace Ab
open Go
def up (n : Int) (s : List Int) (b : Bool) : List Int := s ++ if b = true then [n] else []
theorem Y1 {n x : Int} {s : List Int} {b : Bool} : x ∈ up n s b ↔ x ∈ s ∨ b = true ∧ x = n := by
 unfold up; cases b <;> simp
theorem setN_up {n : Int} {s : List Int} {b : Bool} (h0 : 0 ≤ n) (h : SetN s n) : SetN (up n s b) (n + 1) := by
 refine ⟨?_, fun x hx => ?_⟩
 ·unfold up
  refine List.pairwise_append.2 ⟨h.1, by cases b <;> simp, fun a ha c hc => ?_⟩
  have := h.2 a ha
  cases b
  ·simp at hc
  ·simp at hc; omega
 ·rcases Y1.1 hx with hx | ⟨_, rfl⟩
  ·have := h.2 x hx; omega
  ·omega
section
variable {t : d9} {op : Int}
theorem req_len : (reqT t op).operators.length = t.operators.length := by simp [reqT]
theorem af1 (h0 : 0 ≤ op) (h1 : op < t.operators.length) {q : Int} (q0 : 0 ≤ q) : opAt (reqT t op) q = if q = op then ⟨(opAt t op).pre, (opAt t op).add ++ [t.facts], (opAt t op).del, (opAt t op).cost⟩ else opAt t q := by
 show ((t.operators.set op.toNat _)[q.toNat]?).getD noOp = _
 rw [List.getElem?_set]
 by_cases e : q = op
 ·subst e; rw [if_pos rfl, if_pos rfl, if_pos (by omega)]; rfl
 ·rw [if_neg e, if_neg (by omega)]; rfl
theorem pre_req (h0 : 0 ≤ op) (h1 : op < t.operators.length) {q : Int} (q0 : 0 ≤ q) : (opAt (reqT t op) q).pre = (opAt t q).pre := by
 rw [af1 h0 h1 q0]; split
 ·rename_i e; rw [e]
 ·rfl
theorem del_req (h0 : 0 ≤ op) (h1 : op < t.operators.length) {q : Int} (q0 : 0 ≤ q) : (opAt (reqT t op) q).del = (opAt t q).del := by
 rw [af1 h0 h1 q0]; split
 ·rename_i e; rw [e]
 ·rfl
theorem cost_req (h0 : 0 ≤ op) (h1 : op < t.operators.length) {q : Int} (q0 : 0 ≤ q) : (opAt (reqT t op) q).cost = (opAt t q).cost := by
 rw [af1 h0 h1 q0]; split
 ·rename_i e; rw [e]
 ·rfl
theorem add_req (h0 : 0 ≤ op) (h1 : op < t.operators.length) {q x : Int} (q0 : 0 ≤ q) : x ∈ (opAt (reqT t op) q).add ↔ x ∈ (opAt t q).add ∨ q = op ∧ x = t.facts := by
 rw [af1 h0 h1 q0]; split
 ·rename_i e; subst e; simp
 ·rename_i e; simp [e]
theorem can_req (ht : i6 t) (h0 : 0 ≤ op) (h1 : op < t.operators.length) {q : Int} (q0 : 0 ≤ q) (q1 : q < t.operators.length) {s : List Int} {b : Bool} : can (reqT t op) (up t.facts s b) q ↔ can t s q := by
 unfold can
 rw [pre_req h0 h1 q0]
 have hp := (J8 ht q0 q1).1.1
 refine ⟨fun h x hx => ?_, fun h x hx => Y1.2 (.inl (h x hx))⟩
 rcases Y1.1 (h x hx) with k | ⟨_, rfl⟩
 ·exact k
 ·have := hp.2 _ hx; omega
theorem aft_req (ht : i6 t) (h0 : 0 ≤ op) (h1 : op < t.operators.length) {q : Int} (q0 : 0 ≤ q) (q1 : q < t.operators.length) {s : List Int} {b : Bool} (hs : SetN s t.facts) : aft (reqT t op) (up t.facts s b) q = up t.facts (aft t s q) (b || decide (q = op)) := by
 obtain ⟨k1, k2, k3, k4⟩ := (J8 ht q0 q1).1
 refine ((setN_up ht.n0 (U7 t s q)).eq_of fun x x0 x1 => ?_).symm
 rw [add_req h0 h1 q0, del_req h0 h1 q0, Y1, Y1]
 unfold aft
 rw [J1]
 have d1 : t.facts ∉ (opAt t q).del := fun h => by have := k3.2 _ h; omega
 have d2 : t.facts ∉ (opAt t q).add := fun h => by have := k2.2 _ h; omega
 have d3 : t.facts ∉ s := fun h => by have := hs.2 _ h; omega
 by_cases e : x = t.facts
 ·subst e; simp [d1, d2, d3, or_comm]
 ·have : x < t.facts := by change x < t.facts + 1 at x1; omega
  simp [e, x0, this]
theorem ends_req (ht : i6 t) (h0 : 0 ≤ op) (h1 : op < t.operators.length) : ∀ {p s : List Int} {b : Bool}, SetN s t.facts → Val t p → ends (reqT t op) (up t.facts s b) p = (ends t s p).map fun e => up t.facts e (b || decide (op ∈ p))
 | [], s, b, _, _ => by simp [ends]
 | q :: p, s, b, hs, hv => by
  have hq := hv q (by simp)
  simp only [ends]
  rw [J7 (can_req ht h0 h1 hq.1 hq.2)]
  split
  ·rw [aft_req ht h0 h1 hq.1 hq.2 hs, ends_req ht h0 h1 (U7 t s q) (fun x hx => hv x (List.mem_cons_of_mem _ hx))]
   have : (b || decide (q = op) || decide (op ∈ p)) = (b || decide (op ∈ q :: p)) := by
    rw [Bool.or_assoc]; congr 1
    rw [← Bool.decide_or]; apply decide_eq_decide.2
    rw [List.mem_cons, eq_comm]
   rw [this]
  ·rfl
theorem works_req (ht : i6 t) (h0 : 0 ≤ op) (h1 : op < t.operators.length) {p s : List Int} {b : Bool} (hs : SetN s t.facts) (hv : Val t p) : G1 (reqT t op) (up t.facts s b) p ↔ G1 t s p ∧ (b = true ∨ op ∈ p) := by
 unfold G1
 rw [ends_req ht h0 h1 hs hv]
 have hg : ∀ x ∈ t.goal, x < t.facts := fun x hx => (ht.goal.2 x hx).2
 constructor
 ·rintro ⟨e, e1, e2⟩
  cases e' : ends t s p with
  | none => rw [e'] at e1; cases e1
  | some u =>
   rw [e'] at e1
   simp only [Option.map_some, Option.some.injEq] at e1
   subst e1
   have hu := ends_setN hs e'
   refine ⟨⟨u, rfl, fun x hx => ?_⟩, ?_⟩
   ·rcases Y1.1 (e2 x (List.mem_append_left _ hx)) with k | ⟨_, rfl⟩
    ·exact k
    ·have := hg _ hx; omega
   ·rcases Y1.1 (e2 t.facts (List.mem_append_right _ (by simp))) with k | ⟨k, _⟩
    ·have := hu.2 _ k; omega
    ·simpa using k
 ·rintro ⟨⟨u, u1, u2⟩, k⟩
  rw [u1]
  refine ⟨_, rfl, fun x hx => ?_⟩
  rcases List.mem_append.1 hx with hx | hx
  ·exact Y1.2 (.inl (u2 x hx))
  ·exact Y1.2 (.inr ⟨by simpa using k, by simpa using hx⟩)
theorem val_req {p : List Int} : Val (reqT t op) p ↔ Val t p := by unfold Val; rw [req_len]
theorem pcost_req (h0 : 0 ≤ op) (h1 : op < t.operators.length) : ∀ {p : List Int}, Val t p → n9 (reqT t op) p = n9 t p
 | [], _ => rfl
 | q :: p, hv => by
  simp only [n9]
  rw [cost_req h0 h1 (hv q (by simp)).1, pcost_req h0 h1 fun x hx => hv x (List.mem_cons_of_mem _ hx)]
theorem works_req0 (ht : i6 t) (h0 : 0 ≤ op) (h1 : op < t.operators.length) {p : List Int} (hv : Val t p) : G1 (reqT t op) (reqT t op).init p ↔ G1 t t.init p ∧ op ∈ p := by
 have := works_req ht h0 h1 (b := false) ht.init hv
 have e : up t.facts t.init false = (reqT t op).init := by simp [up, reqT]
 rw [e] at this; rw [this]; simp
theorem SetN.weak {l : List Int} {n m : Int} (h : SetN l n) (hm : n ≤ m) : SetN l m := ⟨h.1, fun x hx => by have := h.2 x hx; omega⟩
theorem req_ok (ht : i6 t) (h0 : 0 ≤ op) (h1 : op < t.operators.length) (hf : t.facts < 24) : i6 (reqT t op) where
 n0 := by have := ht.n0; show 0 ≤ t.facts + 1; omega
 n1 := by show t.facts + 1 ≤ 24; omega
 init := ht.init.weak (by show t.facts ≤ t.facts + 1; omega)
 goal := by
  have := setN_up (b := true) ht.n0 ht.goal
  simpa [up, reqT] using this
 ops := by rw [req_len]; exact ht.ops
 op := fun o ho => by
  obtain ⟨q, q0, q1, q2⟩ := y8 ho
  rw [req_len] at q1
  rw [R5 q0 (by rw [req_len]; exact q1)] at q2
  cases q2
  obtain ⟨⟨k1, k2, k3, k4⟩, k5⟩ := J8 ht q0 q1
  have hle : t.facts ≤ (reqT t op).facts := by show t.facts ≤ t.facts + 1; omega
  refine ⟨⟨by rw [pre_req h0 h1 q0]; exact k1.weak hle, ?_, by rw [del_req h0 h1 q0]; exact k3.weak hle, fun x hx => ?_⟩, by unfold T5; rw [cost_req h0 h1 q0]; exact k5⟩
  ·rw [af1 h0 h1 q0]
   split
   ·rename_i e; subst e
    have := setN_up (b := true) ht.n0 k2
    simpa [up, reqT] using this
   ·exact k2.weak hle
  ·rw [del_req h0 h1 q0]
   rcases (add_req h0 h1 q0).1 hx with hx | ⟨_, rfl⟩
   ·exact k4 x hx
   ·exact fun h => by have := k3.2 _ h; omega
theorem rt_req (ht : i6 t) (h0 : 0 ≤ op) (h1 : op < t.operators.length) {s : List Int} (h : Rt (reqT t op) s) : ∃ u b, Rt t u ∧ s = up t.facts u b := by
 induction h with
 | init => exact ⟨t.init, false, .init, by simp [up, reqT]⟩
 | @step s q h q0 q1 hc ih =>
  obtain ⟨u, b, hu, rfl⟩ := ih
  rw [req_len] at q1
  exact ⟨_, _, hu.step q0 q1 ((can_req ht h0 h1 q0 q1).1 hc), aft_req ht h0 h1 q0 q1 (hu.setN ht)⟩
theorem many_req (ht : i6 t) (h0 : 0 ≤ op) (h1 : op < t.operators.length) {l : List (List Int)} (hl : l.length ≤ 1000) (hm : ∀ s, Rt t s → s ∈ l) : ¬ Many (reqT t op) := by
 rintro ⟨m, m1, m2, m3⟩
 have := W8 m1 (S := l.map (up t.facts · false) ++ l.map (up t.facts · true)) fun s hs => by
  obtain ⟨u, b, hu, rfl⟩ := rt_req ht h0 h1 (m3 s hs)
  cases b
  ·exact List.mem_append_left _ (List.mem_map.2 ⟨u, hm u hu, rfl⟩)
  ·exact List.mem_append_right _ (List.mem_map.2 ⟨u, hm u hu, rfl⟩)
 simp at this
 omega
/-! ### Without the operator -/
def re (op q : Int) : Int := if q < op then q else q + 1
theorem for_len (h0 : 0 ≤ op) (h1 : op < t.operators.length) : ((forT t op).operators.length : Int) = t.operators.length - 1 := by
 simp only [forT, List.length_append, List.length_take, List.length_drop]; omega
theorem ae3 (h0 : 0 ≤ op) (h1 : op < t.operators.length) {q : Int} (q0 : 0 ≤ q) : opAt (forT t op) q = opAt t (re op q) := by
 show ((t.operators.take op.toNat ++ t.operators.drop (op.toNat + 1))[q.toNat]?).getD noOp = _
 unfold re opAt
 by_cases e : q < op
 ·rw [if_pos e, List.getElem?_append_left (by rw [List.length_take]; omega), List.getElem?_take_of_lt (by omega)]
 ·rw [if_neg e, List.getElem?_append_right (by rw [List.length_take]; omega), List.getElem?_drop, List.length_take]
  congr 2; omega
theorem re_ok (h0 : 0 ≤ op) (h1 : op < t.operators.length) {q : Int} (q0 : 0 ≤ q) (q1 : q < (forT t op).operators.length) : 0 ≤ re op q ∧ re op q < t.operators.length ∧ re op q ≠ op := by
 have := for_len h0 h1
 unfold re; split <;> omega
theorem ends_for (h0 : 0 ≤ op) (h1 : op < t.operators.length) : ∀ {p s : List Int}, Val (forT t op) p → ends (forT t op) s p = ends t s (p.map (re op))
 | [], s, _ => rfl
 | q :: p, s, hv => by
  have hq := hv q (by simp)
  have e1 : can (forT t op) s q = can t s (re op q) := by unfold can; rw [ae3 h0 h1 hq.1]
  have e2 : aft (forT t op) s q = aft t s (re op q) := by unfold aft; rw [ae3 h0 h1 hq.1]; rfl
  simp only [List.map_cons, ends, e1, e2]
  rw [ends_for h0 h1 fun x hx => hv x (List.mem_cons_of_mem _ hx)]
theorem works_for (h0 : 0 ≤ op) (h1 : op < t.operators.length) {p s : List Int} (hv : Val (forT t op) p) : G1 (forT t op) s p ↔ G1 t s (p.map (re op)) := by
 unfold G1; rw [ends_for h0 h1 hv]; rfl
theorem val_for (h0 : 0 ≤ op) (h1 : op < t.operators.length) {p : List Int} (hv : Val (forT t op) p) : Val t (p.map (re op)) ∧ op ∉ p.map (re op) := by
 refine ⟨fun x hx => ?_, fun hx => ?_⟩
 ·obtain ⟨q, hq, rfl⟩ := List.mem_map.1 hx
  have := re_ok h0 h1 (hv q hq).1 (hv q hq).2
  exact ⟨this.1, this.2.1⟩
 ·obtain ⟨q, hq, e⟩ := List.mem_map.1 hx
  exact (re_ok h0 h1 (hv q hq).1 (hv q hq).2).2.2 e
theorem of_for (h0 : 0 ≤ op) (h1 : op < t.operators.length) {p : List Int} (hv : Val t p) (hn : op ∉ p) : ∃ p', Val (forT t op) p' ∧ p'.map (re op) = p := by
 have hl := for_len h0 h1
 refine ⟨p.map fun q => if q < op then q else q - 1, fun x hx => ?_, ?_⟩
 ·obtain ⟨q, hq, rfl⟩ := List.mem_map.1 hx
  have := hv q hq
  have : q ≠ op := fun e => hn (e ▸ hq)
  split <;> omega
 ·rw [List.map_map]
  refine (List.map_congr_left fun q hq => ?_).trans (List.map_id p)
  have : q ≠ op := fun e => hn (e ▸ hq)
  simp only [Function.comp, re, id]
  by_cases c : q < op
  ·rw [if_pos c, if_pos c]
  ·rw [if_neg c, if_neg (by omega)]; omega
theorem pcost_for (h0 : 0 ≤ op) (h1 : op < t.operators.length) : ∀ {p : List Int}, Val (forT t op) p → n9 (forT t op) p = n9 t (p.map (re op))
 | [], _ => rfl
 | q :: p, hv => by
  simp only [List.map_cons, n9]
  rw [ae3 h0 h1 (hv q (by simp)).1, pcost_for h0 h1 fun x hx => hv x (List.mem_cons_of_mem _ hx)]
theorem for_ok (ht : i6 t) (h0 : 0 ≤ op) (h1 : op < t.operators.length) : i6 (forT t op) where
 n0 := ht.n0
 n1 := ht.n1
 init := ht.init
 goal := ht.goal
 ops := by have := for_len h0 h1; have := ht.ops; omega
 op := fun o ho => ht.op o (by
  rcases List.mem_append.1 ho with ho | ho
  ·exact List.mem_of_mem_take ho
  ·exact List.mem_of_mem_drop ho)
theorem rt_for (h0 : 0 ≤ op) (h1 : op < t.operators.length) {s : List Int} (h : Rt (forT t op) s) : Rt t s := by
 induction h with
 | init => exact .init
 | @step s q h q0 q1 hc ih =>
  have e1 : can (forT t op) s q = can t s (re op q) := by unfold can; rw [ae3 h0 h1 q0]
  have e2 : aft (forT t op) s q = aft t s (re op q) := by unfold aft; rw [ae3 h0 h1 q0]; rfl
  have := re_ok h0 h1 q0 q1
  rw [e2]
  exact ih.step this.1 this.2.1 (by rw [← e1]; exact hc)
theorem many_for (h0 : 0 ≤ op) (h1 : op < t.operators.length) (h : Many (forT t op)) : Many t := by
 obtain ⟨m, m1, m2, m3⟩ := h
 exact ⟨m, m1, m2, fun s hs => rt_for h0 h1 (m3 s hs)⟩
theorem few_many (hf : Few t) : ¬ Many t := by
 rintro ⟨m, m1, m2, m3⟩
 obtain ⟨l, l1, l2, l3⟩ := hf
 have := W8 m1 (S := l) fun s hs => (l3 s).2 (m3 s hs)
 omega
end
end Ab
end
section
namespace Ab
open Go
def LC (t : d9) (P : List Int → Prop) (k : Int) : Prop := (∀ p, P p → k ≤ n9 t p) ∧ 0 ≤ k ∧ ((k = 1000000000 ∧ ∀ p, ¬ P p) ∨ (k < 1000000000 ∧ ∃ p, P p ∧ n9 t p = k))
def Sol (t : d9) (s p : List Int) : Prop := Val t p ∧ G1 t s p
theorem LC.eq {t : d9} {P : List Int → Prop} {k k' : Int} (h : LC t P k) (h' : LC t P k') : k = k' := by
 obtain ⟨a1, a2, a3⟩ := h
 obtain ⟨b1, b2, b3⟩ := h'
 rcases a3 with ⟨a3, a4⟩ | ⟨a3, p, a4, a5⟩
 ·rcases b3 with ⟨b3, b4⟩ | ⟨b3, q, b4, b5⟩
  ·omega
  ·exact absurd b4 (a4 q)
 ·rcases b3 with ⟨b3, b4⟩ | ⟨b3, q, b4, b5⟩
  ·exact absurd a4 (b4 p)
  ·have := a1 q b4; have := b1 p a4; omega
theorem LC.le {t : d9} {P : List Int → Prop} {k : Int} (h : LC t P k) : k ≤ 1000000000 := by
 obtain ⟨a1, a2, ⟨a3, a4⟩ | ⟨a3, p, a4, a5⟩⟩ := h <;> omega
theorem OptR.lc {t : d9} {r : Int × j5} (h : OptR t r) (hc : r.2.code = 0) : LC t (Sol t t.init) r.1 := by
 cases h with
 | bad _ _ hc' => exact absurd hc hc'
 | many => simp at hc
 | none h hf hn => exact ⟨fun p hp => absurd hp.2 (hn p hp.1), by simp, .inl ⟨rfl, fun p hp => hn p hp.1 hp.2⟩⟩
 | some h hf h0 h1 hv hw hk hl => exact ⟨fun p hp => hl p hp.1 hp.2, h0, .inr ⟨by simp only; omega, _, ⟨hv, hw⟩, hk⟩⟩
theorem OptR.mny {t : d9} {r : Int × j5} (h : OptR t r) (ht : i6 t) (hc : r.2.code ≠ 0) : Many t ∧ r = (0, ⟨10, -7⟩) := by
 cases h with
 | bad h => exact absurd ht h
 | many _ hm => exact ⟨hm, rfl⟩
 | none => simp at hc
 | some => simp at hc
theorem OptR.idx {t : d9} {r : Int × j5} (h : OptR t r) (hc : r.2.code = 0) : r.2 = ⟨0, 0⟩ := by
 cases h with
 | bad _ _ hc' => exact absurd hc hc'
 | many => simp at hc
 | none => rfl
 | some => rfl
section
variable {t : d9} {op : Int}
theorem lc_req (ht : i6 t) (h0 : 0 ≤ op) (h1 : op < t.operators.length) {k : Int} (h : LC (reqT t op) (Sol (reqT t op) (reqT t op).init) k) : LC t (fun p => Sol t t.init p ∧ op ∈ p) k := by
 have key : ∀ p, Sol (reqT t op) (reqT t op).init p ↔ Sol t t.init p ∧ op ∈ p := fun p => by
  unfold Sol
  constructor
  ·rintro ⟨a, b⟩
   have a := val_req.1 a
   have := (works_req0 ht h0 h1 a).1 b
   exact ⟨⟨a, this.1⟩, this.2⟩
  ·rintro ⟨⟨a, b⟩, c⟩
   exact ⟨val_req.2 a, (works_req0 ht h0 h1 a).2 ⟨b, c⟩⟩
 obtain ⟨a1, a2, a3⟩ := h
 refine ⟨fun p hp => ?_, a2, a3.imp (fun ⟨a, b⟩ => ⟨a, fun p hp => b p ((key p).2 hp)⟩) (fun ⟨a, p, b, c⟩ => ?_)⟩
 ·rw [← pcost_req h0 h1 hp.1.1]; exact a1 p ((key p).2 hp)
 ·have := (key p).1 b
  exact ⟨a, p, this, by rw [← pcost_req h0 h1 this.1.1]; exact c⟩
theorem lc_for (h0 : 0 ≤ op) (h1 : op < t.operators.length) {k : Int} (h : LC (forT t op) (Sol (forT t op) (forT t op).init) k) : LC t (fun p => Sol t t.init p ∧ op ∉ p) k := by
 have to : ∀ p, Sol (forT t op) (forT t op).init p → Sol t t.init (p.map (re op)) ∧ op ∉ p.map (re op) := fun p hp =>
  ⟨⟨(val_for h0 h1 hp.1).1, (works_for h0 h1 hp.1).1 hp.2⟩, (val_for h0 h1 hp.1).2⟩
 have fro : ∀ p, Sol t t.init p → op ∉ p → ∃ q, Sol (forT t op) (forT t op).init q ∧ q.map (re op) = p := fun p hp hn => by
  obtain ⟨q, q1, q2⟩ := of_for h0 h1 hp.1 hn
  exact ⟨q, ⟨q1, (works_for h0 h1 q1).2 (by rw [q2]; exact hp.2)⟩, q2⟩
 obtain ⟨a1, a2, a3⟩ := h
 refine ⟨fun p hp => ?_, a2, a3.imp (fun ⟨a, b⟩ => ⟨a, fun p hp => ?_⟩) (fun ⟨a, p, b, c⟩ => ⟨a, _, to p b, by rw [← pcost_for h0 h1 b.1]; exact c⟩)⟩
 ·obtain ⟨q, q1, rfl⟩ := fro p hp.1 hp.2
  rw [← pcost_for h0 h1 q1.1]; exact a1 q q1
 ·obtain ⟨q, q1, _⟩ := fro p hp.1 hp.2
  exact b q q1
/-! ### With and Without -/
theorem ab1 (t : d9) (op : Int) : ∃ f, C6 t op = some f ∧ x9 t op = some f ∧ H3 t op = some f ∧ ((f = ⟨0, 0⟩ ∧ i6 t ∧ 0 ≤ op ∧ op < t.operators.length) ∨ (f.code ≠ 0 ∧ ¬ (i6 t ∧ 0 ≤ op ∧ op < t.operators.length))) := by
 obtain ⟨f, h1, h2, h3⟩ := validate_eq t
 unfold C6 x9 H3
 rw [h1, h2]
 simp only [oB, in_eq, at_eq]
 rcases h3 with ⟨rfl, ht⟩ | ⟨hc, hn⟩
 ·by_cases c : 0 ≤ op ∧ op < t.operators.length
  ·refine ⟨⟨0, 0⟩, ?_, ?_, ?_, .inl ⟨rfl, ht, c⟩⟩
   ·rw [if_neg (by simp), if_neg (by simp; omega)]
   ·rw [if_neg (by simp), if_neg (by simp; omega)]
   ·simp only [if_true, oB]
    rw [j7 (by omega)]; rfl
  ·refine ⟨⟨3, -6⟩, ?_, ?_, ?_, .inr ⟨by simp, fun h => c h.2⟩⟩
   ·rw [if_neg (by simp), if_pos (by simp; omega)]
   ·rw [if_neg (by simp), if_pos (by simp; omega)]
   ·simp only [if_true, oB]
    rw [s6 (by omega)]; rfl
 ·refine ⟨f, ?_, ?_, ?_, .inr ⟨hc, fun h => hn h.1⟩⟩
  ·rw [if_pos (by simp [hc])]
  ·rw [if_pos (by simp [hc])]
  ·rw [if_neg hc]; rfl
theorem require_eq (ht : i6 t) (h0 : 0 ≤ op) (h1 : op < t.operators.length) (hf : t.facts ≠ 24) : F0 t op = some (reqT t op, ⟨0, 0⟩) := by
 obtain ⟨f, _, k2, _, k4⟩ := ab1 t op
 rcases k4 with ⟨rfl, _⟩ | ⟨_, k4⟩
 ·have n0 := ht.n0; have n1 := ht.n1
  have l1 := ht.goal.len24 ht.n1
  have l2 := (J8 ht h0 h1).1.2.1.len24 ht.n1
  unfold F0
  rw [k2]
  simp only [oB]
  have a1 : app 8 t.goal [t.facts] = some (t.goal ++ [t.facts]) := by unfold app; rw [if_pos (by simp; omega)]
  have a2 : app 8 (opAt t op).add [t.facts] = some ((opAt t op).add ++ [t.facts]) := by unfold app; rw [if_pos (by simp; omega)]
  rw [if_neg (by simp), if_neg hf, cclone_eq ht]
  simp only [oB, R5 h0 h1, a1, a2, x6 (show -9223372036854775808 ≤ t.facts + 1 by omega) (by omega)]
  rfl
 ·exact absurd ⟨ht, h0, h1⟩ k4
theorem forbid_eq (ht : i6 t) (h0 : 0 ≤ op) (h1 : op < t.operators.length) : K9 t op = some (forT t op, ⟨0, 0⟩) := by
 obtain ⟨f, _, k2, _, k4⟩ := ab1 t op
 rcases k4 with ⟨rfl, _⟩ | ⟨_, k4⟩
 ·have hl := ht.ops
  unfold K9
  rw [k2]
  simp only [oB]
  rw [if_neg (by simp), clone_same, cclone_eq ht]
  have hd : delL t.operators op (op + 1) = some (t.operators.take op.toNat ++ t.operators.drop (op.toNat + 1)) := by unfold delL; rw [if_pos ⟨h0, h1, rfl⟩]
  simp only [oB, x6 (show -9223372036854775808 ≤ op + 1 by omega) (by omega), hd]
  rfl
 ·exact absurd ⟨ht, h0, h1⟩ k4
inductive WithR (t : d9) (op : Int) : Int × j5 → Prop
 | bad {f : j5} (h : ¬ (i6 t ∧ 0 ≤ op ∧ op < t.operators.length)) (hc : f.code ≠ 0) (hf : H3 t op = some f) : WithR t op (0, f)
 | big (h : i6 t) (h0 : 0 ≤ op) (h1 : op < t.operators.length) (hf : t.facts = 24) : WithR t op (0, ⟨10, -8⟩)
 | opt {r : Int × j5} (h : i6 t) (h0 : 0 ≤ op) (h1 : op < t.operators.length) (hf : t.facts < 24) (hr : OptR (reqT t op) r) : WithR t op r
inductive OutR (t : d9) (op : Int) : Int × j5 → Prop
 | bad {f : j5} (h : ¬ (i6 t ∧ 0 ≤ op ∧ op < t.operators.length)) (hc : f.code ≠ 0) (hf : H3 t op = some f) : OutR t op (0, f)
 | opt {r : Int × j5} (h : i6 t) (h0 : 0 ≤ op) (h1 : op < t.operators.length) (hr : OptR (forT t op) r) : OutR t op r
theorem with_spec (t : d9) (op : Int) : ∃ r, C0 t op = some r ∧ WithR t op r := by
 obtain ⟨f, k1, k2, k3, k4⟩ := ab1 t op
 unfold C0
 rw [k1]
 simp only [oB]
 rcases k4 with ⟨rfl, ht, h0, h1⟩ | ⟨hc, hn⟩
 ·rw [if_neg (by simp)]
  by_cases e : t.facts = 24
  ·unfold F0
   rw [k2]
   simp only [oB]
   rw [if_neg (by simp), if_pos e]
   simp only [oB]
   rw [if_pos (by simp)]
   exact ⟨_, rfl, .big ht h0 h1 e⟩
  ·rw [require_eq ht h0 h1 e]
   obtain ⟨r, r1, r2⟩ := ae8 (reqT t op)
   simp only [oB]
   rw [if_neg (by simp), r1]
   exact ⟨r, rfl, .opt ht h0 h1 (by have := ht.n1; omega) r2⟩
 ·rw [if_pos (by simp [hc])]
  exact ⟨_, rfl, .bad hn hc k3⟩
theorem al2 (t : d9) (op : Int) : ∃ r, x5 t op = some r ∧ OutR t op r := by
 obtain ⟨f, k1, k2, k3, k4⟩ := ab1 t op
 unfold x5
 rw [k1]
 simp only [oB]
 rcases k4 with ⟨rfl, ht, h0, h1⟩ | ⟨hc, hn⟩
 ·rw [if_neg (by simp), forbid_eq ht h0 h1]
  obtain ⟨r, r1, r2⟩ := ae8 (forT t op)
  simp only [oB]
  rw [if_neg (by simp), r1]
  exact ⟨r, rfl, .opt ht h0 h1 r2⟩
 ·rw [if_pos (by simp [hc])]
  exact ⟨_, rfl, .bad hn hc k3⟩
theorem WithR.lc {r : Int × j5} (h : WithR t op r) (hc : r.2.code = 0) : (i6 t ∧ 0 ≤ op ∧ op < t.operators.length) ∧ r.2 = ⟨0, 0⟩ ∧ LC t (fun p => Sol t t.init p ∧ op ∈ p) r.1 := by
 cases h with
 | bad _ hc' => exact absurd hc hc'
 | big => simp at hc
 | opt ht h0 h1 hf hr => exact ⟨⟨ht, h0, h1⟩, hr.idx hc, lc_req ht h0 h1 (hr.lc hc)⟩
theorem OutR.lc {r : Int × j5} (h : OutR t op r) (hc : r.2.code = 0) : (i6 t ∧ 0 ≤ op ∧ op < t.operators.length) ∧ r.2 = ⟨0, 0⟩ ∧ LC t (fun p => Sol t t.init p ∧ op ∉ p) r.1 := by
 cases h with
 | bad _ hc' => exact absurd hc hc'
 | opt ht h0 h1 hr => exact ⟨⟨ht, h0, h1⟩, hr.idx hc, lc_for h0 h1 (hr.lc hc)⟩
end
/-! ### The fixed task -/
theorem aj0 {t : d9} (ht : i6 t) {op : Int} : ∀ {p : List Int}, Val t p → op ∈ p → (opAt t op).cost ≤ n9 t p
 | [], _, h => by simp at h
 | q :: p, hv, h => by
  have h1 := aa2 ht (plan := p) fun x hx => hv x (List.mem_cons_of_mem _ hx)
  have h2 := hv q (by simp)
  have h3 := (J8 ht h2.1 h2.2).2.1
  simp only [n9]
  rcases List.mem_cons.1 h with rfl | h
  ·omega
  ·have := aj0 ht (p := p) (fun x hx => hv x (List.mem_cons_of_mem _ hx)) h
   omega
theorem step_few (s : List Int) (h : Rt o5 s) : s ∈ [[], [0], [1], [0, 1]] := by
 have hs := h.setN R8
 have e : s = G0 (· ∈ s) 2 := hs.eq
 by_cases a : (0 : Int) ∈ s
 ·by_cases b : (1 : Int) ∈ s
  ·rw [(setN_nil 2 |>.1 |> fun _ => hs.1.ext (m := [0, 1]) (by simp) fun x => ?_)]
   ·simp
   ·have := hs.2 x
    constructor
    ·intro hx; have := this hx; simp only [o5] at this; simp; omega
    ·intro hx; simp at hx; rcases hx with rfl | rfl <;> assumption
  ·rw [hs.1.ext (m := [0]) (by simp) fun x => ?_]
   ·simp
   ·have := hs.2 x
    constructor
    ·intro hx
     have := this hx; simp only [o5] at this
     have : x ≠ 1 := fun e => b (e ▸ hx)
     simp; omega
    ·intro hx; simp at hx; rw [hx]; exact a
 ·by_cases b : (1 : Int) ∈ s
  ·rw [hs.1.ext (m := [1]) (by simp) fun x => ?_]
   ·simp
   ·have := hs.2 x
    constructor
    ·intro hx
     have := this hx; simp only [o5] at this
     have : x ≠ 0 := fun e => a (e ▸ hx)
     simp; omega
    ·intro hx; simp at hx; rw [hx]; exact b
  ·rw [hs.1.ext (m := []) (by simp) fun x => ?_]
   ·simp
   ·have := hs.2 x
    constructor
    ·intro hx
     have := this hx; simp only [o5] at this
     have : x ≠ 0 := fun e => a (e ▸ hx)
     have : x ≠ 1 := fun e => b (e ▸ hx)
     omega
    ·intro hx; simp at hx
theorem step_many : ¬ Many o5 := by
 rintro ⟨m, m1, m2, m3⟩
 have := W8 m1 (S := [[], [0], [1], [0, 1]]) fun s hs => step_few s (m3 s hs)
 simp at this; omega
theorem aj8 {op : Int} (h : op = 0 ∨ op = 1) : Sol o5 o5.init [op] := by
 refine ⟨fun x hx => ?_, aft o5 o5.init op, ?_, fun x hx => ?_⟩
 ·simp at hx; subst hx; simp only [o5, List.length_cons, List.length_nil]; omega
 ·simp only [ends]
  rw [if_pos (j7 (show can o5 o5.init op from fun x hx => by
   rcases h with rfl | rfl
   ·simpa [opAt, o5] using hx
   ·simp [opAt, o5] at hx))]
 ·refine J1.2 ?_
  simp [o5] at hx; subst hx
  rcases h with rfl | rfl <;> simp [o5, opAt]
theorem step_ne {p : List Int} (h : Sol o5 o5.init p) : ∃ q, q ∈ p ∧ (q = 0 ∨ q = 1) := by
 cases p with
 | nil =>
  obtain ⟨_, e, h1, h2⟩ := h
  simp only [ends, Option.some.injEq] at h1; subst h1
  have := h2 1 (by simp [o5])
  simp [o5] at this
 | cons q p =>
  refine ⟨q, by simp, ?_⟩
  have := h.1 q (by simp)
  simp only [o5, List.length_cons, List.length_nil] at this
  omega
theorem step_cost0 : (opAt o5 0).cost = 1 := rfl
theorem aj2 : (opAt o5 1).cost = 3 := rfl
theorem lc_of {t : d9} {P : List Int → Prop} {k : Int} {p : List Int} (h0 : 0 ≤ k) (h1 : k < 1000000000) (hp : P p) (hk : n9 t p = k) (hl : ∀ q, P q → k ≤ n9 t q) : LC t P k := ⟨hl, h0, .inr ⟨h1, p, hp, hk⟩⟩
theorem step_opt : C1 o5 = some (1, ⟨0, 0⟩) := by
 obtain ⟨r, r1, r2⟩ := ae8 o5
 have hc : r.2.code = 0 := Classical.byContradiction fun hc => step_many (r2.mny R8 hc).1
 have := (r2.lc hc).eq (lc_of (p := [0]) (k := 1) (by decide) (by decide) (aj8 (.inl rfl)) rfl fun q hq => by
  obtain ⟨x, hx, e⟩ := step_ne hq
  have := aj0 R8 hq.1 hx
  rcases e with rfl | rfl
  ·rw [step_cost0] at this; exact this
  ·rw [aj2] at this; omega)
 rw [r1, ← r2.idx hc, ← this]
theorem step_with {op : Int} (h : op = 0 ∨ op = 1) : C0 o5 op = some (if op = 0 then 1 else 3, ⟨0, 0⟩) := by
 obtain ⟨r, r1, r2⟩ := with_spec o5 op
 have h01 : 0 ≤ op ∧ op < o5.operators.length := by simp only [o5, List.length_cons, List.length_nil]; omega
 have hc : r.2.code = 0 := Classical.byContradiction fun hc => by
  cases r2 with
  | bad hn => exact hn ⟨R8, h01⟩
  | big _ _ _ hf => simp [o5] at hf
  | opt ht h0 h1 hf hr => exact many_req R8 h01.1 h01.2 (l := [[], [0], [1], [0, 1]]) (by simp) step_few (hr.mny (req_ok ht h0 h1 hf) hc).1
 obtain ⟨_, k1, k2⟩ := r2.lc hc
 have hv := aj8 h
 have := k2.eq (lc_of (p := [op]) (k := if op = 0 then 1 else 3) (by split <;> omega) (by split <;> omega) ⟨hv, by simp⟩ (by rcases h with rfl | rfl <;> rfl) fun q hq => by
  have := aj0 R8 hq.1.1 hq.2
  rcases h with rfl | rfl
  ·rw [step_cost0] at this; simpa using this
  ·rw [aj2] at this; simpa using this)
 rw [r1, ← k1, ← this]
theorem step_without : x5 o5 0 = some (3, ⟨0, 0⟩) := by
 obtain ⟨r, r1, r2⟩ := al2 o5 0
 have h01 : (0 : Int) ≤ 0 ∧ (0 : Int) < o5.operators.length := by simp [o5]
 have hc : r.2.code = 0 := Classical.byContradiction fun hc => by
  cases r2 with
  | bad hn => exact hn ⟨R8, h01⟩
  | opt ht h0 h1 hr => exact step_many (many_for h01.1 h01.2 (hr.mny (for_ok ht h0 h1) hc).1)
 obtain ⟨_, k1, k2⟩ := r2.lc hc
 have := k2.eq (lc_of (p := [1]) (k := 3) (by decide) (by decide) ⟨aj8 (.inr rfl), by simp⟩ rfl fun q hq => by
  obtain ⟨x, hx, e⟩ := step_ne hq.1
  have hm := aj0 R8 hq.1.1 hx
  rcases e with rfl | rfl
  ·exact absurd hx hq.2
  ·rw [aj2] at hm; exact hm)
 rw [r1, ← k1, ← this]
theorem priced_true : G3 = some true := by
 unfold G3
 rw [show W6 = some o5 from rfl]
 simp only [oB]
 unfold R7
 obtain ⟨f, k1, k2, k3, k4⟩ := ab1 o5 0
 rcases k4 with ⟨rfl, _⟩ | ⟨_, k4⟩
 ·rw [step_with (.inr rfl), step_with (.inl rfl), step_without, step_opt, k1]
  rfl
 ·exact absurd ⟨R8, by simp [o5], by simp [o5]⟩ k4
end Ab
end
section
namespace Ab
open Go
theorem P4 {t : d9} : ∀ {p q : List Int}, n9 t (p ++ q) = n9 t p + n9 t q
 | [], q => by simp [n9]
 | x :: p, q => by simp only [List.cons_append, n9, P4 (p := p) (q := q)]; omega
end Ab
end
section
namespace Ab
open Go
structure Rf (t : d9) (l : List (List Int)) (w : List Int) : Prop where
 nd : l.Nodup
 rt : ∀ s ∈ l, Rt t s
 w : w = l.map fun s => (wsN s : Int)
 init : t.init ∈ l
 le : l.length ≤ 2000
theorem many_list {t : d9} {l : List (List Int)} (hn : l.Nodup) (h : ∀ s ∈ l, Rt t s) (hl : l.length = 2000) {s : List Int} (hs : Rt t s) (hsl : s ∉ l) : Many t :=
 ⟨l ++ [s], List.nodup_append.2 ⟨hn, by simp, fun a ha b hb e => by simp at hb; subst hb; subst e; exact hsl ha⟩, by simp [hl], fun x hx => by
  rcases List.mem_append.1 hx with hx | hx
  ·exact h x hx
  ·simp at hx; subst hx; exact hs⟩
theorem rreach_in {t : d9} (ht : i6 t) {l : List (List Int)} {w : List Int} (h : Rf t l w) {i : Int} {s : List Int} (hi : ix l i = some s) :
  (∃ l' w', rngX 0 (t.operators.length : Int) (z8 t i) (l, w) = some (.inl (l', w')) ∧ Rf t l' w' ∧ (∃ m, l' = l ++ m) ∧ Cls t l' s) ∨ (rngX 0 (t.operators.length : Int) (z8 t i) (l, w) = some (.inr ([], false)) ∧ Many t) := by
 have hrs := h.rt s (w5 hi)
 rcases rngX_inv (body := z8 t i) (n := (t.operators.length : Int)) (s := (l, w))
  (fun j c => Rf t c.1 c.2 ∧ (∃ m, c.1 = l ++ m) ∧ ∀ op : Int, 0 ≤ op → op < j → can t s op → aft t s op ∈ c.1) (fun o => o = ([], false) ∧ Many t) (by omega)
  ⟨h, ⟨[], by simp⟩, fun op h0 h1 => by omega⟩ (fun j c j0 j1 hP => by
   obtain ⟨l', w'⟩ := c
   obtain ⟨p1, ⟨m, rfl⟩, p3⟩ := hP
   simp only at p1 p3
   have hi' : ix (l ++ m) i = some s := by
    obtain ⟨h0, h1, h2⟩ := m9 hi
    rw [ix, if_pos h0, List.getElem?_append_left (by omega)]; exact h2
   have hsa := U7 t s j
   have step : ∀ c' : List (List Int) × List Int, (∀ x, x ∈ l ++ m → x ∈ c'.1) → (can t s j → aft t s j ∈ c'.1) → ∀ op : Int, 0 ≤ op → op < j + 1 → can t s op → aft t s op ∈ c'.1 := fun c' a b op h0 h1 hc => by
    by_cases e : op = j
    ·subst e; exact b hc
    ·exact a _ (p3 op h0 (by omega) hc)
   unfold z8
   simp only [hi', oB, ad0 j0 j1]
   by_cases hc : can t s j
   ·simp only [j7 hc, Bool.not_true, Bool.false_eq_true, if_false, aj5 ht j0 j1, oB, word_eq hsa ht.n1, has_eq]
    have hmem : ((wsN (aft t s j) : Nat) : Int) ∈ w' ↔ aft t s j ∈ l ++ m := by
     rw [p1.w, List.mem_map]
     constructor
     ·rintro ⟨x, hx, e⟩
      have := ((p1.rt x hx).setN ht).word_inj hsa (by omega)
      rwa [← this]
     ·intro hx; exact ⟨_, hx, rfl⟩
    by_cases hm : aft t s j ∈ l ++ m
    ·rw [if_pos (j7 (hmem.2 hm))]
     exact .inl ⟨_, rfl, p1, ⟨m, rfl⟩, step (l ++ m, w') (fun _ h => h) (fun _ => hm)⟩
    ·rw [if_neg (by rw [s6 (fun q => hm (hmem.1 q))]; simp)]
     have hnr : Rt t (aft t s j) := hrs.step j0 j1 hc
     have hle := p1.le
     by_cases hl : (l ++ m).length = 2000
     ·rw [if_pos (by rw [hl]; rfl)]
      exact .inr ⟨_, rfl, rfl, many_list p1.nd p1.rt hl hnr hm⟩
     ·rw [if_neg (by omega)]
      have hw : w'.length = (l ++ m).length := by rw [p1.w]; simp
      have a1 : app 24 (l ++ m) [aft t s j] = some (l ++ m ++ [aft t s j]) := by unfold app; rw [if_pos (by simp only [List.length_singleton]; omega)]
      have a2 : app 8 w' [((wsN (aft t s j) : Nat) : Int)] = some (w' ++ [((wsN (aft t s j) : Nat) : Int)]) := by unfold app; rw [if_pos (by simp only [List.length_singleton]; omega)]
      simp only [a1, a2, oB]
      refine .inl ⟨_, rfl, ⟨?_, ?_, ?_, ?_, ?_⟩, ⟨m ++ [aft t s j], by simp⟩, step (_, _) (fun x hx => List.mem_append_left _ hx) (fun _ => by simp)⟩
      ·exact List.nodup_append.2 ⟨p1.nd, by simp, fun a ha b hb e => by simp at hb; subst hb; subst e; exact hm ha⟩
      ·intro x hx
       rcases List.mem_append.1 hx with hx | hx
       ·exact p1.rt x hx
       ·simp at hx; subst hx; exact hnr
      ·rw [p1.w]; simp
      ·exact List.mem_append_left _ p1.init
      ·simp only [List.length_append, List.length_singleton] at hl hle ⊢; omega
   ·simp only [s6 hc, Bool.not_false, if_true]
    exact .inl ⟨_, rfl, p1, ⟨m, rfl⟩, step (l ++ m, w') (fun _ h => h) (fun q => absurd q hc)⟩) with ⟨⟨l', w'⟩, h1, h2, h3, h4⟩ | ⟨o, h1, rfl, h2⟩
 ·exact .inl ⟨l', w', h1, h2, h3, fun op h0 h1 hc => h4 op h0 h1 hc⟩
 ·exact .inr ⟨h1, h2⟩
theorem al8 {t : d9} (ht : i6 t) : ∃ l b, K8 t = some (l, b) ∧ (b = false → Many t) ∧ (b = true → l.Nodup ∧ l.length ≤ 2000 ∧ (∀ s, s ∈ l ↔ Rt t s) ∧ ix l 0 = some t.init) := by
 unfold K8 M3
 simp only [word_eq ht.init ht.n1, oB]
 obtain ⟨o, h1, h2⟩ := M6 (body := H5 t) (s := ([t.init], [((wsN t.init : Nat) : Int)], 0))
  (fun s => Rf t s.1 s.2.1 ∧ 0 ≤ s.2.2 ∧ s.2.2 ≤ s.1.length ∧ (∀ i x, i < s.2.2 → ix s.1 i = some x → Cls t s.1 x) ∧ ix s.1 0 = some t.init)
  (fun o => match o with | .inl l => l.Nodup ∧ l.length ≤ 2000 ∧ (∀ s, s ∈ l ↔ Rt t s) ∧ ix l 0 = some t.init | .inr x => x = ([], false) ∧ Many t)
  (fun s => 2001 - s.2.2.toNat) ⟨⟨by simp, fun s hs => by simp at hs; subst hs; exact .init, by simp, by simp, by simp⟩, Int.le_refl 0, by simp, fun i x hi hx => by have := (m9 hx).1; simp only at hi; omega, rfl⟩ (by
   rintro ⟨l, w, i⟩ ⟨p1, p2, p3, p4, p5⟩
   simp only at p1 p2 p3 p4 p5
   unfold H5
   have hle := p1.le
   by_cases c : i < (l.length : Int)
   ·simp only [if_pos c]
    obtain ⟨s, hs, _⟩ := n4 p2 c
    rcases rreach_in ht p1 hs with ⟨l', w', k1, k2, ⟨m, rfl⟩, k4⟩ | ⟨k1, k2⟩
    ·rw [k1]
     simp only [oB]
     have hw : w64 (i + 1) = i + 1 := x6 (by omega) (by omega)
     rw [hw]
     have hup : ∀ j x, ix l j = some x → ix (l ++ m) j = some x := fun j x hj => by
      obtain ⟨h0, h1, h2⟩ := m9 hj
      rw [ix, if_pos h0, List.getElem?_append_left (by omega)]; exact h2
     refine .inl ⟨_, rfl, ⟨k2, by simp only; omega, by simp; omega, fun j x hj hx => ?_, hup _ _ p5⟩, by simp only; omega⟩
     simp only at hj hx ⊢
     by_cases e : j = i
     ·subst e
      rw [hup _ _ hs] at hx; cases hx; exact k4
     ·have h0 := (m9 hx).1
      obtain ⟨y, hy, _⟩ := n4 (l := l) h0 (by omega)
      rw [hup _ _ hy] at hx; cases hx
      exact fun op g0 g1 hc => List.mem_append_left _ (p4 j _ (by omega) hy op g0 g1 hc)
    ·rw [k1]
     exact .inr ⟨_, rfl, rfl, k2⟩
   ·simp only [if_neg c]
    refine .inr ⟨.inl l, rfl, p1.nd, p1.le, fun s => ⟨p1.rt s, fun hs => ?_⟩, p5⟩
    exact hs.mem p1.init fun x hx => by
     obtain ⟨j, j0, j1, hj⟩ := y8 hx
     exact p4 j x (by omega) hj)
 rw [h1]
 rcases o with l | o
 ·exact ⟨l, true, rfl, by simp, fun _ => h2⟩
 ·obtain ⟨rfl, h3⟩ := h2
  exact ⟨[], false, rfl, fun _ => h3, by simp⟩
theorem works_cons {t : d9} {s p : List Int} {op : Int} : G1 t s (op :: p) ↔ can t s op ∧ G1 t (aft t s op) p := by
 unfold G1
 constructor
 ·rintro ⟨e, h1, h2⟩
  simp only [ends] at h1
  split at h1
  ·rename_i hc; exact ⟨j9.1 hc, e, h1, h2⟩
  ·cases h1
 ·rintro ⟨hc, e, h1, h2⟩
  exact ⟨e, by simp only [ends]; rw [if_pos (j7 hc)]; exact h1, h2⟩
theorem works_nil {t : d9} {s : List Int} : G1 t s [] ↔ ∀ x ∈ t.goal, x ∈ s := by
 unfold G1
 constructor
 ·rintro ⟨e, h1, h2⟩; cases h1; exact h2
 ·intro h; exact ⟨s, rfl, h⟩
def sumI (v : List Int) : Nat := (v.map Int.toNat).sum
theorem sumI_set : ∀ {v : List Int} {k : Nat} {a x : Int}, v[k]? = some a → sumI (v.set k x) + a.toNat = sumI v + x.toNat
 | [], k, a, x, h => by simp at h
 | b :: v, 0, a, x, h => by
  simp at h; subst h
  simp only [sumI, List.set_cons_zero, List.map_cons, List.sum_cons]; omega
 | b :: v, k + 1, a, x, h => by
  have := sumI_set (v := v) (k := k) (a := a) (x := x) (by simpa using h)
  simp only [sumI, List.set_cons_succ, List.map_cons, List.sum_cons] at this ⊢; omega
theorem nodup_ix {S : List (List Int)} (h : S.Nodup) {i j : Int} {s : List Int} (hi : ix S i = some s) (hj : ix S j = some s) : i = j := by
 obtain ⟨i0, i1, i2⟩ := m9 hi
 obtain ⟨j0, j1, j2⟩ := m9 hj
 have := (List.getElem?_inj (i := i.toNat) (j := j.toNat) (by omega) h).1 (i2.trans j2.symm)
 omega
end Ab
end
section
namespace Ab
open Go
theorem ix_map {α β : Type} {f : α → β} {l : List α} {i : Int} : ix (l.map f) i = (ix l i).map f := by
 unfold ix; split <;> simp
theorem app8 {α : Type} {c : List α} {x : α} (h : c.length ≤ 1000000000) : app 8 c [x] = some (c ++ [x]) := by
 unfold app; rw [if_pos (by simp; omega)]
structure Cl (t : d9) (l : List (List Int)) : Prop where
 nd : l.Nodup
 len : l.length ≤ 2000
 iff : ∀ s, s ∈ l ↔ Rt t s
theorem Cl.next {t : d9} {l : List (List Int)} (h : Cl t l) {i op : Int} {s : List Int} (hi : ix l i = some s) (h0 : 0 ≤ op) (h1 : op < t.operators.length) (hc : can t s op) : ∃ k, ix l k = some (aft t s op) := by
 obtain ⟨k, _, _, hk⟩ := y8 ((h.iff _).2 (((h.iff s).1 (w5 hi)).step h0 h1 hc))
 exact ⟨k, hk⟩
theorem Cl.setN {t : d9} (ht : i6 t) {l : List (List Int)} (h : Cl t l) {i : Int} {s : List Int} (hi : ix l i = some s) : SetN s t.facts := ((h.iff s).1 (w5 hi)).setN ht
structure Cv (t : d9) (l : List (List Int)) (v : List Int) : Prop where
 len : v.length = l.length
 ok : ∀ i s x, ix l i = some s → ix v i = some x → 0 ≤ x ∧ x ≤ 1000000000 ∧ (x < 1000000000 → ∃ p, Sol t s p ∧ n9 t p = x) ∧ ((∀ y ∈ t.goal, y ∈ s) → x = 0)
def Low (t : d9) (l : List (List Int)) (v : List Int) : Prop := ∀ i s x p, ix l i = some s → ix v i = some x → Sol t s p → n9 t p < 1000000000 → x ≤ n9 t p
section
variable {t : d9} {l : List (List Int)}
theorem Cv.at {v : List Int} (h : Cv t l v) {i : Int} {s : List Int} (hi : ix l i = some s) : ∃ x, ix v i = some x := by
 obtain ⟨x, hx, _⟩ := n4 (l := v) (m9 hi).1 (by rw [h.len]; exact (m9 hi).2.1)
 exact ⟨x, hx⟩
theorem first_costs (ht : i6 t) (hl : Cl t l) : ∃ v, forR 0 (l.length : Int) (N5 t l) ([], []) = some (v, l.map wd) ∧ Cv t l v := by
 have hlen := hl.len
 obtain ⟨⟨v, w⟩, h1, h2, h3⟩ := v8 (body := N5 t l) (n := (l.length : Int)) (s := ([], []))
  (fun j c => c.1 = (l.take j.toNat).map (fun s => if dec (∀ y ∈ t.goal, y ∈ s) = true then (0 : Int) else 1000000000) ∧ c.2 = (l.take j.toNat).map wd) (by omega) (by simp) (fun j c j0 j1 hP => by
   obtain ⟨v, w⟩ := c
   obtain ⟨p1, p2⟩ := hP
   simp only at p1 p2
   obtain ⟨s, hs, gs⟩ := n4 j0 j1
   have htk : l.take (j + 1).toNat = l.take j.toNat ++ [s] := by rw [show (j + 1).toNat = j.toNat + 1 by omega, List.take_add_one, gs]; rfl
   have e1 : v.length ≤ 2000 := by rw [p1]; simp; omega
   have e2 : w.length ≤ 2000 := by rw [p2]; simp; omega
   unfold N5
   simp only [hs, oB, word_eq (hl.setN ht hs) ht.n1, subset_eq, app8 (show v.length ≤ 1000000000 by omega), app8 (show w.length ≤ 1000000000 by omega)]
   by_cases c : ∀ y ∈ t.goal, y ∈ s
   ·rw [if_pos (j7 c)]
    refine ⟨_, rfl, ?_, ?_⟩
    ·simp only [htk, List.map_append, p1, List.map_cons, List.map_nil]; rw [if_pos (j7 c)]
    ·simp only [htk, List.map_append, p2, List.map_cons, List.map_nil]; rfl
   ·rw [if_neg (by rw [s6 c]; simp)]
    refine ⟨_, rfl, ?_, ?_⟩
    ·simp only [htk, List.map_append, p1, List.map_cons, List.map_nil]; rw [if_neg (by rw [s6 c]; simp)]
    ·simp only [htk, List.map_append, p2, List.map_cons, List.map_nil]; rfl)
 rw [Int.toNat_natCast, List.take_length] at h2 h3
 simp only at h2 h3
 subst h2 h3
 refine ⟨_, h1, by simp, fun i s x hs hx => ?_⟩
 rw [ix_map, hs] at hx
 simp only [Option.map_some, Option.some.injEq] at hx
 by_cases c : ∀ y ∈ t.goal, y ∈ s
 ·rw [if_pos (j7 c)] at hx
  subst hx
  exact ⟨by omega, by omega, fun _ => ⟨[], ⟨by simp [Val], works_nil.2 c⟩, rfl⟩, fun _ => rfl⟩
 ·rw [if_neg (by rw [s6 c]; simp)] at hx
  subst hx
  exact ⟨by omega, by omega, fun h => by omega, fun h => absurd h c⟩
/-! ### Arcs -/
abbrev Arc := Int × Int × Int
def fr (A : List Arc) : List Int := A.map (·.1)
def tt (A : List Arc) : List Int := A.map (·.2.1)
def cc (A : List Arc) : List Int := A.map (·.2.2)
theorem arcs_k (ht : i6 t) (hl : Cl t l) {i op : Int} {s : List Int} (hs : ix l i = some s) (h0 : 0 ≤ op) (h1 : op < t.operators.length) {A : List Arc} {N : Nat} (hA : A.length ≤ N) (hN : N ≤ 900000000) :
  ∃ B : List Arc, forR 0 ((l.map wd).length : Int) (H8 t (l.map wd) i op (wd (aft t s op))) (fr A, tt A, cc A) = some (fr B, tt B, cc B) ∧ B.length ≤ N + 2000 ∧ ∀ a, a ∈ B ↔ a ∈ A ∨ ∃ k, ix l k = some (aft t s op) ∧ a = (i, k, (opAt t op).cost) := by
 have hlen := hl.len
 rw [List.length_map]
 obtain ⟨c, h1, B, rfl, h2, h3⟩ := v8 (body := H8 t (l.map wd) i op (wd (aft t s op))) (n := (l.length : Int)) (s := (fr A, tt A, cc A))
  (fun j c => ∃ B : List Arc, c = (fr B, tt B, cc B) ∧ (B.length : Int) ≤ N + j ∧ ∀ a, a ∈ B ↔ a ∈ A ∨ ∃ k, k < j ∧ ix l k = some (aft t s op) ∧ a = (i, k, (opAt t op).cost)) (by omega)
  ⟨A, rfl, by omega, fun a => ⟨.inl, fun h => h.elim id fun ⟨k, k1, k2, _⟩ => by have := (m9 k2).1; omega⟩⟩ (fun j c j0 j1 hP => by
   obtain ⟨B, rfl, p1, p2⟩ := hP
   obtain ⟨x, hx, _⟩ := n4 j0 j1
   have hw : ix (l.map wd) j = some (wd x) := by rw [ix_map, hx]; rfl
   unfold H8
   simp only [hw, oB, R5 h0 h1]
   have l1 : (fr B).length ≤ 1000000000 := by simp [fr]; omega
   have l2 : (tt B).length ≤ 1000000000 := by simp [tt]; omega
   have l3 : (cc B).length ≤ 1000000000 := by simp [cc]; omega
   simp only [app8 l1, app8 l2, app8 l3, oB]
   by_cases e : x = aft t s op
   ·rw [if_pos (by rw [e])]
    refine ⟨_, rfl, B ++ [(i, j, (opAt t op).cost)], by simp [fr, tt, cc], by simp; omega, fun a => ?_⟩
    rw [List.mem_append, List.mem_singleton, p2, or_assoc]
    refine or_congr_right ⟨?_, ?_⟩
    ·rintro (⟨k, k1, k2⟩ | rfl)
     ·exact ⟨k, by omega, k2⟩
     ·exact ⟨j, by omega, by rw [hx, e], rfl⟩
    ·rintro ⟨k, k1, k2, k3⟩
     by_cases q : k = j
     ·subst q; exact .inr k3
     ·exact .inl ⟨k, by omega, k2, k3⟩
   ·rw [if_neg fun q => e (wd_inj ht (hl.setN ht hx) (U7 t s op) q)]
    refine ⟨_, rfl, B, rfl, by omega, fun a => ?_⟩
    rw [p2]
    refine or_congr_right ⟨?_, ?_⟩
    ·rintro ⟨k, k1, k2⟩; exact ⟨k, by omega, k2⟩
    ·rintro ⟨k, k1, k2, k3⟩
     by_cases q : k = j
     ·subst q; rw [hx] at k2; cases k2; exact absurd rfl e
     ·exact ⟨k, by omega, k2, k3⟩)
 refine ⟨B, h1, by omega, fun a => (h3 a).trans (or_congr_right ⟨?_, ?_⟩)⟩
 ·rintro ⟨k, _, k2⟩; exact ⟨k, k2⟩
 ·rintro ⟨k, k2⟩; exact ⟨k, (m9 k2.1).2.1, k2⟩
def ArcAt (t : d9) (l : List (List Int)) (i op : Int) (a : Arc) : Prop := ∃ s k, ix l i = some s ∧ can t s op ∧ ix l k = some (aft t s op) ∧ a = (i, k, (opAt t op).cost)
theorem arcs_op (ht : i6 t) (hl : Cl t l) {i : Int} {s : List Int} (hs : ix l i = some s) {A : List Arc} {N : Nat} (hA : A.length ≤ N) (hN : N ≤ 800000000) :
  ∃ B : List Arc, forR 0 (t.operators.length : Int) (M9 t l (l.map wd) i) (fr A, tt A, cc A) = some (fr B, tt B, cc B) ∧ B.length ≤ N + 80000 ∧ ∀ a, a ∈ B ↔ a ∈ A ∨ ∃ op : Int, 0 ≤ op ∧ op < t.operators.length ∧ ArcAt t l i op a := by
 have hops := ht.ops
 obtain ⟨c, h1, B, rfl, h2, h3⟩ := v8 (body := M9 t l (l.map wd) i) (n := (t.operators.length : Int)) (s := (fr A, tt A, cc A))
  (fun j c => ∃ B : List Arc, c = (fr B, tt B, cc B) ∧ (B.length : Int) ≤ N + j * 2000 ∧ ∀ a, a ∈ B ↔ a ∈ A ∨ ∃ op : Int, 0 ≤ op ∧ op < j ∧ ArcAt t l i op a) (by omega)
  ⟨A, rfl, by omega, fun a => ⟨.inl, fun h => h.elim id fun ⟨k, k1, k2, _⟩ => by omega⟩⟩ (fun j c j0 j1 hP => by
   obtain ⟨B, rfl, p1, p2⟩ := hP
   unfold M9
   simp only [hs, oB, ad0 j0 j1, aj5 ht j0 j1, word_eq (U7 t s j) ht.n1]
   by_cases hc : can t s j
   ·rw [if_pos (j7 hc)]
    obtain ⟨C, c1, c2, c3⟩ := arcs_k ht hl hs j0 j1 (A := B) (N := (N + j * 2000).toNat) (by omega) (by omega)
    have c1' : forR 0 ((l.map wd).length : Int) (H8 t (l.map wd) i j (wsN (aft t s j) : Int)) (fr B, tt B, cc B) = some (fr C, tt C, cc C) := c1
    simp only [c1', oB]
    refine ⟨_, rfl, C, rfl, by omega, fun a => ?_⟩
    rw [c3, p2, or_assoc]
    refine or_congr_right ⟨?_, ?_⟩
    ·rintro (⟨op, o1, o2, o3⟩ | ⟨k, k1, k2⟩)
     ·exact ⟨op, o1, by omega, o3⟩
     ·exact ⟨j, j0, by omega, s, k, hs, hc, k1, k2⟩
    ·rintro ⟨op, o1, o2, o3⟩
     by_cases q : op = j
     ·subst q
      obtain ⟨s', k, q1, q2, q3, q4⟩ := o3
      rw [hs] at q1; cases q1
      exact .inr ⟨k, q3, q4⟩
     ·exact .inl ⟨op, o1, by omega, o3⟩
   ·rw [if_neg (by rw [s6 hc]; simp)]
    refine ⟨_, rfl, B, rfl, by omega, fun a => ?_⟩
    rw [p2]
    refine or_congr_right ⟨?_, ?_⟩
    ·rintro ⟨op, o1, o2, o3⟩; exact ⟨op, o1, by omega, o3⟩
    ·rintro ⟨op, o1, o2, o3⟩
     by_cases q : op = j
     ·subst q
      obtain ⟨s', k, q1, q2, q3, q4⟩ := o3
      rw [hs] at q1; cases q1
      exact absurd q2 hc
     ·exact ⟨op, o1, by omega, o3⟩)
 exact ⟨B, h1, by omega, h3⟩
theorem arcs_ok (ht : i6 t) (hl : Cl t l) :
  ∃ B : List Arc, forR 0 (l.length : Int) (N4 t l (l.map wd)) ([], [], []) = some (fr B, tt B, cc B) ∧ ∀ a, a ∈ B ↔ ∃ i op : Int, 0 ≤ op ∧ op < t.operators.length ∧ ArcAt t l i op a := by
 have hlen := hl.len
 obtain ⟨c, h1, B, rfl, h2, h3⟩ := v8 (body := N4 t l (l.map wd)) (n := (l.length : Int)) (s := (fr [], tt [], cc []))
  (fun j c => ∃ B : List Arc, c = (fr B, tt B, cc B) ∧ (B.length : Int) ≤ j * 80000 ∧ ∀ a, a ∈ B ↔ ∃ i op : Int, i < j ∧ 0 ≤ op ∧ op < t.operators.length ∧ ArcAt t l i op a) (by omega)
  ⟨[], rfl, by simp, fun a => ⟨fun h => by simp at h, fun ⟨i, op, h, _, _, s, k, q, _⟩ => by have := (m9 q).1; omega⟩⟩ (fun j c j0 j1 hP => by
   obtain ⟨B, rfl, p1, p2⟩ := hP
   obtain ⟨s, hs, _⟩ := n4 j0 j1
   obtain ⟨C, c1, c2, c3⟩ := arcs_op ht hl hs (A := B) (N := (j * 80000).toNat) (by omega) (by omega)
   unfold N4
   simp only [c1, oB]
   refine ⟨_, rfl, C, rfl, by omega, fun a => ?_⟩
   rw [c3, p2]
   constructor
   ·rintro (⟨i, op, q1, q2⟩ | ⟨op, q2⟩)
    ·exact ⟨i, op, by omega, q2⟩
    ·exact ⟨j, op, by omega, q2⟩
   ·rintro ⟨i, op, q1, q2⟩
    by_cases q : i = j
    ·subst q; exact .inr ⟨op, q2⟩
    ·exact .inl ⟨i, op, by omega, q2⟩)
 exact ⟨B, h1, fun a => (h3 a).trans ⟨fun ⟨i, op, _, q⟩ => ⟨i, op, q⟩, fun ⟨i, op, q0, q1, s, k, q, q'⟩ => ⟨i, op, (m9 q).2.1, q0, q1, s, k, q, q'⟩⟩⟩
/-! ### Setting right -/
def FixA (v : List Int) (a : Arc) : Prop := ∀ xi xk, ix v a.1 = some xi → ix v a.2.1 = some xk → xk < 1000000000 → xi ≤ xk + a.2.2
theorem sweepA (ht : i6 t) {A : List Arc} (hA : ∀ a ∈ A, ∃ i op : Int, 0 ≤ op ∧ op < t.operators.length ∧ ArcAt t l i op a) {v : List Int} (h : Cv t l v) :
  ∃ v2 ag2, forR 0 ((fr A).length : Int) (N0 (fr A) (tt A) (cc A)) (v, false) = some (v2, ag2) ∧ Cv t l v2 ∧ ((ag2 = false ∧ v2 = v ∧ ∀ a ∈ A, FixA v a) ∨ (ag2 = true ∧ sumI v2 < sumI v)) := by
 have hf : (fr A).length = A.length := by simp [fr]
 rw [hf]
 obtain ⟨⟨v2, ag2⟩, h1, h2, h3⟩ := v8 (body := N0 (fr A) (tt A) (cc A)) (n := (A.length : Int)) (s := (v, false))
  (fun j c => Cv t l c.1 ∧ ((c.2 = false ∧ c.1 = v ∧ ∀ i a, i < j → ix A i = some a → FixA v a) ∨ (c.2 = true ∧ sumI c.1 < sumI v))) (by omega)
  ⟨h, .inl ⟨rfl, rfl, fun i a hi ha => by have := (m9 ha).1; omega⟩⟩ (fun j c j0 j1 hP => by
   obtain ⟨w, ag⟩ := c
   obtain ⟨p1, p2⟩ := hP
   simp only at p1 p2
   obtain ⟨a, ha, _⟩ := n4 j0 j1
   obtain ⟨i, op, o0, o1, s, k, q1, q2, q3, rfl⟩ := hA a (w5 ha)
   obtain ⟨xi, hxi⟩ := p1.at q1
   obtain ⟨xk, hxk⟩ := p1.at q3
   obtain ⟨bi0, bi1, bi2, bi3⟩ := p1.ok i s xi q1 hxi
   obtain ⟨bk0, bk1, bk2, _⟩ := p1.ok k _ xk q3 hxk
   have hco := (J8 ht o0 o1).2
   have e1 : ix (fr A) j = some i := by unfold fr; rw [ix_map, ha]; rfl
   have e2 : ix (tt A) j = some k := by unfold tt; rw [ix_map, ha]; rfl
   have e3 : ix (cc A) j = some (opAt t op).cost := by unfold cc; rw [ix_map, ha]; rfl
   have hw : w64 (xk + (opAt t op).cost) = xk + (opAt t op).cost := x6 (by have := hco.1; omega) (by have := hco.2; omega)
   unfold N0
   simp only [e1, e2, e3, hxi, hxk, oB, hw]
   by_cases c : xk < 1000000000 ∧ xk + (opAt t op).cost < xi
   ·obtain ⟨c1, c2⟩ := c
    simp only [if_pos c1, oB, decide_eq_true c2, if_true]
    obtain ⟨i0, i1, gi⟩ := m9 hxi
    have hs := sumI_set (x := xk + (opAt t op).cost) gi
    have hc0 := hco.1
    refine ⟨_, rfl, ⟨by simp [p1.len], fun i' s' x' hs' hx' => ?_⟩, .inr ⟨rfl, ?_⟩⟩
    ·have j0' := (m9 hs').1
     rw [Q8 i0 i1 j0'] at hx'
     by_cases e : i' = i
     ·subst e
      rw [if_pos rfl] at hx'; cases hx'
      rw [q1] at hs'; cases hs'
      refine ⟨by omega, by omega, fun _ => ?_, fun g => by have := bi3 g; omega⟩
      obtain ⟨p, ⟨pv, pw⟩, pc⟩ := bk2 c1
      refine ⟨op :: p, ⟨fun y hy => ?_, works_cons.2 ⟨q2, pw⟩⟩, by simp only [n9, pc]⟩
      rcases List.mem_cons.1 hy with rfl | hy
      ·exact ⟨o0, o1⟩
      ·exact pv y hy
     ·rw [if_neg e] at hx'
      exact p1.ok i' s' x' hs' hx'
    ·simp only
     have : sumI w ≤ sumI v := by
      rcases p2 with ⟨_, rfl, _⟩ | ⟨_, p2⟩ <;> omega
     omega
   ·have ef : (if xk < 1000000000 then some (decide (xk + (opAt t op).cost < xi)) else some false) = some false := by
     by_cases c1 : xk < 1000000000
     ·rw [if_pos c1, decide_eq_false fun q => c ⟨c1, q⟩]
     ·rw [if_neg c1]
    rw [ef]
    simp only [oB, Bool.false_eq_true, if_false]
    refine ⟨_, rfl, p1, p2.imp (fun ⟨a1, a2, a3⟩ => ⟨a1, a2, fun i' a' hi' ha' => ?_⟩) id⟩
    by_cases e : i' = j
    ·subst e
     rw [ha] at ha'; cases ha'
     subst a2
     intro yi yk y1 y2 y3
     simp only at y1 y2
     rw [hxi] at y1; rw [hxk] at y2; cases y1; cases y2
     simp only; omega
    ·exact a3 i' a' (by omega) ha')
 refine ⟨v2, ag2, h1, h2, h3.imp (fun ⟨a1, a2, a3⟩ => ⟨a1, a2, fun a ha => ?_⟩) id⟩
 obtain ⟨i, _, i1, hi⟩ := y8 ha
 exact a3 i a i1 hi
theorem fixA (ht : i6 t) {A : List Arc} (hA : ∀ a ∈ A, ∃ i op : Int, 0 ≤ op ∧ op < t.operators.length ∧ ArcAt t l i op a) {v : List Int} (h : Cv t l v) :
  ∃ v2, Loop (N1 (fr A) (tt A) (cc A)) (v, true) = some v2 ∧ Cv t l v2 ∧ ∀ a ∈ A, FixA v2 a := by
 obtain ⟨o, h1, h2⟩ := M6 (body := N1 (fr A) (tt A) (cc A)) (s := (v, true))
  (fun s => Cv t l s.1 ∧ (s.2 = false → ∀ a ∈ A, FixA s.1 a)) (fun o => Cv t l o ∧ ∀ a ∈ A, FixA o a) (fun s => 2 * sumI s.1 + s.2.toNat) ⟨h, by simp⟩ (by
   rintro ⟨v, ag⟩ ⟨p1, p2⟩
   unfold N1
   cases ag with
   | false => exact .inr ⟨v, by simp, p1, p2 rfl⟩
   | true =>
    obtain ⟨v3, ag3, k1, k2, k3⟩ := sweepA ht hA p1
    simp only [if_true, k1, oB]
    refine .inl ⟨_, rfl, ⟨k2, fun e => ?_⟩, ?_⟩
    ·rcases k3 with ⟨_, rfl, k3⟩ | ⟨k3, _⟩
     ·exact k3
     ·simp only at e; rw [k3] at e; cases e
    ·rcases k3 with ⟨rfl, rfl, _⟩ | ⟨rfl, k3⟩
     ·simp only [Bool.toNat_true, Bool.toNat_false]; omega
     ·simp only [Bool.toNat_true] at k3 ⊢; omega)
 exact ⟨o, h1, h2⟩
theorem low_of (ht : i6 t) (hl : Cl t l) {v : List Int} (h : Cv t l v) (hf : ∀ (i op : Int) a, 0 ≤ op → op < t.operators.length → ArcAt t l i op a → FixA v a) : Low t l v := by
 intro i s x p
 induction p generalizing i s x with
 | nil =>
  intro hs hx hp _
  have := (h.ok i s x hs hx).2.2.2 (works_nil.1 hp.2)
  simp [n9]; omega
 | cons op p ih =>
  intro hs hx hp hb
  have hv := hp.1 op (by simp)
  have hv' : Val t p := fun y hy => hp.1 y (List.mem_cons_of_mem _ hy)
  have hw := works_cons.1 hp.2
  have hco := (J8 ht hv.1 hv.2).2.1
  obtain ⟨k, hk⟩ := hl.next hs hv.1 hv.2 hw.1
  obtain ⟨y, hy⟩ := h.at hk
  simp only [n9] at hb ⊢
  have h1 := ih k _ y hk hy ⟨hv', hw.2⟩ (by omega)
  have := hf i op _ hv.1 hv.2 ⟨s, k, hs, hw.1, hk, rfl⟩ x y hx hy (by omega)
  simp only at this
  omega
theorem rcosts_ok (ht : i6 t) (hl : Cl t l) : ∃ v, S1 t l = some v ∧ Cv t l v ∧ Low t l v := by
 obtain ⟨v, v1, v2⟩ := first_costs ht hl
 obtain ⟨A, a1, a2⟩ := arcs_ok ht hl
 obtain ⟨w, w1, w2, w3⟩ := fixA ht (fun a ha => (a2 a).1 ha) v2
 refine ⟨w, ?_, w2, low_of ht hl w2 fun i op a o0 o1 ha => w3 a ((a2 a).2 ⟨i, op, o0, o1, ha⟩)⟩
 unfold S1
 simp only [v1, oB, a1, w1]
theorem Cv.lc {v : List Int} (h : Cv t l v) (hlow : Low t l v) {i k x : Int} {s : List Int} (hs : ix l i = some s) (hx : ix v i = some x) (hk : LC t (Sol t s) k) : x = k := by
 obtain ⟨b0, b1, b2, _⟩ := h.ok i s x hs hx
 obtain ⟨a1, a2, ⟨a3, a4⟩ | ⟨a3, p, a4, a5⟩⟩ := hk
 ·by_cases c : x < 1000000000
  ·obtain ⟨p, p1, _⟩ := b2 c; exact absurd p1 (a4 p)
  ·omega
 ·have h1 := hlow i s x p hs hx a4 (by omega)
  obtain ⟨q, q1, q2⟩ := b2 (by omega)
  have := a1 q q1
  omega
theorem best_ok (ht : i6 t) (hm : ¬ Many t) {k : Int} (hk : LC t (Sol t t.init) k) : X0 t = some k := by
 obtain ⟨l, b, h1, h2, h3⟩ := al8 ht
 cases b with
 | false => exact absurd (h2 rfl) hm
 | true =>
  obtain ⟨k1, k2, k3, k4⟩ := h3 rfl
  obtain ⟨v, v1, v2, v3⟩ := rcosts_ok ht ⟨k1, k2, k3⟩
  obtain ⟨x, hx⟩ := v2.at k4
  have := v2.lc v3 k4 hx hk
  subst this
  unfold X0
  simp [h1, v1, hx]
end
end Ab
end
section
namespace Ab
open Go
section
variable {t : d9} {l : List (List Int)}
def Way (t : d9) (s p : List Int) : Prop := Val t p ∧ ends t t.init p = some s
structure Ov (t : d9) (l : List (List Int)) (v : List Int) : Prop where
 len : v.length = l.length
 ok : ∀ i s x, ix l i = some s → ix v i = some x → 0 ≤ x ∧ x ≤ 1000000000 ∧ (x < 1000000000 → ∃ p, Way t s p ∧ n9 t p = x) ∧ (s = t.init → x = 0)
theorem Ov.at {v : List Int} (h : Ov t l v) {i : Int} {s : List Int} (hi : ix l i = some s) : ∃ x, ix v i = some x := by
 obtain ⟨x, hx, _⟩ := n4 (l := v) (m9 hi).1 (by rw [h.len]; exact (m9 hi).2.1)
 exact ⟨x, hx⟩
theorem out_first (hl : Cl t l) : ∃ v, forR 0 (l.length : Int) (J4 t l) (List.replicate l.length 0) = some v ∧ Ov t l v := by
 obtain ⟨v, h1, h2, h3⟩ := v8 (body := J4 t l) (n := (l.length : Int)) (s := List.replicate l.length 0)
  (fun j c => c.length = l.length ∧ ∀ i s x, ix l i = some s → ix c i = some x → x = if i < j ∧ s ≠ t.init then 1000000000 else 0) (by omega)
  ⟨by simp, fun i s x hs hx => by
   rw [if_neg (by have := (m9 hs).1; omega)]
   have := w5 hx
   exact List.eq_of_mem_replicate this⟩ (fun j c j0 j1 hP => by
   obtain ⟨p1, p2⟩ := hP
   obtain ⟨s, hs, _⟩ := n4 j0 j1
   obtain ⟨x, hx, _⟩ := n4 (l := c) j0 (by omega)
   unfold J4
   simp only [hs, hx, oB, ints_eq, O2]
   by_cases e : s = t.init
   ·rw [if_neg (by simp [e])]
    refine ⟨_, rfl, p1, fun i s' x' hs' hx' => ?_⟩
    rw [p2 i s' x' hs' hx']
    by_cases q : i = j
    ·subst q; rw [hs] at hs'; cases hs'; simp [e]
    ·have : (i < j + 1) ↔ i < j := by omega
     simp only [this]
   ·rw [if_pos (by simp [e])]
    refine ⟨_, rfl, by simp [p1], fun i s' x' hs' hx' => ?_⟩
    rw [Q8 j0 (by omega) (m9 hs').1] at hx'
    by_cases q : i = j
    ·subst q; rw [hs] at hs'; cases hs'
     rw [if_pos rfl] at hx'; cases hx'
     rw [if_pos ⟨by omega, e⟩]
    ·rw [if_neg q] at hx'
     rw [p2 i s' x' hs' hx']
     have : (i < j + 1) ↔ i < j := by omega
     simp only [this])
 refine ⟨v, h1, h2, fun i s x hs hx => ?_⟩
 have := h3 i s x hs hx
 by_cases e : s = t.init
 ·rw [if_neg (by simp [e])] at this
  subst this
  exact ⟨by omega, by omega, fun _ => ⟨[], ⟨by simp [Val], by rw [e]; rfl⟩, rfl⟩, fun _ => rfl⟩
 ·rw [if_pos ⟨(m9 hs).2.1, e⟩] at this
  subst this
  exact ⟨by omega, by omega, fun h => by omega, fun h => absurd h e⟩
def FixO (t : d9) (l : List (List Int)) (v : List Int) (i op : Int) : Prop := ∀ s k xi xk, ix l i = some s → can t s op → ix l k = some (aft t s op) → ix v i = some xi → ix v k = some xk → xi < 1000000000 → xk ≤ xi + (opAt t op).cost
def Ost (t : d9) (l : List (List Int)) (v w : List Int) (ag : Bool) (did : Int → Int → Prop) : Prop :=
 Ov t l w ∧ ((ag = false ∧ w = v ∧ ∀ i op, did i op → FixO t l v i op) ∨ (ag = true ∧ sumI w < sumI v))
theorem out_row (ht : i6 t) (hl : Cl t l) {v w : List Int} {ag : Bool} {i : Int} {s : List Int} {did : Int → Int → Prop} (hs : ix l i = some s) (h : Ost t l v w ag did) :
  ∃ w2 ag2, Loop (J5 t l i) (w, ag, 0) = some (w2, ag2) ∧ Ost t l v w2 ag2 (fun i' op => did i' op ∨ i' = i ∧ 0 ≤ op ∧ op < t.operators.length) := by
 have hops := ht.ops
 obtain ⟨⟨w2, ag2⟩, h1, h2⟩ := M6 (body := J5 t l i) (s := (w, ag, 0))
  (fun c => 0 ≤ c.2.2 ∧ c.2.2 ≤ t.operators.length ∧ Ost t l v c.1 c.2.1 (fun i' op => did i' op ∨ i' = i ∧ 0 ≤ op ∧ op < c.2.2))
  (fun o => Ost t l v o.1 o.2 (fun i' op => did i' op ∨ i' = i ∧ 0 ≤ op ∧ op < t.operators.length)) (fun c => t.operators.length - c.2.2.toNat)
  ⟨by simp, by simp, h.1, h.2.imp (fun ⟨a, b, c⟩ => ⟨a, b, fun i' op q => q.elim (c i' op) fun q => by simp only at q; omega⟩) id⟩ (by
   rintro ⟨c, ag, op⟩ ⟨p0, p1, p2, p3⟩
   simp only at p0 p1 p2 p3
   obtain ⟨xi, hxi⟩ := p2.at hs
   obtain ⟨bi0, bi1, bi2, bi3⟩ := p2.ok i s xi hs hxi
   unfold J5
   by_cases c1 : op < (t.operators.length : Int)
   ·by_cases c2 : xi < 1000000000
    ·have hstep : w64 (op + 1) = op + 1 := x6 (by omega) (by omega)
     simp only [if_pos c1, hxi, oB, decide_eq_true c2, if_true, hs, ad0 p0 c1, O2]
     by_cases hc : can t s op
     ·rw [if_neg (by simp [hc])]
      obtain ⟨k, hk, hkk⟩ := place_eq l (aft t s op)
      have hkk : ix l k = some (aft t s op) := by
       rcases hkk with ⟨_, q⟩ | ⟨_, _, q, _⟩
       ·obtain ⟨k', hk'⟩ := hl.next hs p0 c1 hc
        exact absurd (w5 hk') q
       ·exact q
      obtain ⟨xk, hxk⟩ := p2.at hkk
      obtain ⟨bk0, bk1, bk2, bk3⟩ := p2.ok k _ xk hkk hxk
      have hco := (J8 ht p0 c1).2
      have hw : w64 (xi + (opAt t op).cost) = xi + (opAt t op).cost := x6 (by have := hco.1; omega) (by have := hco.2; omega)
      simp only [aj5 ht p0 c1, hk, hxk, R5 p0 c1, oB, hw]
      by_cases c3 : xi + (opAt t op).cost < xk
      ·rw [if_pos c3]
       obtain ⟨k0, k1, gk⟩ := m9 hxk
       have hsum := sumI_set (x := xi + (opAt t op).cost) gk
       have hc0 := hco.1
       refine .inl ⟨_, rfl, ⟨by simp only [hstep]; omega, by simp only [hstep]; omega, ⟨by simp [p2.len], fun i' s' x' hs' hx' => ?_⟩, .inr ⟨rfl, ?_⟩⟩, by simp only [hstep]; omega⟩
       ·rw [Q8 k0 k1 (m9 hs').1] at hx'
        by_cases e : i' = k
        ·subst e
         rw [if_pos rfl] at hx'; cases hx'
         rw [hkk] at hs'; cases hs'
         refine ⟨by omega, by omega, fun _ => ?_, fun g => by have := bk3 g; omega⟩
         obtain ⟨p, ⟨pv, pw⟩, pc⟩ := bi2 c2
         refine ⟨p ++ [op], ⟨fun y hy => ?_, ?_⟩, by rw [P4, pc]; simp [n9]⟩
         ·rcases List.mem_append.1 hy with hy | hy
          ·exact pv y hy
          ·simp at hy; subst hy; exact ⟨p0, c1⟩
         ·rw [O0, pw]
          simp only [oB, ends]
          rw [if_pos (j7 hc)]
        ·rw [if_neg e] at hx'
         exact p2.ok i' s' x' hs' hx'
       ·have : sumI c ≤ sumI v := by
         rcases p3 with ⟨_, rfl, _⟩ | ⟨_, p3⟩ <;> omega
        simp only; omega
      ·rw [if_neg c3]
       refine .inl ⟨_, rfl, ⟨by simp only [hstep]; omega, by simp only [hstep]; omega, p2, p3.imp (fun ⟨a1, a2, a3⟩ => ⟨a1, a2, fun i' op' q => ?_⟩) id⟩, by simp only [hstep]; omega⟩
       simp only [hstep] at q
       by_cases e : i' = i ∧ op' = op
       ·obtain ⟨rfl, rfl⟩ := e
        subst a2
        intro s' k' yi yk g1 g2 g3 g4 g5 g6
        rw [hs] at g1; cases g1
        have : k' = k := nodup_ix hl.nd g3 hkk
        subst this
        rw [hxi] at g4; rw [hxk] at g5; cases g4; cases g5
        omega
       ·exact a3 i' op' (q.imp id fun q => ⟨q.1, q.2.1, by
         have : op' ≠ op := fun h => e ⟨q.1, h⟩
         omega⟩)
     ·rw [if_pos (by simp [hc])]
      refine .inl ⟨_, rfl, ⟨by simp only [hstep]; omega, by simp only [hstep]; omega, p2, p3.imp (fun ⟨a1, a2, a3⟩ => ⟨a1, a2, fun i' op' q => ?_⟩) id⟩, by simp only [hstep]; omega⟩
      simp only [hstep] at q
      by_cases e : i' = i ∧ op' = op
      ·obtain ⟨rfl, rfl⟩ := e
       intro s' k' yi yk g1 g2
       rw [hs] at g1; cases g1
       exact absurd g2 hc
      ·exact a3 i' op' (q.imp id fun q => ⟨q.1, q.2.1, by
        have : op' ≠ op := fun h => e ⟨q.1, h⟩
        omega⟩)
    ·simp only [if_pos c1, hxi, oB, decide_eq_false c2, Bool.false_eq_true, if_false]
     refine .inr ⟨_, rfl, p2, p3.imp (fun ⟨a1, a2, a3⟩ => ⟨a1, a2, fun i' op' q => ?_⟩) id⟩
     rcases q with q | ⟨rfl, _⟩
     ·exact a3 i' op' (.inl q)
     ·subst a2
      intro s' k' yi yk g1 g2 g3 g4 g5 g6
      rw [hxi] at g4; cases g4; exact absurd g6 c2
   ·simp only [if_neg c1, oB, Bool.false_eq_true, if_false]
    have : op = t.operators.length := by omega
    subst this
    exact .inr ⟨_, rfl, p2, p3⟩)
 exact ⟨w2, ag2, h1, h2⟩
theorem out_sweep (ht : i6 t) (hl : Cl t l) {v : List Int} (h : Ov t l v) :
  ∃ v2 ag2, forR 0 (l.length : Int) (I9 t l) (v, false) = some (v2, ag2) ∧ Ost t l v v2 ag2 (fun i op => i < l.length ∧ 0 ≤ op ∧ op < t.operators.length) := by
 obtain ⟨⟨v2, ag2⟩, h1, h2⟩ := v8 (body := I9 t l) (n := (l.length : Int)) (s := (v, false))
  (fun j c => Ost t l v c.1 c.2 (fun i op => i < j ∧ 0 ≤ i ∧ 0 ≤ op ∧ op < t.operators.length)) (by omega)
  ⟨h, .inl ⟨rfl, rfl, fun i op q => by omega⟩⟩ (fun j c j0 j1 hP => by
   obtain ⟨w, ag⟩ := c
   obtain ⟨s, hs, _⟩ := n4 j0 j1
   obtain ⟨w2, ag2, k1, k2, k3⟩ := out_row ht hl hs hP
   unfold I9
   simp only [k1, oB]
   refine ⟨_, rfl, k2, k3.imp (fun ⟨a1, a2, a3⟩ => ⟨a1, a2, fun i op q => a3 i op ?_⟩) id⟩
   by_cases e : i = j
   ·exact .inr ⟨e, q.2.2⟩
   ·exact .inl ⟨by omega, q.2⟩)
 refine ⟨v2, ag2, h1, h2.1, h2.2.imp (fun ⟨a1, a2, a3⟩ => ⟨a1, a2, fun i op q => ?_⟩) id⟩
 by_cases c : 0 ≤ i
 ·exact a3 i op ⟨q.1, c, q.2⟩
 ·intro s k xi xk g1; have := (m9 g1).1; omega
theorem out_low (ht : i6 t) (hl : Cl t l) {v : List Int} (h : Ov t l v) (hf : ∀ i op : Int, i < (l.length : Int) → 0 ≤ op → op < t.operators.length → FixO t l v i op) : ∀ (n : Nat) (p s : List Int) (i x : Int), p.length = n → Way t s p → n9 t p < 1000000000 → ix l i = some s → ix v i = some x → x ≤ n9 t p := by
 intro n
 induction n with
 | zero =>
  intro p s i x hn hp _ hi hx
  have : p = [] := List.eq_nil_of_length_eq_zero hn
  subst this
  have e : s = t.init := by have := hp.2; simp only [ends, Option.some.injEq] at this; exact this.symm
  have := (h.ok i s x hi hx).2.2.2 e
  simp [n9]; omega
 | succ n ih =>
  intro p s i x hn hp hb hi hx
  rcases List.eq_nil_or_concat p with rfl | ⟨q, op, rfl⟩
  ·simp at hn
  ·rw [List.concat_eq_append] at hn hp hb ⊢
   have hv : Val t q := fun y hy => hp.1 y (List.mem_append_left _ hy)
   have ho := hp.1 op (by simp)
   have he := hp.2
   rw [O0] at he
   cases e : ends t t.init q with
   | none => rw [e] at he; cases he
   | some s' =>
    rw [e] at he
    simp only [oB, ends] at he
    split at he
    ·rename_i hc
     have hc := j9.1 hc
     simp only [Option.some.injEq] at he
     have hr : Rt t s' := Rt.init.ends hv e
     obtain ⟨i', _, hi0, hi'⟩ := y8 ((hl.iff _).2 hr)
     obtain ⟨x', hx'⟩ := h.at hi'
     have hco := (J8 ht ho.1 ho.2).2.1
     rw [P4] at hb ⊢
     simp only [n9] at hb ⊢
     have h1 := ih q s' i' x' (by simpa using hn) ⟨hv, e⟩ (by omega) hi' hx'
     have := hf i' op hi0 ho.1 ho.2 s' i x' x hi' hc (by rw [he]; exact hi) hx' hx (by omega)
     omega
    ·cases he
theorem outward_ok (ht : i6 t) (hl : Cl t l) : ∃ v, R1 t l = some v ∧ Ov t l v ∧ ∀ p s i x, Way t s p → n9 t p < 1000000000 → ix l i = some s → ix v i = some x → x ≤ n9 t p := by
 have hlen := hl.len
 obtain ⟨v, v1, v2⟩ := out_first hl
 obtain ⟨w, w1, w2, w3⟩ := M6 (body := P2 t l) (s := (v, true))
  (fun s => Ov t l s.1 ∧ (s.2 = false → ∀ i op : Int, i < (l.length : Int) → 0 ≤ op → op < t.operators.length → FixO t l s.1 i op)) (fun o => Ov t l o ∧ ∀ i op : Int, i < (l.length : Int) → 0 ≤ op → op < t.operators.length → FixO t l o i op) (fun s => 2 * sumI s.1 + s.2.toNat) ⟨v2, by simp⟩ (by
   rintro ⟨v, ag⟩ ⟨p1, p2⟩
   unfold P2
   cases ag with
   | false => exact .inr ⟨v, by simp, p1, p2 rfl⟩
   | true =>
    obtain ⟨v3, ag3, k1, k2, k3⟩ := out_sweep ht hl p1
    simp only [if_true, k1, oB]
    refine .inl ⟨_, rfl, ⟨k2, fun e => ?_⟩, ?_⟩
    ·rcases k3 with ⟨_, rfl, k3⟩ | ⟨k3, _⟩
     ·exact fun i op a b c => k3 i op ⟨a, b, c⟩
     ·simp only at e; rw [k3] at e; cases e
    ·rcases k3 with ⟨rfl, rfl, _⟩ | ⟨rfl, k3⟩
     ·simp only [Bool.toNat_true, Bool.toNat_false]; omega
     ·simp only [Bool.toNat_true] at k3 ⊢; omega)
 refine ⟨w, ?_, w2, fun p s i x hp hb hi hx => out_low ht hl w2 w3 _ p s i x rfl hp hb hi hx⟩
 unfold R1
 have hmk : mkL 8 (l.length : Int) (0 : Int) = some (List.replicate l.length 0) := by rw [mkL, if_pos ⟨by omega, by omega, by omega⟩]; simp
 simp only [hmk, v1, w1, oB]
theorem using_ok (ht : i6 t) (hl : Cl t l) {op : Int} (h0 : 0 ≤ op) (h1 : op < t.operators.length) {k : Int} (hk : LC t (fun p => Sol t t.init p ∧ op ∈ p) k) : Y6 t l op = some k := by
 obtain ⟨o, o1, o2, o3⟩ := outward_ok ht hl
 obtain ⟨v, v1, v2, v3⟩ := rcosts_ok ht hl
 have hco := (J8 ht h0 h1).2
 unfold Y6
 simp only [o1, v1, oB]
 obtain ⟨u, u1, u2, u3, u4⟩ := v8 (body := U5 t l op o v) (n := (l.length : Int)) (s := 1000000000)
  (fun j u => (0 ≤ u ∧ u ≤ 1000000000) ∧ (u < 1000000000 → ∃ p, (Sol t t.init p ∧ op ∈ p) ∧ n9 t p = u) ∧ ∀ i s k' xi xk, i < j → ix l i = some s → can t s op → ix l k' = some (aft t s op) → ix o i = some xi → ix v k' = some xk → xk < 1000000000 → u ≤ xi + (opAt t op).cost + xk) (by omega)
  ⟨by omega, fun h => by omega, fun i s k' xi xk hi hs => by have := (m9 hs).1; omega⟩ (fun j u j0 j1 hP => by
   obtain ⟨p1, p2, p3⟩ := hP
   obtain ⟨s, hs, _⟩ := n4 j0 j1
   unfold U5
   simp only [hs, oB, ad0 h0 h1, O2]
   by_cases hc : can t s op
   ·rw [if_neg (by simp [hc])]
    obtain ⟨k', hk', hkk⟩ := place_eq l (aft t s op)
    have hkk : ix l k' = some (aft t s op) := by
     rcases hkk with ⟨_, q⟩ | ⟨_, _, q, _⟩
     ·obtain ⟨k2, hk2⟩ := hl.next hs h0 h1 hc
      exact absurd (w5 hk2) q
     ·exact q
    obtain ⟨xi, hxi⟩ := o2.at hs
    obtain ⟨xk, hxk⟩ := v2.at hkk
    obtain ⟨bi0, bi1, bi2, _⟩ := o2.ok j s xi hs hxi
    obtain ⟨bk0, bk1, bk2, _⟩ := v2.ok k' _ xk hkk hxk
    have hw1 : w64 (xi + (opAt t op).cost) = xi + (opAt t op).cost := x6 (by have := hco.1; omega) (by have := hco.2; omega)
    have hw2 : w64 (xi + (opAt t op).cost + xk) = xi + (opAt t op).cost + xk := x6 (by have := hco.1; omega) (by have := hco.2; omega)
    simp only [aj5 ht h0 h1, hk', hxk, hxi, R5 h0 h1, oB, hw1, hw2]
    have rest : ∀ u', u' ≤ u → (xk < 1000000000 → u' ≤ xi + (opAt t op).cost + xk) → ∀ i s k' xi xk, i < j + 1 → ix l i = some s → can t s op → ix l k' = some (aft t s op) → ix o i = some xi → ix v k' = some xk → xk < 1000000000 → u' ≤ xi + (opAt t op).cost + xk := fun u' hu hu2 i s2 k2 yi yk g1 g2 g3 g4 g5 g6 g7 => by
     by_cases e : i = j
     ·subst e
      rw [hs] at g2; cases g2
      have : k2 = k' := nodup_ix hl.nd g4 hkk
      subst this
      rw [hxi] at g5; rw [hxk] at g6; cases g5; cases g6
      exact hu2 g7
     ·have := p3 i s2 k2 yi yk (by omega) g2 g3 g4 g5 g6 g7; omega
    by_cases c : xk < 1000000000 ∧ xi + (opAt t op).cost + xk < u
    ·simp only [if_pos c.1, oB, decide_eq_true c.2, if_true]
     have hc0 := hco.1
     refine ⟨_, rfl, by omega, fun _ => ?_, rest _ (by omega) fun _ => by omega⟩
     obtain ⟨p, ⟨pv, pw⟩, pc⟩ := bi2 (by omega)
     obtain ⟨q, ⟨qv, e, qe, qg⟩, qc⟩ := bk2 c.1
     refine ⟨p ++ op :: q, ⟨⟨fun y hy => ?_, e, ?_, qg⟩, by simp⟩, ?_⟩
     ·rcases List.mem_append.1 hy with hy | hy
      ·exact pv y hy
      ·rcases List.mem_cons.1 hy with rfl | hy
       ·exact ⟨h0, h1⟩
       ·exact qv y hy
     ·rw [O0, pw]
      simp only [oB, ends]
      rw [if_pos (j7 hc)]; exact qe
     ·rw [P4]; simp only [n9]; omega
    ·have ef : (if xk < 1000000000 then some (decide (xi + (opAt t op).cost + xk < u)) else some false) = some false := by
      by_cases c1 : xk < 1000000000
      ·rw [if_pos c1, decide_eq_false fun q => c ⟨c1, q⟩]
      ·rw [if_neg c1]
     rw [ef]
     simp only [oB, Bool.false_eq_true, if_false]
     exact ⟨_, rfl, p1, p2, rest u (Int.le_refl u) fun h => by omega⟩
   ·rw [if_pos (by simp [hc])]
    refine ⟨_, rfl, p1, p2, fun i s2 k2 yi yk g1 g2 g3 g4 g5 g6 g7 => ?_⟩
    by_cases e : i = j
    ·subst e; rw [hs] at g2; cases g2; exact absurd g3 hc
    ·exact p3 i s2 k2 yi yk (by omega) g2 g3 g4 g5 g6 g7)
 have : u = k := by
  obtain ⟨a1, a2, ⟨a3, a4⟩ | ⟨a3, p, a4, a5⟩⟩ := hk
  ·by_cases c : u < 1000000000
   ·obtain ⟨p, p1, _⟩ := u3 c; exact absurd p1 (a4 p)
   ·omega
  ·have hle : u ≤ k := by
    obtain ⟨p1, p2, rfl⟩ := List.append_of_mem a4.2
    have hv1 : Val t p1 := fun y hy => a4.1.1 y (List.mem_append_left _ hy)
    have hv2 : Val t p2 := fun y hy => a4.1.1 y (List.mem_append_right _ (List.mem_cons_of_mem _ hy))
    obtain ⟨_, e, he, hg⟩ := a4.1
    rw [O0] at he
    cases e' : ends t t.init p1 with
    | none => rw [e'] at he; cases he
    | some s =>
     rw [e'] at he
     simp only [oB, ends] at he
     split at he
     ·rename_i hc
      have hc := j9.1 hc
      have hr : Rt t s := Rt.init.ends hv1 e'
      obtain ⟨i, _, hi0, hi⟩ := y8 ((hl.iff _).2 hr)
      obtain ⟨k', hk'⟩ := hl.next hi h0 h1 hc
      obtain ⟨xi, hxi⟩ := o2.at hi
      obtain ⟨xk, hxk⟩ := v2.at hk'
      rw [P4] at a5
      simp only [n9] at a5
      have n1 := aa2 ht hv1
      have n2 := aa2 ht hv2
      have hc0 := hco.1
      have b1 := o3 p1 s i xi ⟨hv1, e'⟩ (by omega) hi hxi
      have b2 := v3 k' _ xk p2 hk' hxk ⟨hv2, e, he, hg⟩ (by omega)
      have := u4 i s k' xi xk hi0 hi hc hk' hxi hxk (by omega)
      omega
     ·cases he
   obtain ⟨p', q1, q2⟩ := u3 (by omega)
   have := a1 p' q1
   omega
 rw [u1, this]; rfl
theorem dropped_eq (ht : i6 t) {op : Int} (h0 : 0 ≤ op) (h1 : op < t.operators.length) : Q0 t op = some (forT t op) := by
 have hops := ht.ops
 unfold Q0
 have e1 : app 80 ([] : List f5) (t.operators.take op.toNat) = some (t.operators.take op.toNat) := by unfold app; rw [if_pos (by simp; omega)]; rfl
 have e2 : app 80 (t.operators.take op.toNat) (t.operators.drop (op + 1).toNat) = some (t.operators.take op.toNat ++ t.operators.drop (op + 1).toNat) := by unfold app; rw [if_pos (by simp; omega)]
 rw [subL_take h0 (by omega)]
 simp only [oB, e1, x6 (show -9223372036854775808 ≤ op + 1 by omega) (by omega), subL_drop (show 0 ≤ op + 1 by omega) (show op + 1 ≤ t.operators.length by omega), e2]
 rw [show (op + 1).toNat = op.toNat + 1 by omega]; rfl
theorem OutR.best {op : Int} {r : Int × j5} (h : OutR t op r) (hm : ¬ Many t) (ht : i6 t) (h0 : 0 ≤ op) (h1 : op < t.operators.length) : r.2 = ⟨0, 0⟩ ∧ X0 (forT t op) = some r.1 := by
 cases h with
 | bad hn => exact absurd ⟨ht, h0, h1⟩ hn
 | opt _ _ _ hr =>
  have hmf : ¬ Many (forT t op) := fun q => hm (many_for h0 h1 q)
  have hc : r.2.code = 0 := Classical.byContradiction fun hc => hmf (hr.mny (for_ok ht h0 h1) hc).1
  exact ⟨hr.idx hc, best_ok (for_ok ht h0 h1) hmf (hr.lc hc)⟩
end
theorem ae5 (t : d9) (op : Int) : B0 t op = some true := by
 unfold B0
 simp only [priced_true]
 obtain ⟨f, k1, k2, k3, k4⟩ := ab1 t op
 obtain ⟨a, a1, a2⟩ := with_spec t op
 obtain ⟨b, b1, b2⟩ := al2 t op
 rw [a1, b1, k3]
 simp only [oB]
 rcases k4 with ⟨rfl, ht, h0, h1⟩ | ⟨hc, hn⟩
 ·rw [if_pos rfl]
  obtain ⟨l, c, h1', h2, h3⟩ := al8 ht
  rw [h1']
  simp only [oB]
  by_cases hc : c = true ∧ l.length ≤ 300
  ·obtain ⟨rfl, hl⟩ := hc
   rw [if_neg (by simp; omega)]
   obtain ⟨l1, l2, l3, l4⟩ := h3 rfl
   have hcl : Cl t l := ⟨l1, l2, l3⟩
   have hm : ¬ Many t := few_many ⟨l, l1, l2, l3⟩
   obtain ⟨z1, z2⟩ := b2.best hm ht h0 h1
   rw [z1, dropped_eq ht h0 h1]
   simp only [oB, z2, decide_true, Bool.not_true, Bool.false_eq_true, if_false]
   by_cases e : t.facts = 24
   ·rw [if_pos e]
    cases a2 with
    | bad hn => exact absurd ⟨ht, h0, h1⟩ hn
    | big => simp [at_eq]
    | opt _ _ _ hf => omega
   ·rw [if_neg e]
    have hca : a.2.code = 0 := Classical.byContradiction fun hc => by
     cases a2 with
     | bad hn => exact hn ⟨ht, h0, h1⟩
     | big _ _ _ hf => exact e hf
     | opt _ _ _ hf hr => exact many_req ht h0 h1 (l := l) (by omega) (fun s hs => (l3 s).2 hs) (hr.mny (req_ok ht h0 h1 hf) hc).1
    rw [if_pos hca, using_ok ht hcl h0 h1 (a2.lc hca).2.2]
    simp
  ·rw [if_pos]
   cases c
   ·simp
   ·simp at hc ⊢; omega
 ·rw [if_neg hc]
  have ea : a = (0, f) := by
   cases a2 with
   | bad _ _ hf => rw [k3] at hf; cases hf; rfl
   | big h h0 h1 => exact absurd ⟨h, h0, h1⟩ hn
   | opt h h0 h1 => exact absurd ⟨h, h0, h1⟩ hn
  have eb : b = (0, f) := by
   cases b2 with
   | bad _ _ hf => rw [k3] at hf; cases hf; rfl
   | opt h h0 h1 => exact absurd ⟨h, h0, h1⟩ hn
  subst ea eb
  simp
end Ab
end
