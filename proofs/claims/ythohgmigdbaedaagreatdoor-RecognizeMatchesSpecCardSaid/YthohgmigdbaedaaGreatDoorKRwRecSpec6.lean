/-
  Texts that the proof stands on.
-/
import Derived.Test.YthohgmigdbaedaaGreatDoorKRwRecSpec5
set_option linter.all false
section
namespace Ab
open Go
inductive Ex (t : f7) (g : List Int) : List Int → List Int → Int → Prop
 | goal {s : List Int} (h : ∀ x ∈ g, x ∈ s) : Ex t g [] s 0
 | step {o s : List Int} {op c : Int} (h0 : 0 ≤ op) (h1 : op < t.operators.length) (hc : can t s op) (h : Ex t g o (aft t s op) c) : Ex t g o s (c + (opAt t op).cost)
 | obs {o s : List Int} {op c : Int} (h0 : 0 ≤ op) (h1 : op < t.operators.length) (hc : can t s op) (h : Ex t g o (aft t s op) c) : Ex t g (op :: o) s (c + (opAt t op).cost)
inductive Rc (t : f7) (ob : List Int) : List Int → Nat → Int → Prop
 | init : Rc t ob t.init 0 0
 | step {s : List Int} {k : Nat} {op c : Int} (h : Rc t ob s k c) (h0 : 0 ≤ op) (h1 : op < t.operators.length) (hc : can t s op) : Rc t ob (aft t s op) k (c + (opAt t op).cost)
 | obs {s : List Int} {k : Nat} {op c : Int} (h : Rc t ob s k c) (h0 : 0 ≤ op) (h1 : op < t.operators.length) (hc : can t s op) (ho : ob[k]? = some op) : Rc t ob (aft t s op) (k + 1) (c + (opAt t op).cost)
section
variable {t : f7} {g ob : List Int}
theorem Rc.rt {s : List Int} {k : Nat} {c : Int} (h : Rc t ob s k c) : Rt t s := by
 induction h with
 | init => exact .init
 | step _ h0 h1 hc ih => exact ih.step h0 h1 hc
 | obs _ h0 h1 hc _ ih => exact ih.step h0 h1 hc
theorem Rc.le {s : List Int} {k : Nat} {c : Int} (h : Rc t ob s k c) : k ≤ ob.length := by
 induction h with
 | init => exact Nat.zero_le _
 | step _ _ _ _ ih => exact ih
 | obs _ _ _ _ ho ih => have := (List.getElem?_eq_some_iff.1 ho).1; omega
theorem Rc.nonneg (ht : k9 t) {s : List Int} {k : Nat} {c : Int} (h : Rc t ob s k c) : 0 ≤ c := by
 induction h with
 | init => exact Int.le_refl 0
 | step _ h0 h1 _ ih => have := (M2 ht h0 h1).2.1; omega
 | obs _ h0 h1 _ _ ih => have := (M2 ht h0 h1).2.1; omega
theorem Rc.ex {s : List Int} {k : Nat} {c : Int} (h : Rc t ob s k c) : ∀ {c' : Int}, Ex t g (ob.drop k) s c' → Ex t g ob t.init (c + c') := by
 induction h with
 | init => intro c' h; simpa using h
 | @step s k op c _ h0 h1 hc ih =>
  intro c' h
  have := ih (.step h0 h1 hc h)
  rwa [show c + (opAt t op).cost + c' = c + (c' + (opAt t op).cost) by omega]
 | @obs s k op c _ h0 h1 hc ho ih =>
  intro c' h
  obtain ⟨hl, e⟩ := List.getElem?_eq_some_iff.1 ho
  have hd : ob.drop k = op :: ob.drop (k + 1) := by rw [List.drop_eq_getElem_cons hl, e]
  have := ih (c' := c' + (opAt t op).cost) (by rw [hd]; exact .obs h0 h1 hc h)
  rwa [show c + (opAt t op).cost + c' = c + (c' + (opAt t op).cost) by omega]
theorem Ex.rc {o s : List Int} {c : Int} (h : Ex t g o s c) : ∀ {k : Nat} {c0 : Int}, Rc t ob s k c0 → o = ob.drop k → ∃ e, Rc t ob e ob.length (c0 + c) ∧ ∀ x ∈ g, x ∈ e := by
 induction h with
 | goal h =>
  intro k c0 hr e
  have hk := hr.le
  have : k = ob.length := by
   have := congrArg List.length e
   simp at this; omega
  subst this
  exact ⟨_, by simpa using hr, h⟩
 | @step o s op c h0 h1 hc _ ih =>
  intro k c0 hr e
  obtain ⟨e', h2, h3⟩ := ih (hr.step h0 h1 hc) e
  exact ⟨e', by rwa [show c0 + (c + (opAt t op).cost) = c0 + (opAt t op).cost + c by omega], h3⟩
 | @obs o s op c h0 h1 hc _ ih =>
  intro k c0 hr e
  have hk : k < ob.length := by
   rcases Nat.lt_or_ge k ob.length with h | h
   ·exact h
   ·rw [List.drop_eq_nil_of_le h] at e; cases e
  rw [List.drop_eq_getElem_cons hk] at e
  simp only [List.cons.injEq] at e
  obtain ⟨e', h2, h3⟩ := ih (hr.obs h0 h1 hc (List.getElem?_eq_some_iff.2 ⟨hk, e.1.symm⟩)) e.2
  exact ⟨e', by rwa [show c0 + (c + (opAt t op).cost) = c0 + (opAt t op).cost + c by omega], h3⟩
theorem Ex.nil {o s : List Int} {c : Int} (h : Ex t g o s c) : Ex t g [] s c := by
 induction h with
 | goal h => exact .goal h
 | step h0 h1 hc _ ih => exact .step h0 h1 hc ih
 | obs h0 h1 hc _ ih => exact .step h0 h1 hc ih
theorem Ex.plan {o s : List Int} {c : Int} (h : Ex t g o s c) : ∃ p, Val t p ∧ (∃ e, ends t s p = some e ∧ ∀ x ∈ g, x ∈ e) ∧ I1 t p = c := by
 induction h with
 | @goal s h => exact ⟨[], by simp [Val], ⟨s, rfl, h⟩, rfl⟩
 | @step o s op c h0 h1 hc _ ih =>
  obtain ⟨p, p1, ⟨e, p2, p3⟩, p4⟩ := ih
  refine ⟨op :: p, fun y hy => ?_, ⟨e, ?_, p3⟩, by simp [I1, p4]⟩
  ·rcases List.mem_cons.1 hy with rfl | hy
   ·exact ⟨h0, h1⟩
   ·exact p1 y hy
  ·simp only [ends]; rw [if_pos (j9 hc)]; exact p2
 | @obs o s op c h0 h1 hc _ ih =>
  obtain ⟨p, p1, ⟨e, p2, p3⟩, p4⟩ := ih
  refine ⟨op :: p, fun y hy => ?_, ⟨e, ?_, p3⟩, by simp [I1, p4]⟩
  ·rcases List.mem_cons.1 hy with rfl | hy
   ·exact ⟨h0, h1⟩
   ·exact p1 y hy
  ·simp only [ends]; rw [if_pos (j9 hc)]; exact p2
theorem Ex.of : ∀ {a o b s e : List Int}, Val t (a ++ (o ++ b)) → ends t s (a ++ (o ++ b)) = some e → (∀ x ∈ g, x ∈ e) → Ex t g o s (I1 t (a ++ (o ++ b)))
 | [], [], [], s, e, _, he, hg => by
  simp only [List.append_nil, ends, Option.some.injEq] at he; subst he
  exact .goal hg
 | [], [], op :: b, s, e, hv, he, hg => by
  simp only [List.nil_append, ends] at he ⊢
  have ho := hv op (by simp)
  split at he
  ·rename_i hc
   exact .step ho.1 ho.2 (i9.1 hc) (Ex.of (a := []) (o := []) (b := b) (fun x hx => hv x (by simp at hx ⊢; exact .inr hx)) (by simpa using he) hg)
  ·cases he
 | [], op :: o, b, s, e, hv, he, hg => by
  simp only [List.nil_append, List.cons_append, ends] at he ⊢
  have ho := hv op (by simp)
  split at he
  ·rename_i hc
   exact .obs ho.1 ho.2 (i9.1 hc) (Ex.of (a := []) (o := o) (b := b) (fun x hx => hv x (by simp at hx ⊢; exact .inr hx)) (by simpa using he) hg)
  ·cases he
 | op :: a, o, b, s, e, hv, he, hg => by
  simp only [List.cons_append, ends] at he ⊢
  have ho := hv op (by simp)
  split at he
  ·rename_i hc
   exact .step ho.1 ho.2 (i9.1 hc) (Ex.of (a := a) (o := o) (b := b) (fun x hx => hv x (by simp at hx ⊢; exact .inr hx)) he hg)
  ·cases he
def EC (t : f7) (g ob : List Int) (k : Int) : Prop := (∀ c, Ex t g ob t.init c → k ≤ c) ∧ 0 ≤ k ∧ ((k = 1000000000 ∧ ∀ c, ¬ Ex t g ob t.init c) ∨ (k < 1000000000 ∧ Ex t g ob t.init k))
theorem EC.eq {k k' : Int} (h : EC t g ob k) (h' : EC t g ob k') : k = k' := by
 obtain ⟨a1, _, ⟨a3, a4⟩ | ⟨a3, a4⟩⟩ := h
 ·obtain ⟨b1, _, ⟨b3, b4⟩ | ⟨b3, b4⟩⟩ := h'
  ·omega
  ·exact absurd b4 (a4 _)
 ·obtain ⟨b1, _, ⟨b3, b4⟩ | ⟨b3, b4⟩⟩ := h'
  ·exact absurd a4 (b4 _)
  ·have := a1 _ b4; have := b1 _ a4; omega
theorem EC.le {k : Int} (h : EC t g ob k) : k ≤ 1000000000 := by
 obtain ⟨a1, a2, ⟨a3, a4⟩ | ⟨a3, a4⟩⟩ := h <;> omega
theorem EC.mono {g' ob' : List Int} {k k' : Int} (h : EC t g ob k) (h' : EC t g' ob' k') (hm : ∀ c, Ex t g' ob' t.init c → Ex t g ob t.init c) : k ≤ k' := by
 obtain ⟨b1, _, ⟨b3, b4⟩ | ⟨b3, b4⟩⟩ := h'
 ·have := h.le; omega
 ·exact h.1 _ (hm _ b4)
theorem EC.lc {k : Int} (h : EC t t.goal [] k) : LC t (Sol t t.init) k := by
 have to : ∀ p, Sol t t.init p → Ex t t.goal [] t.init (I1 t p) := fun p ⟨hv, e, he, hg⟩ => Ex.of (a := []) (o := []) (b := p) hv he hg
 obtain ⟨a1, a2, ⟨a3, a4⟩ | ⟨a3, a4⟩⟩ := h
 ·exact ⟨fun p hp => a1 _ (to p hp), a2, .inl ⟨a3, fun p hp => a4 _ (to p hp)⟩⟩
 ·obtain ⟨p, p1, p2, p3⟩ := a4.plan
  exact ⟨fun p hp => a1 _ (to p hp), a2, .inr ⟨a3, p, ⟨p1, p2⟩, p3⟩⟩
/-! ### The search -/
abbrev Tr := List Int × Nat × Int
def Nx (t : f7) (ob : List Int) (x y : Tr) : Prop := ∃ op : Int, 0 ≤ op ∧ op < t.operators.length ∧ can t x.1 op ∧ y.1 = aft t x.1 op ∧ y.2.2 = x.2.2 + (opAt t op).cost ∧ (y.2.1 = x.2.1 ∨ ob[x.2.1]? = some op ∧ y.2.1 = x.2.1 + 1)
def Cov (H D : Tr → Prop) (y : Tr) : Prop := (∃ c, D (y.1, y.2.1, c) ∧ c ≤ y.2.2) ∨ ∃ c, H (y.1, y.2.1, c) ∧ c ≤ y.2.2
structure Dj (t : f7) (ob : List Int) (H D : Tr → Prop) (B : Int) : Prop where
 hr : ∀ x, H x → Rc t ob x.1 x.2.1 x.2.2 ∧ B ≤ x.2.2
 dr : ∀ x, D x → Rc t ob x.1 x.2.1 x.2.2 ∧ x.2.2 ≤ B
 opt : ∀ x, D x → ∀ c, Rc t ob x.1 x.2.1 c → x.2.2 ≤ c
 ini : Cov H D (t.init, 0, 0)
 nx : ∀ x y, D x → Nx t ob x y → Cov H D y
theorem Dj.front {H D : Tr → Prop} {B : Int} (ht : k9 t) (h : Dj t ob H D B) {s : List Int} {k : Nat} {c : Int} (hr : Rc t ob s k c) : (∃ d, D (s, k, d) ∧ d ≤ c) ∨ ∃ x, H x ∧ x.2.2 ≤ c := by
 have step : ∀ {s : List Int} {k : Nat} {c op : Int} {k' : Nat}, 0 ≤ op → op < t.operators.length → can t s op → (k' = k ∨ ob[k]? = some op ∧ k' = k + 1) → ((∃ d, D (s, k, d) ∧ d ≤ c) ∨ ∃ x, H x ∧ x.2.2 ≤ c) → (∃ d, D (aft t s op, k', d) ∧ d ≤ c + (opAt t op).cost) ∨ ∃ x, H x ∧ x.2.2 ≤ c + (opAt t op).cost := by
  intro s k c op k' h0 h1 hc hk ih
  have hco := (M2 ht h0 h1).2.1
  rcases ih with ⟨d, d1, d2⟩ | ⟨x, x1, x2⟩
  ·rcases h.nx _ (aft t s op, k', d + (opAt t op).cost) d1 ⟨op, h0, h1, hc, rfl, rfl, hk⟩ with ⟨c', e1, e2⟩ | ⟨c', e1, e2⟩
   ·exact .inl ⟨c', e1, by simp only at e2; omega⟩
   ·exact .inr ⟨_, e1, by simp only at e2 ⊢; omega⟩
  ·exact .inr ⟨x, x1, by omega⟩
 induction hr with
 | init =>
  rcases h.ini with ⟨c', e1, e2⟩ | ⟨c', e1, e2⟩
  ·exact .inl ⟨c', e1, e2⟩
  ·exact .inr ⟨_, e1, e2⟩
 | step _ h0 h1 hc ih => exact step h0 h1 hc (.inl rfl) ih
 | obs _ h0 h1 hc ho ih => exact step h0 h1 hc (.inr ⟨ho, rfl⟩) ih
theorem Dj.again {H H' D : Tr → Prop} {B : Int} (h : Dj t ob H D B) {x : Tr} (hH : ∀ y, H y ↔ y = x ∨ H' y) (hm : ∀ y, H y → x.2.2 ≤ y.2.2) {d : Int} (hx : D (x.1, x.2.1, d)) : Dj t ob H' D x.2.2 := by
 have hxH := (hH x).2 (.inl rfl)
 have hd := h.opt _ hx _ (h.hr x hxH).1
 have cov : ∀ y, Cov H D y → Cov H' D y := fun y hy => by
  rcases hy with ⟨c, c1, c2⟩ | ⟨c, c1, c2⟩
  ·exact .inl ⟨c, c1, c2⟩
  ·rcases (hH _).1 c1 with e | c1
   ·subst e
    exact .inl ⟨d, hx, by simp only at hd; omega⟩
   ·exact .inr ⟨c, c1, c2⟩
 exact ⟨fun y hy => ⟨(h.hr y ((hH y).2 (.inr hy))).1, hm y ((hH y).2 (.inr hy))⟩, fun y hy => ⟨(h.dr y hy).1, by have := (h.dr y hy).2; have := (h.hr x hxH).2; omega⟩, h.opt, cov _ h.ini, fun a b ha hb => cov _ (h.nx a b ha hb)⟩
theorem Dj.next {H H' D : Tr → Prop} {B : Int} (ht : k9 t) (h : Dj t ob H D B) {x : Tr} (hH : ∀ y, H y → y = x ∨ H' y) (hH1 : ∀ y, H' y → H y ∨ Nx t ob x y) (hH2 : ∀ y, Nx t ob x y → H' y) (hx : H x) (hm : ∀ y, H y → x.2.2 ≤ y.2.2) (hn : ∀ d, ¬ D (x.1, x.2.1, d)) :
  Dj t ob H' (fun y => y = x ∨ D y) x.2.2 := by
 have hxB := (h.hr x hx)
 have cov : ∀ y, Cov H D y → Cov H' (fun y => y = x ∨ D y) y := fun y hy => by
  rcases hy with ⟨c, c1, c2⟩ | ⟨c, c1, c2⟩
  ·exact .inl ⟨c, .inr c1, c2⟩
  ·rcases hH _ c1 with e | c1
   ·exact .inl ⟨c, .inl e, c2⟩
   ·exact .inr ⟨c, c1, c2⟩
 refine ⟨fun y hy => ?_, fun y hy => ?_, fun y hy c hc => ?_, cov _ h.ini, fun a b ha hb => ?_⟩
 ·rcases hH1 y hy with hy | ⟨op, h0, h1, hc, e1, e2, e3⟩
  ·exact ⟨(h.hr y hy).1, hm y hy⟩
  ·have hco := (M2 ht h0 h1).2.1
   refine ⟨?_, by omega⟩
   rw [e1, e2]
   rcases e3 with e3 | ⟨e3, e4⟩
   ·rw [e3]; exact hxB.1.step h0 h1 hc
   ·rw [e4]; exact hxB.1.obs h0 h1 hc e3
 ·rcases hy with rfl | hy
  ·exact ⟨hxB.1, Int.le_refl _⟩
  ·exact ⟨(h.dr y hy).1, by have := (h.dr y hy).2; omega⟩
 ·rcases hy with rfl | hy
  ·rcases h.front ht hc with ⟨d, d1, _⟩ | ⟨z, z1, z2⟩
   ·exact absurd d1 (hn d)
   ·have := hm z z1; omega
  ·exact h.opt y hy c hc
 ·rcases ha with rfl | ha
  ·exact .inr ⟨b.2.2, hH2 b hb, Int.le_refl _⟩
  ·exact cov b (h.nx a b ha hb)
theorem Dj.start : Dj t ob (fun y => y = (t.init, 0, 0)) (fun _ => False) 0 :=
 ⟨fun x hx => by subst hx; exact ⟨.init, Int.le_refl 0⟩, fun x hx => hx.elim, fun x hx => hx.elim, .inr ⟨0, rfl, Int.le_refl 0⟩, fun x y hx => hx.elim⟩
def Got (ob g : List Int) (D : Tr → Prop) (k : Int) : Prop := (k = 1000000000 ∧ ∀ x, D x → x.2.1 = ob.length → ¬ ∀ y ∈ g, y ∈ x.1) ∨ (k < 1000000000 ∧ ∃ x, D x ∧ x.2.1 = ob.length ∧ (∀ y ∈ g, y ∈ x.1) ∧ x.2.2 = k ∧ ∀ z, D z → z.2.1 = ob.length → (∀ y ∈ g, y ∈ z.1) → k ≤ z.2.2)
theorem Got.ec {H D : Tr → Prop} {B k : Int} (ht : k9 t) (h : Dj t ob H D B) (he : ∀ x, ¬ H x) (hg : Got ob g D k) : EC t g ob k := by
 have all : ∀ c, Ex t g ob t.init c → ∃ z, D z ∧ z.2.1 = ob.length ∧ (∀ y ∈ g, y ∈ z.1) ∧ z.2.2 ≤ c := fun c hc => by
  obtain ⟨e, h1, h2⟩ := hc.rc (ob := ob) .init (by simp)
  rcases h.front ht h1 with ⟨d, d1, d2⟩ | ⟨x, x1, _⟩
  ·exact ⟨_, d1, rfl, h2, by simpa using d2⟩
  ·exact absurd x1 (he x)
 rcases hg with ⟨rfl, hn⟩ | ⟨hk, x, x1, x2, x3, rfl, x4⟩
 ·have no : ∀ c, ¬ Ex t g ob t.init c := fun c hc => by
   obtain ⟨z, z1, z2, z3, _⟩ := all c hc
   exact hn z z1 z2 z3
  exact ⟨fun c hc => absurd hc (no c), by omega, .inl ⟨rfl, no⟩⟩
 ·refine ⟨fun c hc => ?_, (h.dr x x1).1.nonneg ht, .inr ⟨hk, ?_⟩⟩
  ·obtain ⟨z, z1, z2, z3, z4⟩ := all c hc
   have := x4 z z1 z2 z3; omega
  ·have := (h.dr x x1).1.ex (g := g) (c' := 0) (by rw [x2, List.drop_length]; exact .goal x3)
   simpa using this
end
end Ab
end
section
namespace Ab
section
variable {α : Type} {le : α → α → Prop}
def sw (a : Nat → α) (i j : Nat) : Nat → α := fun k => if k = i then a j else if k = j then a i else a k
def HpO (le : α → α → Prop) (a : Nat → α) (n : Nat) : Prop := ∀ k, 0 < k → k < n → le (a ((k - 1) / 2)) (a k)
def UpI (le : α → α → Prop) (a : Nat → α) (n j : Nat) : Prop := (∀ k, 0 < k → k < n → k ≠ j → le (a ((k - 1) / 2)) (a k)) ∧ ∀ k, 0 < k → k < n → (k - 1) / 2 = j → 0 < j → le (a ((j - 1) / 2)) (a k)
def DnI (le : α → α → Prop) (a : Nat → α) (n i : Nat) : Prop := (∀ k, 0 < k → k < n → (k - 1) / 2 ≠ i → le (a ((k - 1) / 2)) (a k)) ∧ ∀ k, 0 < k → k < n → (k - 1) / 2 = i → 0 < i → le (a ((i - 1) / 2)) (a k)
theorem sw_l {a : Nat → α} {i j : Nat} : sw a i j i = a j := by simp [sw]
theorem sw_r {a : Nat → α} {i j : Nat} : sw a i j j = a i := by unfold sw; split <;> simp_all
theorem sw_o {a : Nat → α} {i j k : Nat} (h1 : k ≠ i) (h2 : k ≠ j) : sw a i j k = a k := by simp [sw, h1, h2]
theorem up_done {a : Nat → α} {n j : Nat} (h : UpI le a n j) (hd : j = 0 ∨ le (a ((j - 1) / 2)) (a j)) : HpO le a n := fun k k0 k1 => by
 by_cases e : k = j
 ·subst e; exact hd.resolve_left (by omega)
 ·exact h.1 k k0 k1 e
theorem up_step (tr : ∀ a b c, le a b → le b c → le a c) {a : Nat → α} {n j : Nat} (hj : j < n) (h : UpI le a n j) (j0 : 0 < j) (hl : le (a j) (a ((j - 1) / 2))) : UpI le (sw a ((j - 1) / 2) j) n ((j - 1) / 2) := by
 have hp : (j - 1) / 2 < j := by omega
 constructor
 ·intro k k0 k1 ke
  by_cases e : k = j
  ·subst e
   rw [sw_r, sw_l]; exact hl
  ·rw [sw_o ke e]
   by_cases e2 : (k - 1) / 2 = (j - 1) / 2
   ·rw [e2, sw_l]
    have := h.1 k k0 k1 e
    rw [e2] at this
    exact tr _ _ _ hl this
   ·by_cases e3 : (k - 1) / 2 = j
    ·rw [e3, sw_r]
     exact h.2 k k0 k1 e3 j0
    ·rw [sw_o e2 e3]
     exact h.1 k k0 k1 e
 ·intro k k0 k1 ke p0
  rw [sw_o (by omega) (by omega)]
  have hpp := h.1 ((j - 1) / 2) p0 (by omega) (by omega)
  by_cases e : k = j
  ·subst e
   rw [sw_r]; exact hpp
  ·rw [sw_o (by omega) e]
   have := h.1 k k0 k1 e
   rw [ke] at this
   exact tr _ _ _ hpp this
theorem dn_done {a : Nat → α} {n i : Nat} (h : DnI le a n i) (hd : ∀ k, 0 < k → k < n → (k - 1) / 2 = i → le (a i) (a k)) : HpO le a n := fun k k0 k1 => by
 by_cases e : (k - 1) / 2 = i
 ·rw [e]; exact hd k k0 k1 e
 ·exact h.1 k k0 k1 e
theorem dn_step {a : Nat → α} {n i j : Nat} (h : DnI le a n i) (j0 : 0 < j) (jn : j < n) (ji : (j - 1) / 2 = i) (hm : ∀ k, 0 < k → k < n → (k - 1) / 2 = i → le (a j) (a k)) (hl : le (a j) (a i)) : DnI le (sw a i j) n j := by
 have hij : i < j := by omega
 constructor
 ·intro k k0 k1 ke
  by_cases e : k = j
  ·subst e
   rw [ji, sw_r, sw_l]; exact hl
  ·by_cases e2 : k = i
   ·subst e2
    rw [sw_l, sw_o (by omega) (by omega)]
    exact h.2 j j0 jn ji k0
   ·rw [sw_o (k := k) e2 e]
    by_cases e3 : (k - 1) / 2 = i
    ·rw [e3, sw_l]
     exact hm k k0 k1 e3
    ·rw [sw_o e3 ke]
     exact h.1 k k0 k1 e3
 ·intro k k0 k1 ke _
  rw [ji, sw_l, sw_o (by omega) (by omega)]
  have := h.1 k k0 k1 (by omega)
  rw [ke] at this; exact this
theorem hp_root (rf : ∀ a, le a a) (tr : ∀ a b c, le a b → le b c → le a c) {a : Nat → α} {n : Nat} (h : HpO le a n) : ∀ k, k < n → le (a 0) (a k) := by
 intro k
 induction k using Nat.strongRecOn with
 | _ k ih =>
  intro hk
  rcases Nat.eq_zero_or_pos k with rfl | k0
  ·exact rf _
  ·exact tr _ _ _ (ih ((k - 1) / 2) (by omega) (by omega)) (h k k0 hk)
theorem hp_push {a b : Nat → α} {n : Nat} (h : HpO le a n) (hb : ∀ k, k < n → b k = a k) : UpI le b (n + 1) n := by
 constructor
 ·intro k k0 k1 ke
  rw [hb _ (by omega), hb _ (by omega)]
  exact h k k0 (by omega)
 ·intro k k0 k1 ke p0; omega
theorem hp_pop {a : Nat → α} {n : Nat} (h : HpO le a (n + 1)) : DnI le (sw a 0 n) n 0 := by
 constructor
 ·intro k k0 k1 ke
  rw [sw_o (by omega) (by omega), sw_o (by omega) (by omega)]
  exact h k k0 (by omega)
 ·intro k k0 k1 ke p0; omega
/-! ### Rows -/
def gt (l : List α) (d : α) (k : Nat) : α := l[k]?.getD d
def swp (l : List α) (i j : Nat) (x y : α) : List α := (l.set i y).set j x
theorem gt_of {l : List α} {d x : α} {k : Nat} (h : l[k]? = some x) : gt l d k = x := by simp [gt, h]
theorem gt_swp {l : List α} {d x y : α} {i j : Nat} (hi : l[i]? = some x) (hj : l[j]? = some y) : gt (swp l i j x y) d = sw (gt l d) i j := by
 funext k
 have i1 := (List.getElem?_eq_some_iff.1 hi).1
 have j1 := (List.getElem?_eq_some_iff.1 hj).1
 unfold swp sw
 by_cases e : k = i
 ·subst e
  rw [if_pos rfl, gt_of hj]
  by_cases e2 : j = k
  ·subst e2
   refine gt_of ?_
   rw [List.getElem?_set_self (by simpa using j1), ← hi, hj]
  ·refine gt_of ?_
   rw [List.getElem?_set_ne e2, List.getElem?_set_self i1]
 ·rw [if_neg e]
  by_cases e2 : k = j
  ·subst e2
   rw [if_pos rfl, gt_of hi]
   exact gt_of (List.getElem?_set_self (by simpa using j1))
  ·rw [if_neg e2]
   unfold gt
   rw [List.getElem?_set_ne (Ne.symm e2), List.getElem?_set_ne (Ne.symm e)]
theorem swp_perm {l : List α} {x y : α} {i j : Nat} (hi : l[i]? = some x) (hj : l[j]? = some y) : (swp l i j x y).Perm l := by
 classical
 refine List.perm_iff_count.2 fun a => ?_
 have i1 := (List.getElem?_eq_some_iff.1 hi)
 have j1 := (List.getElem?_eq_some_iff.1 hj)
 unfold swp
 obtain ⟨i1, i2⟩ := i1
 obtain ⟨j1, j2⟩ := j1
 rw [List.count_set (h := by simpa using j1), List.count_set (h := i1)]
 have hx : 0 < l.count x := List.count_pos_iff.2 (i2 ▸ List.getElem_mem i1)
 have hy : 0 < l.count y := List.count_pos_iff.2 (j2 ▸ List.getElem_mem j1)
 by_cases e : i = j
 ·subst e
  rw [i2] at j2; subst j2
  simp only [List.getElem_set_self, i2]
  by_cases q : x = a
  ·subst q; simp; omega
  ·simp [q]
 ·rw [List.getElem_set_ne e, i2, j2]
  by_cases q : x = a
  ·subst q
   by_cases q2 : y = x
   ·subst q2; simp; omega
   ·simp [q2]; omega
  ·by_cases q2 : y = a
   ·subst q2; simp [q]
   ·simp [q, q2]
theorem W2 {l : List α} {x y : α} {i j : Nat} : (swp l i j x y).length = l.length := by simp [swp]
end
end Ab
end
section
namespace Ab
open Go
abbrev Nd := d9
def nlt (a b : Nd) : Prop := a.cost < b.cost ∨ a.cost = b.cost ∧ a.sequence < b.sequence
def nle (a b : Nd) : Prop := ¬ nlt b a
theorem af5 (a : Nd) : nle a a := by unfold nle nlt; omega
theorem nle_trans (a b c : Nd) (h : nle a b) (k : nle b c) : nle a c := by unfold nle nlt at *; omega
theorem nle_of {a b : Nd} (h : nlt a b) : nle a b := by unfold nle nlt at *; omega
theorem nle_cost {a b : Nd} (h : nle a b) : a.cost ≤ b.cost := by unfold nle nlt at h; omega
def nd0 : Nd := ⟨[], 0, 0, 0⟩
abbrev gN (l : List Nd) : Nat → Nd := gt l nd0
def HpN (l : List Nd) : Prop := HpO nle (gN l) l.length
theorem nless_eq {l : List Nd} {i k : Int} {x y : Nd} (hi : ix l i = some x) (hk : ix l k = some y) : l8 i k l = some (dec (nlt x y)) := by
 unfold l8
 simp only [hi, hk, oB]
 by_cases c1 : x.cost < y.cost
 ·rw [if_pos c1, j9 (.inl c1)]; rfl
 ·rw [if_neg c1]
  by_cases c2 : x.cost = y.cost
  ·rw [if_pos c2]
   simp only [oB]
   rw [ag6]
   exact congrArg some (L5 ⟨fun h => .inr ⟨c2, h⟩, fun h => by unfold nlt at h; omega⟩)
  ·rw [if_neg c2, n4 (by unfold nlt; omega)]; rfl
theorem nless1 : y6 = l8 := rfl
theorem nswap1 : y7 = m8 := rfl
theorem nswap_eq {l : List Nd} {i k : Int} {x y : Nd} (hi : ix l i = some x) (hk : ix l k = some y) : m8 i k l = some (swp l i.toNat k.toNat x y) := by
 obtain ⟨i0, i1, _⟩ := l7 hi
 obtain ⟨k0, k1, _⟩ := l7 hk
 obtain ⟨z, hz, _⟩ := j7 (l := l.set i.toNat y) k0 (by simpa using k1)
 unfold m8
 simp only [hi, hk, hz, oB]; rfl
theorem gN_ix {l : List Nd} {i : Int} {x : Nd} (h : ix l i = some x) : gN l i.toNat = x := gt_of (l7 h).2.2
theorem nup_ok {l : List Nd} {j : Int} (hj : 0 ≤ j) (hj' : j < l.length) (hu : UpI nle (gN l) l.length j.toNat) (hb : l.length ≤ 1000000000) :
  ∃ l', B4 j l = some l' ∧ HpN l' ∧ l'.Perm l := by
 unfold B4
 obtain ⟨o, o1, o2, o3⟩ := M1 (body := C3) (s := (l, j))
  (fun s => s.1.Perm l ∧ 0 ≤ s.2 ∧ s.2 < s.1.length ∧ UpI nle (gN s.1) s.1.length s.2.toNat) (fun o => HpN o ∧ o.Perm l) (fun s => s.2.toNat)
  ⟨.refl _, hj, hj', hu⟩ (by
   rintro ⟨c, j⟩ ⟨p1, p2, p3, p4⟩
   simp only at p1 p2 p3 p4
   have hl := p1.length_eq
   unfold C3
   have e1 : w64 (j - 1) = j - 1 := m6 (by omega) (by omega)
   have e3 : (j - 1).tdiv 2 = if j = 0 then 0 else (j - 1) / 2 := by
    split
    ·rename_i q; subst q; rfl
    ·rw [Int.tdiv_eq_ediv_of_nonneg (by omega)]
   have e2 : w64 ((j - 1).tdiv 2) = if j = 0 then 0 else (j - 1) / 2 := by
    rw [e3]; split
    ·rfl
    ·exact m6 (by omega) (by omega)
   simp only [e1, e2, chkN, show ((2 : Int) = 0) = False by simp, if_false, oB]
   by_cases c0 : j = 0
   ·subst c0
    rw [if_pos (by simp)]
    exact .inr ⟨_, rfl, up_done p4 (.inl rfl), p1⟩
   ·simp only [if_neg c0]
    rw [if_neg (by omega)]
    obtain ⟨x, hx, _⟩ := j7 (l := c) p2 p3
    obtain ⟨y, hy, _⟩ := j7 (l := c) (i := (j - 1) / 2) (by omega) (by omega)
    have hpar : ((j - 1) / 2).toNat = (j.toNat - 1) / 2 := by omega
    have gx := gN_ix hx
    have gy := gN_ix hy
    rw [nless_eq hx hy]
    by_cases cx : nlt x y
    ·simp only [j9 cx, oB, Bool.not_true, Bool.false_eq_true, if_false, nswap1, nswap_eq hy hx, X2, W2, if_true]
     have i1 := (l7 hy).2.2
     have i2 := (l7 hx).2.2
     refine .inl ⟨_, rfl, ⟨(swp_perm i1 i2).trans p1, by simp only; omega, by simp only [W2]; omega, ?_⟩, by simp only; omega⟩
     simp only [W2]
     have := up_step (le := nle) nle_trans (a := gN c) (n := c.length) (j := j.toNat) (by omega) p4 (by omega) (by rw [← hpar, gx, gy]; exact nle_of cx)
     rw [← hpar] at this
     rw [show gN (swp c ((j - 1) / 2).toNat j.toNat y x) = sw (gN c) ((j - 1) / 2).toNat j.toNat from gt_swp i1 i2]
     exact this
    ·simp only [n4 cx, oB, Bool.not_false, if_true]
     exact .inr ⟨_, rfl, up_done p4 (.inr (by rw [← hpar, gx, gy]; exact cx)), p1⟩)
 exact ⟨o, by rw [o1]; rfl, o2, o3⟩
theorem npush_ok {l : List Nd} (h : HpN l) (x : Nd) (hb : l.length ≤ 10000000) : ∃ l', q9 x l = some l' ∧ HpN l' ∧ l'.Perm (x :: l) := by
 have ha : app 48 l [x] = some (l ++ [x]) := by unfold app; rw [if_pos (by simp; omega)]
 have e1 : w64 (((l ++ [x]).length : Int) - 1) = (l.length : Int) := by rw [show (((l ++ [x]).length : Int) - 1) = (l.length : Int) by simp]; exact m6 (by omega) (by omega)
 obtain ⟨l', k1, k2, k3⟩ := nup_ok (l := l ++ [x]) (j := l.length) (by omega) (by simp; omega) (by
  rw [Int.toNat_natCast, List.length_append, List.length_singleton]
  refine hp_push (a := gN l) h fun k hk => ?_
  unfold gN gt
  rw [List.getElem?_append_left hk]) (by simp; omega)
 refine ⟨l', ?_, k2, k3.trans (List.perm_append_singleton _ _)⟩
 unfold q9 B0 o6
 simp only [ha, oB, e1, k1]
theorem ndown_ok {l : List Nd} {nv : Nat} (hn : nv < l.length) (hd : DnI nle (gN l) nv 0) (hb : l.length ≤ 1000000000) :
  ∃ l' b, x9 0 (nv : Int) l = some (l', b) ∧ HpO nle (gN l') nv ∧ l'.Perm l ∧ gN l' nv = gN l nv := by
 unfold x9
 obtain ⟨o, o1, o2, o3, o4⟩ := M1 (body := A7 (nv : Int)) (s := (l, (0 : Int)))
  (fun s => s.1.Perm l ∧ 0 ≤ s.2 ∧ s.2 < l.length ∧ DnI nle (gN s.1) nv s.2.toNat ∧ gN s.1 nv = gN l nv ∧ (s.2 = 0 ∨ s.2 < nv)) (fun o => HpO nle (gN o.1) nv ∧ o.1.Perm l ∧ gN o.1 nv = gN l nv) (fun s => (nv : Nat) + 1 - s.2.toNat)
  ⟨.refl _, by simp, by simp; omega, hd, rfl, .inl rfl⟩ (by
   rintro ⟨c, i⟩ ⟨p1, p2, p3, p4, p5, p6⟩
   simp only at p1 p2 p3 p4 p5 p6
   have hl := p1.length_eq
   unfold A7
   have e1 : w64 (w64 (2 * i) + 1) = 2 * i + 1 := by rw [m6 (n := 2 * i) (by omega) (by omega), m6 (by omega) (by omega)]
   simp only [e1]
   by_cases c1 : (nv : Int) ≤ 2 * i + 1
   ·rw [if_pos (by simp [c1])]
    exact .inr ⟨_, rfl, dn_done p4 fun k k0 k1 k2 => by omega, p1, p5⟩
   rw [if_neg (by simp; omega)]
   have e2 : w64 (2 * i + 1 + 1) = 2 * i + 2 := by rw [m6 (by omega) (by omega)]; omega
   simp only [e2]
   obtain ⟨x, hx, _⟩ := j7 (l := c) p2 (by omega)
   have gx := gN_ix hx
   obtain ⟨j, y, j1, hy, j2, j3, j4, j5⟩ : ∃ j y, (Option.bind (if 2 * i + 2 < (nv : Int) then Option.bind (l8 (2 * i + 2) (2 * i + 1) c) fun a32 => some a32 else some false) fun t63 => if t63 = true then some (2 * i + 2) else some (2 * i + 1)) = some j ∧ ix c j = some y ∧ i < j ∧ j < nv ∧ (j - 1) / 2 = i ∧ ∀ k, 0 < k → k < nv → (k - 1) / 2 = i.toNat → nle y (gN c k) := by
    obtain ⟨a, ha, _⟩ := j7 (l := c) (i := 2 * i + 1) (by omega) (by omega)
    have ga := gN_ix ha
    by_cases c2 : 2 * i + 2 < (nv : Int)
    ·obtain ⟨b, hb, _⟩ := j7 (l := c) (i := 2 * i + 2) (by omega) (by omega)
     have gb := gN_ix hb
     rw [if_pos c2, nless_eq hb ha]
     have two : ∀ k, 0 < k → k < nv → (k - 1) / 2 = i.toNat → k = (2 * i + 1).toNat ∨ k = (2 * i + 2).toNat := fun k _ _ _ => by omega
     by_cases c3 : nlt b a
     ·rw [j9 c3]
      refine ⟨2 * i + 2, b, rfl, hb, by omega, c2, by omega, fun k k0 k1 k2 => ?_⟩
      rcases two k k0 k1 k2 with rfl | rfl
      ·rw [ga]; exact nle_of c3
      ·rw [gb]; exact af5 _
     ·rw [n4 c3]
      refine ⟨2 * i + 1, a, rfl, ha, by omega, by omega, by omega, fun k k0 k1 k2 => ?_⟩
      rcases two k k0 k1 k2 with rfl | rfl
      ·rw [ga]; exact af5 _
      ·rw [gb]; exact c3
    ·rw [if_neg c2]
     refine ⟨2 * i + 1, a, rfl, ha, by omega, by omega, by omega, fun k k0 k1 k2 => ?_⟩
     have : k = (2 * i + 1).toNat := by omega
     subst this
     rw [ga]; exact af5 _
   rw [j1, Option.bind_some, nless1, nless_eq hy hx]
   simp only [oB]
   by_cases c4 : nlt y x
   ·simp only [j9 c4, Bool.not_true, Bool.false_eq_true, if_false, nswap_eq hx hy, oB, X2, W2, if_true]
    have i1 := (l7 hx).2.2
    have i2 := (l7 hy).2.2
    have hsw : gN (swp c i.toNat j.toNat x y) = sw (gN c) i.toNat j.toNat := gt_swp i1 i2
    refine .inl ⟨_, rfl, ⟨(swp_perm i1 i2).trans p1, by simp only; omega, by simp only; omega, ?_, ?_, .inr j3⟩, by simp only; omega⟩
    ·simp only [hsw]
     exact dn_step p4 (by omega) (by omega) (by omega) (fun k k0 k1 k2 => by rw [gN_ix hy]; exact j5 k k0 k1 k2) (by rw [gN_ix hy, gx]; exact nle_of c4)
    ·simp only [hsw]
     rw [sw_o (by omega) (by omega)]; exact p5
   ·simp only [n4 c4, Bool.not_false, if_true]
    refine .inr ⟨_, rfl, dn_done p4 fun k k0 k1 k2 => ?_, p1, p5⟩
    rw [gx]
    exact nle_trans _ _ _ c4 (j5 k k0 k1 k2))
 exact ⟨o.1, _, by rw [o1]; rfl, o2, o3, o4⟩
theorem npop_ok {l : List Nd} (h : HpN l) (hl : 0 < l.length) (hb : l.length ≤ 1000000000) : ∃ l' x, A0 l = some (l', x) ∧ HpN l' ∧ l.Perm (x :: l') ∧ ∀ y ∈ l, nle x y := by
 have e1 : w64 ((l.length : Int) - 1) = (l.length : Int) - 1 := m6 (by omega) (by omega)
 obtain ⟨x, hx, _⟩ := j7 (l := l) (i := 0) (by omega) (by omega)
 obtain ⟨y, hy, _⟩ := j7 (l := l) (i := (l.length : Int) - 1) (by omega) (by omega)
 have gx := gN_ix hx
 have hnat : ((l.length : Int) - 1).toNat = l.length - 1 := by omega
 have i1 := (l7 hx).2.2
 have i2 := (l7 hy).2.2
 have hsw : gN (swp l (0 : Int).toNat ((l.length : Int) - 1).toNat x y) = sw (gN l) 0 (l.length - 1) := by rw [← hnat]; exact gt_swp i1 i2
 obtain ⟨l1, b, d1, d2, d3, d4⟩ := ndown_ok (l := swp l (0 : Int).toNat ((l.length : Int) - 1).toNat x y) (nv := l.length - 1) (by rw [W2]; omega) (by
  rw [hsw]
  exact hp_pop (n := l.length - 1) (by rw [show l.length - 1 + 1 = l.length by omega]; exact h)) (by rw [W2]; exact hb)
 have hp1 := d3.trans (swp_perm i1 i2)
 have hl1 := hp1.length_eq
 have hlast : gN l1 (l.length - 1) = x := by rw [d4, hsw, sw_r]; exact gx
 obtain ⟨z, hz, gz⟩ := j7 (l := l1) (i := (l.length : Int) - 1) (by omega) (by omega)
 have hzx : z = x := by rw [← hlast, ← hnat]; exact (gN_ix hz).symm
 subst hzx
 have hview : k7 l1 0 ((l.length : Int) - 1) = l1.dropLast := by
  unfold k7
  simp only [Int.toNat_zero, List.drop_zero, List.dropLast_eq_take, hnat, hl1]
 have hsnoc : l1.dropLast ++ [z] = l1 := by
  have hne : l1 ≠ [] := by intro q; rw [q] at hl1; simp at hl1; omega
  have hlast : l1.getLast hne = z := by
   rw [List.getLast_eq_getElem]
   have := List.getElem?_eq_some_iff.1 gz
   have e : ((l.length : Int) - 1).toNat = l1.length - 1 := by omega
   simp only [e] at this
   exact this.2
  rw [← hlast]; exact List.dropLast_concat_getLast hne
 refine ⟨l1.dropLast, z, ?_, ?_, ?_, fun w hw => ?_⟩
 ·unfold A0 o6 A6
  have e2 : ((l.length - 1 : Nat) : Int) = (l.length : Int) - 1 := by omega
  rw [e2] at d1
  simp only [oB, e1, nswap_eq hx hy, X2, W2, if_true, d1, hl1, hz, cutV]
  rw [if_pos (by omega)]
  simp only [oB]
  rw [hview]
 ·unfold HpN
  have : l1.dropLast.length = l.length - 1 := by rw [List.length_dropLast]; omega
  rw [this]
  intro k k0 k1
  have := d2 k k0 k1
  unfold gN gt at this ⊢
  rw [List.dropLast_eq_take, List.getElem?_take_of_lt (by omega), List.getElem?_take_of_lt (by omega)]
  exact this
 ·have := hp1.symm
  rw [← hsnoc] at this
  exact this.trans (List.perm_append_singleton _ _)
 ·obtain ⟨k, hk⟩ := List.getElem?_of_mem hw
  have h1 := hp_root af5 nle_trans h k (List.getElem?_eq_some_iff.1 hk).1
  have e : gN l k = w := gt_of hk
  have e0 : gN l 0 = z := gx
  rw [e, e0] at h1; exact h1
end Ab
end
section
namespace Ab
open Go
inductive Ed : Nat → List Int → List Int → Prop
 | nil : Ed 0 [] []
 | keep {n : Nat} {x : Int} {a b : List Int} (h : Ed n a b) : Ed n (x :: a) (x :: b)
 | del {n : Nat} {x : Int} {a b : List Int} (h : Ed n a b) : Ed (n + 1) (x :: a) b
 | ins {n : Nat} {y : Int} {a b : List Int} (h : Ed n a b) : Ed (n + 1) a (y :: b)
theorem Ed.symm {n : Nat} {a b : List Int} (h : Ed n a b) : Ed n b a := by
 induction h with
 | nil => exact .nil
 | keep _ ih => exact .keep ih
 | del _ ih => exact .ins ih
 | ins _ ih => exact .del ih
theorem Ed.eq {n : Nat} {a b : List Int} (h : Ed n a b) : n = 0 → a = b := by
 induction h with
 | nil => intro _; rfl
 | keep _ ih => intro h; rw [ih h]
 | del => intro h; omega
 | ins => intro h; omega
theorem Ed.all : ∀ b : List Int, Ed b.length [] b
 | [] => .nil
 | _ :: b => .ins (Ed.all b)
theorem Ed.none : ∀ b : List Int, Ed b.length b []
 | [] => .nil
 | _ :: b => .del (Ed.none b)
/-! ### Distance -/
def RowIs (m : Nat) (f : Nat → Nat) (row : List Int) : Prop := row.length = m + 1 ∧ ∀ k, k ≤ m → row[k]? = some (f k : Int)
theorem RowIs.ix {m : Nat} {f : Nat → Nat} {row : List Int} (h : RowIs m f row) {k : Nat} (hk : k ≤ m) : ix row (k : Int) = some (f k : Int) := by rw [I6]; exact h.2 k hk
theorem RowIs.set {m : Nat} {f : Nat → Nat} {row : List Int} (h : RowIs m f row) (k v : Nat) : RowIs m (fun i => if i = k then v else f i) (row.set k (v : Int)) := by
 refine ⟨by rw [List.length_set]; exact h.1, fun i hi => ?_⟩
 rw [List.getElem?_set]
 by_cases e : k = i
 ·subst e; simp [h.1]; omega
 ·rw [if_neg e, h.2 i hi]; simp [show ¬ i = k from fun e' => e e'.symm]
end Ab
end
section
namespace Ab
open Go
end Ab
end
section
namespace Ab
open Go
theorem ai5 {α β : Type} {l : List α} {body : Int → List β → Option (List β)} (g : α → List β) (N : Nat) (c0 : List β)
  (hb : ∀ j a c, ix l j = some a → c.length + (g a).length ≤ N → body j c = some (c ++ g a)) (hN : c0.length + (l.flatMap g).length ≤ N) :
  forR 0 (l.length : Int) body c0 = some (c0 ++ l.flatMap g) := by
 obtain ⟨s', h1, h2⟩ := E3 (body := body) (n := (l.length : Int)) (s := c0) (fun j c => c = c0 ++ (l.take j.toNat).flatMap g) (by omega) (by simp) (fun j c h0 h1 hP => by
  obtain ⟨a, g1, g2⟩ := j7 h0 h1
  have e : (j + 1).toNat = j.toNat + 1 := by omega
  have ht : l.take (j + 1).toNat = l.take j.toNat ++ [a] := by rw [e, List.take_add_one, g2]; rfl
  refine ⟨c ++ g a, hb j a c g1 ?_, ?_⟩
  ·have hs : l = l.take j.toNat ++ [a] ++ l.drop (j + 1).toNat := by rw [← ht, List.take_append_drop]
   have hl : (l.flatMap g).length = ((l.take j.toNat).flatMap g).length + (g a).length + ((l.drop (j + 1).toNat).flatMap g).length := by
    conv => lhs; rw [hs]
    simp [List.flatMap_append]; omega
   rw [hP, List.length_append]; omega
  ·rw [ht, List.flatMap_append, hP]; simp)
 rw [h1, h2]
 simp
theorem small_eq : ∀ n : Fin 100, (internal_strconv_small (n : Nat)).map strL = some (dg (n : Nat)) := by decide +kernel
theorem appendInt_eq {x : Int} (hx : 0 ≤ x ∧ x < 100) {l : List Int} (hl : l.length ≤ 1000000) : u6 x 10 l = some (l ++ dg x) := by
 have h := small_eq ⟨x.toNat, by omega⟩
 rw [show (((⟨x.toNat, by omega⟩ : Fin 100) : Nat) : Int) = x by simp; omega] at h
 obtain ⟨b, h1, h2⟩ := Option.map_eq_some_iff.1 h
 first
  | unfold u6 u3 s6
  | unfold u6 internal_strconv_AppendInt_w2 internal_strconv_AppendUint_w3
 rw [if_neg (by omega), IntKind.wrap_u64, Int.emod_eq_of_lt (by omega) (by omega)]
 simp only [oB, if_true]
 rw [if_pos hx.2, m6 (by omega) (by omega), h1]
 simp only [oB, h2]
 have : (dg x).length ≤ 2 := by unfold dg; split <;> simp
 rw [app, if_pos (by omega)]
 rfl
theorem dg_len (x : Int) : (dg x).length ≤ 2 := by unfold dg; split <;> simp
theorem key_eq {l : List (List Int)} (hs : ∀ s ∈ l, O2 s) (hN : (encK l).length ≤ 900000) : D0 l = some (keyK l) := by
 unfold D0
 rw [ai5 encS 900000 [] (fun j s c hj hc => by
  unfold Y3
  rw [hj]
  simp only [oB]
  have hlen : (encS s).length = (s.flatMap fun x => dg x ++ [44]).length + 1 := by simp [encS]
  rw [ai5 (fun x => dg x ++ [44]) 900000 c (fun i x c' hi hc' => by
   unfold Y2
   rw [hi]
   simp only [List.length_append, List.length_singleton] at hc'
   simp only [oB, appendInt_eq (hs s (o9 hj) x (o9 hi)) (l := c') (by omega)]
   rw [app, if_pos (by simp; omega)]
   simp) (by omega)]
  simp only [oB]
  rw [app, if_pos (by rw [List.length_append]; simp only [List.length_singleton]; omega)]
  simp [encS]) (by simpa [encK] using hN)]
 rfl
theorem af4 : ∀ s : List Int, (encS s).length ≤ 3 * s.length + 1
 | [] => by simp [encS]
 | x :: s => by
  have := af4 s
  have := dg_len x
  rw [W9]
  simp only [List.length_append, List.length_cons]
  omega
theorem key2_eq {s a : List Int} (hs : O2 s) (ha : O2 a) (h1 : s.length ≤ 1000) (h2 : a.length ≤ 1000) : D0 [s, a] = some (keyK [s, a]) := by
 refine key_eq (by simp [hs, ha]) ?_
 have := af4 s; have := af4 a
 simp only [encK, List.flatMap_cons, List.flatMap_nil, List.length_append, List.append_nil]
 omega
end Ab
end
section
namespace Ab
open Go
/-! ### All sets -/
/-! ### Keys -/
theorem flat_lenP {α β : Type} (f : α → List β) (n : Nat) (hf : ∀ a, (f a).length = n) : ∀ l : List α, (l.flatMap f).length = l.length * n
 | [] => by simp
 | a :: l => by simp only [List.flatMap_cons, List.length_append, flat_lenP f n hf l, hf, List.length_cons, Nat.succ_mul]; omega
theorem O4 {t : f7} (ht : k9 t) {s : List Int} (hs : SetN s t.facts) : O2 s := fun x hx => by
 have := ht.n1
 have := hs.2 x hx
 omega
/-! ### Maps -/
section
variable {K V : Type} [DecidableEq K]
end
/-! ### What the search keeps -/
abbrev Mp' := List (ByteArray × Int)
end Ab
end
section
namespace Ab
open Go
theorem kone_eq {s : List Int} (hs : O2 s) (h1 : s.length ≤ 1000) : D0 [s] = some (keyK [s]) := by
 refine key_eq (by simp [hs]) ?_
 have := af4 s
 simp only [encK, List.flatMap_cons, List.flatMap_nil, List.append_nil]
 omega
theorem kone_inj {t : f7} (ht : k9 t) {s s' : List Int} (h : SetN s t.facts) (h' : SetN s' t.facts) (e : keyK [s] = keyK [s']) : s = s' := by
 have := keyK_inj (fun x hx => by simp at hx; subst hx; exact O4 ht h) (fun x hx => by simp at hx; subst hx; exact O4 ht h') e
 simpa using this
theorem containsAny_eq {l : List (List Int)} {f : List Int → Option Bool} {p : List Int → Prop} (h : ∀ x ∈ l, f x = some (dec (p x))) : s7 l f = some (dec (∃ x ∈ l, p x)) := by
 unfold s7 D1
 rcases D5 (body := B1 l f) (n := (l.length : Int)) (fun j => if dec (∃ x, ix l j = some x ∧ p x) = true then some j else none) (by omega) (fun j h0 h1 _ => by
  obtain ⟨x, hx, _⟩ := j7 (l := l) h0 h1
  unfold B1
  simp only [hx, oB, h x (o9 hx)]
  by_cases e : p x
  ·rw [ifP e, ifP ⟨x, rfl, e⟩]
  ·rw [ifN e, ifN (by rintro ⟨z, hz, hp⟩; cases hz; exact e hp)]) with ⟨h1, h2⟩ | ⟨j, o, h0, h1, h2, h3, h4⟩
 ·rw [h1]
  simp only [oB]
  rw [n4]
  ·rfl
  ·rintro ⟨x, hx, hp⟩
   obtain ⟨i, i0, i1, hi⟩ := E8 hx
   have := h2 i i0 i1
   rw [ifP ⟨x, hi, hp⟩] at this
   cases this
 ·rw [h4]
  split at h2
  ·rename_i e
   cases h2
   simp only [oB]
   obtain ⟨x, hx, hp⟩ := i9.1 e
   rw [j9 ⟨x, o9 hx, hp⟩, decide_eq_true h0]
  ·cases h2
theorem sure_one {s pre : List Int} (hs : Inc s) (hp : Inc pre) (hl : s.length ≤ 1000000) : Q6 [s] pre = some (dec (∀ x ∈ pre, x ∈ s)) := by
 unfold Q6
 rw [containsAny_eq (p := fun y => ¬ ∀ x ∈ pre, x ∈ y) (fun x hx => by
  simp only [List.mem_singleton] at hx
  subst hx
  unfold R1
  rw [ad7 hs hp hl]
  simp only [oB, B8])]
 simp only [oB, B8]
 refine congrArg some (L5 ⟨fun h => Classical.byContradiction fun g => h ⟨s, by simp, g⟩, fun h => ?_⟩)
 rintro ⟨x, hx, hn⟩
 simp only [List.mem_singleton] at hx
 subst hx
 exact hn h
theorem after_one {t : f7} (ht : k9 t) {s : List Int} (hs : SetN s t.facts) {op : Int} (h0 : 0 ≤ op) (h1 : op < t.operators.length) : K4 t [s] op = some [aft t s op] := by
 have e : forR 0 (([s] : List (List Int)).length : Int) (I9 t [s] op) [] = some [aft t s op] := by
  show forN (I9 t [s] op) 1 0 [] = _
  simp only [forN]
  have e0 : ix [s] 0 = some s := rfl
  have e1 : app 24 ([] : List (List Int)) [aft t s op] = some [aft t s op] := rfl
  unfold I9
  simp only [e0, oB, next_eq ht h0 h1 hs, e1]
 unfold K4
 rw [e]
 simp only [oB]
 obtain ⟨r, r1, r2, r3, _⟩ := normal_eq (l := [aft t s op]) (by simp)
 rw [r1]
 simp only [oB]
 rw [Ord.ext r2 (by simp) r3]
structure Bq (t : f7) (l : List (List Int)) (m : Mp') (qu : List g8) : Prop where
 node : qu.map (·.node) = l.map (fun s => [s])
 nd : l.Nodup
 rt : ∀ s ∈ l, Rt t s
 map : ∀ s, SetN s t.facts → (0 < (mget m (keyK [s])).getD 0 ↔ s ∈ l)
 len : l.length ≤ 2000
theorem Bq.ql {t : f7} {l : List (List Int)} {m : Mp'} {qu : List g8} (h : Bq t l m qu) : qu.length = l.length := by
 have := congrArg List.length h.node
 simpa using this
theorem Bq.at {t : f7} {l : List (List Int)} {m : Mp'} {qu : List g8} (h : Bq t l m qu) {i : Int} {e : g8} (hi : ix qu i = some e) : ∃ s, ix l i = some s ∧ e.node = [s] := by
 obtain ⟨h0, h1, h2⟩ := l7 hi
 have hg := congrArg (fun l => l[i.toNat]?) h.node
 simp only [List.getElem?_map, h2, Option.map_some] at hg
 cases hs : l[i.toNat]? with
 | none => rw [hs] at hg; cases hg
 | some s =>
  rw [hs] at hg
  simp only [Option.map_some, Option.some.injEq] at hg
  refine ⟨s, ?_, hg⟩
  rw [show i = ((i.toNat : Nat) : Int) by omega, I6]
  exact hs
theorem breadth_in {t : f7} (ht : k9 t) {l : List (List Int)} {m : Mp'} {qu : List g8} (h : Bq t l m qu) {c : Int} {e : g8} {s : List Int} (hs : s ∈ l) (he : e.node = [s]) :
  (∃ l' m' qu', w7 t.facts t.init t.goal t.operators qu m c e = some (.inl (m', qu')) ∧ Bq t l' m' qu' ∧ (∃ ex, l' = l ++ ex) ∧ Cls t l' s) ∨ (∃ y, w7 t.facts t.init t.goal t.operators qu m c e = some (.inr y) ∧ Many t) := by
 have hsN := (h.rt s hs).setN ht
 have h24 := ht.n1
 unfold w7
 rcases ac2 (body := C1 t.facts t.init t.goal t.operators c e) (n := (t.operators.length : Int)) (s := (m, qu))
  (fun j st => ∃ l', Bq t l' st.1 st.2 ∧ (∃ ex, l' = l ++ ex) ∧ ∀ op : Int, 0 ≤ op → op < j → can t s op → aft t s op ∈ l')
  (fun o => ∃ y, o = .inr y ∧ Many t) (by omega) ⟨l, h, ⟨[], by simp⟩, fun op o0 o1 => by omega⟩
  (fun j st j0 j1 hP => by
   obtain ⟨m1, qu1⟩ := st
   obtain ⟨l1, g1, g2, g3⟩ := hP
   simp only at g1
   have hop := ht.at j0 j1
   have hnew := setN_aft t s j
   unfold C1
   simp only [ix_op j0 j1, oB, he]
   rw [sure_one hsN.1 hop.1.1.1 (by have := hsN.len; omega)]
   simp only [oB]
   by_cases hc : can t s j
   ·rw [if_pos (j9 (show ∀ x ∈ (opAt t j).pre, x ∈ s from hc))]
    have ea : K4 (⟨t.facts, t.init, t.goal, t.operators⟩ : f7) [s] j = some [aft t s j] := after_one ht hsN j0 j1
    rw [ea]
    simp only [oB, kone_eq (O4 ht hnew) (by have := hnew.len; omega)]
    by_cases hm : aft t s j ∈ l1
    ·rw [if_pos ((g1.map _ hnew).2 hm)]
     refine .inl ⟨_, rfl, l1, g1, g2, fun op o0 o1 oc => ?_⟩
     by_cases eo : op = j
     ·subst eo; exact hm
     ·exact g3 op o0 (by omega) oc
    ·rw [if_neg (fun hx => hm ((g1.map _ hnew).1 hx))]
     have hrt : Rt t (aft t s j) := (h.rt s hs).step j0 j1 hc
     have hnd : (l1 ++ [aft t s j]).Nodup := by
      rw [List.nodup_append]
      refine ⟨g1.nd, by simp, fun a ha b hb eab => ?_⟩
      simp only [List.mem_singleton] at hb
      subst hb; subst eab; exact hm ha
     have hrs : ∀ y ∈ l1 ++ [aft t s j], Rt t y := fun y hy => by
      rcases List.mem_append.1 hy with hy | hy
      ·exact g1.rt y hy
      ·simp only [List.mem_singleton] at hy; subst hy; exact hrt
     have hql := g1.ql
     have hlen := g1.len
     by_cases hq : (qu1.length : Int) = 2000
     ·rw [if_pos hq]
      exact .inr ⟨_, rfl, _, rfl, l1 ++ [aft t s j], hnd, by simp; omega, hrs⟩
     ·rw [if_neg hq]
      have ha : app 40 qu1 [(⟨[aft t s j], c, j⟩ : g8)] = some (qu1 ++ [⟨[aft t s j], c, j⟩]) := by rw [app, if_pos (by simp; omega)]
      rw [ha]
      refine .inl ⟨_, rfl, l1 ++ [aft t s j], ⟨by simp [g1.node], hnd, hrs, fun y hy => ?_, by simp; omega⟩, ?_, fun op o0 o1 oc => ?_⟩
      ·simp only
       rw [X5]
       by_cases ek : keyK [y] = keyK [aft t s j]
       ·rw [if_pos ek, kone_inj ht hy hnew ek]; simp
       ·rw [if_neg ek, g1.map y hy, List.mem_append, List.mem_singleton]
        exact ⟨.inl, fun g => g.elim id fun g => absurd (by rw [g]) ek⟩
      ·obtain ⟨ex, rfl⟩ := g2
       exact ⟨ex ++ [aft t s j], by simp⟩
      ·by_cases eo : op = j
       ·subst eo; simp
       ·exact List.mem_append_left _ (g3 op o0 (by omega) oc)
   ·rw [if_neg (show ¬ dec (∀ x ∈ (opAt t j).pre, x ∈ s) = true from fun g => hc (i9.1 g))]
    refine .inl ⟨_, rfl, l1, g1, g2, fun op o0 o1 oc => ?_⟩
    by_cases eo : op = j
    ·subst eo; exact absurd oc hc
    ·exact g3 op o0 (by omega) oc) with ⟨⟨m', qu'⟩, h1, l', h2, h3, h4⟩ | ⟨o, h1, y, rfl, h2⟩
 ·left
  rw [h1]
  exact ⟨l', m', qu', rfl, h2, h3, h4⟩
 ·right
  rw [h1]
  exact ⟨y, rfl, h2⟩
theorem breadth_spec {t : f7} (ht : k9 t) : ∃ b, D7 [t.init] t.facts t.init t.goal t.operators = some b ∧ (b = false → Many t) ∧ (b = true → ∃ l : List (List Int), l.Nodup ∧ l.length ≤ 2000 ∧ ∀ s, s ∈ l ↔ Rt t s) := by
 have h24 := ht.n1
 unfold D7 F3
 rw [kone_eq (O4 ht ht.init) (by have := ht.init.len; omega)]
 simp only [oB]
 obtain ⟨o, h1, h2⟩ := M1 (body := C0 t.facts t.init t.goal t.operators) (s := ([(⟨[t.init], -1, 0⟩ : g8)], mset ([] : List (ByteArray × Int)) (keyK [t.init]) 1, 0))
  (fun s => ∃ l, Bq t l s.2.1 s.1 ∧ t.init ∈ l ∧ 0 ≤ s.2.2 ∧ s.2.2 ≤ l.length ∧ ∀ (k : Int) (x : List Int), k < s.2.2 → ix l k = some x → Cls t l x)
  (fun o => (o = .inl () ∧ ∃ l : List (List Int), l.Nodup ∧ l.length ≤ 2000 ∧ ∀ s, s ∈ l ↔ Rt t s) ∨ (o = .inr ([], false, false) ∧ Many t))
  (fun s => 2001 - s.2.2.toNat) ⟨[t.init], ⟨rfl, by simp, fun s hs => by simp at hs; subst hs; exact .init, fun s hs => by
   simp only
   rw [X5]
   by_cases ek : keyK [s] = keyK [t.init]
   ·rw [if_pos ek, kone_inj ht hs ht.init ek]; simp
   ·rw [if_neg ek]
    simp only [mget, Option.getD_none, List.mem_singleton]
    exact ⟨fun h => by omega, fun g => absurd (by rw [g]) ek⟩, by simp⟩, by simp, by simp only; omega, by simp only; omega, fun k x hk hx => by have := l7 hx; simp only at hk; omega⟩
  (fun s hP => by
   obtain ⟨qu, m, c⟩ := s
   obtain ⟨l, g1, g2, g3, g4, g5⟩ := hP
   simp only at g1 g3 g4 g5
   have hql := g1.ql
   have hlen := g1.len
   unfold C0
   dsimp only
   by_cases cc : c < (qu.length : Int)
   ·rw [if_pos cc]
    obtain ⟨e, he, _⟩ := j7 (l := qu) g3 cc
    obtain ⟨s, hs, hn⟩ := g1.at he
    simp only [he, oB, H5, O0, G4]
    rw [if_neg (by simp)]
    rcases breadth_in ht g1 (c := c) (o9 hs) hn with ⟨l', m', qu', k1, k2, ⟨ex, rfl⟩, k4⟩ | ⟨⟨y1, y2⟩, k1, k2⟩
    ·left
     rw [k1]
     refine ⟨(qu', m', c + 1), by simp only [oB]; rw [m6 (by omega) (by omega)], ⟨l ++ ex, k2, List.mem_append_left _ g2, by simp only; omega, by simp only [List.length_append]; omega, fun k x hk hx => ?_⟩, by simp only; omega⟩
     simp only at hk
     have hx0 := l7 hx
     have hx2 : ix l k = some x := by
      rw [show k = ((k.toNat : Nat) : Int) by omega, I6] at hx ⊢
      rwa [List.getElem?_append_left (by omega)] at hx
     by_cases ek : k = c
     ·subst ek
      rw [hs] at hx2; cases hx2
      exact k4
     ·exact fun op o0 o1 oc => List.mem_append_left _ (g5 k x (by omega) hx2 op o0 o1 oc)
    ·right
     rw [k1]
     exact ⟨_, rfl, .inr ⟨rfl, k2⟩⟩
   ·rw [if_neg cc]
    right
    refine ⟨_, rfl, .inl ⟨rfl, l, g1.nd, hlen, fun s => ⟨g1.rt s, fun hs => hs.mem g2 fun x hx => ?_⟩⟩⟩
    obtain ⟨k, k0, k1, k2⟩ := E8 hx
    exact g5 k x (by omega) k2)
 rw [h1]
 rcases h2 with ⟨rfl, h2⟩ | ⟨rfl, h2⟩
 ·exact ⟨true, rfl, by simp, fun _ => h2⟩
 ·exact ⟨false, rfl, fun _ => h2, by simp⟩
end Ab
end
section
namespace Ab
open Go
def tri (n : Nd) : Tr := (n.fs, n.seen.toNat, n.cost)
def HS (H : List Nd) (y : Tr) : Prop := ∃ n ∈ H, tri n = y
def nkey (s : List Int) (k : Int) : ByteArray := keyK [s, [k]]
theorem small1 {k : Int} (h0 : 0 ≤ k) (h1 : k ≤ 60) : O2 [k] := fun x hx => by simp at hx; omega
theorem nkey_eq {t : f7} (ht : k9 t) {s : List Int} (hs : SetN s t.facts) {k : Int} (h0 : 0 ≤ k) (h1 : k ≤ 60) : D0 [s, [k]] = some (nkey s k) :=
 key2_eq (O4 ht hs) (small1 h0 h1) (by have := hs.len; have := ht.n1; omega) (by simp)
theorem nkey_inj {t : f7} (ht : k9 t) {s s' : List Int} {k k' : Int} (hs : SetN s t.facts) (hs' : SetN s' t.facts) (h0 : 0 ≤ k) (h1 : k ≤ 60) (h0' : 0 ≤ k') (h1' : k' ≤ 60) (e : nkey s k = nkey s' k') : s = s' ∧ k = k' := by
 have := keyK_inj (l := [s, [k]]) (l' := [s', [k']]) (fun a ha => by
  simp at ha; rcases ha with rfl | rfl
  ·exact O4 ht hs
  ·exact small1 h0 h1) (fun a ha => by
  simp at ha; rcases ha with rfl | rfl
  ·exact O4 ht hs'
  ·exact small1 h0' h1') e
 simpa using this
theorem repeat1_eq (c : Int) {n : Nat} (h1 : 1 ≤ n) (hn : n ≤ 100000) : A4 [c] (n : Int) = some (List.replicate n c) := by
 unfold A4
 dsimp only
 rw [if_pos (show (1 : Int) ≤ n ∧ (n : Int) ≤ 4294967295 by omega)]
 simp
section
variable {t : f7} {ob : List Int} {goals : List (List Int)} {S : List (List Int)}
structure Rq (t : f7) (goals : List (List Int)) (ob : List Int) (S : List (List Int)) : Prop where
 ht : k9 t
 g0 : 1 ≤ goals.length
 g1 : goals.length ≤ 4
 gs : ∀ g ∈ goals, SetN g t.facts
 o8 : ob.length ≤ 8
 sn : S.length ≤ 2000
 sm : ∀ s, Rt t s → s ∈ S
def allK (S : List (List Int)) : List ByteArray := S.flatMap fun s => (List.range 9).map fun k : Nat => nkey s (k : Int)
theorem allK_len : (allK S).length ≤ S.length * 9 := by
 unfold allK
 rw [flat_lenP _ 9 (fun a => by simp)]
 exact Nat.le_refl _
theorem allK_mem {s : List Int} (hs : s ∈ S) {k : Int} (h0 : 0 ≤ k) (h1 : k ≤ 8) : nkey s k ∈ allK S :=
 List.mem_flatMap.2 ⟨s, hs, List.mem_map.2 ⟨k.toNat, List.mem_range.2 (by omega), by rw [Int.toNat_of_nonneg h0]⟩⟩
abbrev Mb := List (ByteArray × Int)
structure Mk' (t : f7) (S : List (List Int)) (m : Mb) (D : Tr → Prop) : Prop where
 nd : (m.map (·.1)).Nodup
 sub : ∀ k ∈ m.map (·.1), k ∈ allK S
 iff : ∀ s k, SetN s t.facts → 0 ≤ k → k ≤ 8 → (0 < Option.getD (mget m (nkey s k)) 0 ↔ ∃ d, D (s, k.toNat, d))
theorem Mk'.len {m : Mb} {D : Tr → Prop} (h : Mk' t S m D) : m.length ≤ S.length * 9 := by
 have := T0 h.nd h.sub
 have := allK_len (S := S)
 simp at *; omega
structure Wf (ob : List Int) (C : Int) (n : Nd) : Prop where
 s0 : 0 ≤ n.seen
 s1 : n.seen ≤ ob.length
 c1 : n.cost ≤ C
structure Rv' (t : f7) (goals : List (List Int)) (ob : List Int) (S : List (List Int)) (o : List Int) (H : List Nd) (m : Mb) (cnt : Int) (D : Tr → Prop) : Prop where
 hp : HpN H
 wf : ∀ n ∈ H, Wf ob (100 * m.length) n
 dj : ∃ B, Dj t ob (HS H) D B
 mp : Mk' t S m D
 ol : o.length = goals.length
 og : ∀ (i : Int) g k, ix goals i = some g → ix o i = some k → Got ob g D k
 hl : H.length ≤ 1 + 80 * m.length
 cn : 0 ≤ cnt ∧ cnt ≤ 1 + 80 * m.length
theorem rg_goals (hq : Rq t goals ob S) {x : Nd} {o : List Int} {D : Tr → Prop} {B : Int} (hs : SetN x.fs t.facts) (h0 : 0 ≤ x.seen) (hc : x.cost < 1000000000) (hD : ∀ y, D y → y.2.2 ≤ B) (hB : B ≤ x.cost) (ol : o.length = goals.length) (og : ∀ (i : Int) g k, ix goals i = some g → ix o i = some k → Got ob g D k) (H : List Nd) :
  ∃ o', forR 0 (goals.length : Int) (D6 goals ob (H, x)) o = some o' ∧ o'.length = goals.length ∧ ∀ (i : Int) g k, ix goals i = some g → ix o' i = some k → Got ob g (fun y => y = tri x ∨ D y) k := by
 have skip : ∀ g k, Got ob g D k → (¬ (x.seen = ob.length ∧ ∀ y ∈ g, y ∈ x.fs) ∨ k ≠ 1000000000) → Got ob g (fun y => y = tri x ∨ D y) k := fun g k hg h => by
  have hsn : x.seen.toNat = ob.length ↔ x.seen = ob.length := by omega
  rcases hg with ⟨rfl, hn⟩ | ⟨hk, w, w1, w2, w3, w4, w5⟩
  ·refine .inl ⟨rfl, fun y hy h2 h3 => ?_⟩
   rcases hy with rfl | hy
   ·exact (h.resolve_right (by simp)) ⟨hsn.1 h2, h3⟩
   ·exact hn y hy h2 h3
  ·refine .inr ⟨hk, w, .inr w1, w2, w3, w4, fun z hz h2 h3 => ?_⟩
   rcases hz with rfl | hz
   ·have := hD w w1
    simp only [tri]; omega
   ·exact w5 z hz h2 h3
 obtain ⟨o', h1, h2, h3⟩ := E3 (body := D6 goals ob (H, x)) (n := (goals.length : Int)) (s := o)
  (fun j c => c.length = goals.length ∧ ∀ (i : Int) g k, ix goals i = some g → ix c i = some k → (i < j → Got ob g (fun y => y = tri x ∨ D y) k) ∧ (j ≤ i → Got ob g D k)) (by omega)
  ⟨ol, fun i g k hg hk => ⟨fun h => by have := (l7 hg).1; omega, fun _ => og i g k hg hk⟩⟩ (fun j c j0 j1 hP => by
   obtain ⟨p1, p2⟩ := hP
   obtain ⟨g, hg, _⟩ := j7 j0 j1
   obtain ⟨k, hk, _⟩ := j7 (l := c) j0 (by omega)
   have hgot := (p2 j g k hg hk).2 (Int.le_refl j)
   have hgs := hq.gs g (o9 hg)
   have n1 := hq.ht.n1
   unfold D6
   simp only [hg, hk, oB, ad7 hs.1 hgs.1 (by have := hs.len; omega)]
   -- the loop goes on
   have keep : Got ob g (fun y => y = tri x ∨ D y) k → ∃ s', some c = some s' ∧ s'.length = goals.length ∧ ∀ (i : Int) g k, ix goals i = some g → ix s' i = some k → (i < j + 1 → Got ob g (fun y => y = tri x ∨ D y) k) ∧ (j + 1 ≤ i → Got ob g D k) := fun hnew => ⟨c, rfl, p1, fun i g' k' hg' hk' => ⟨fun hi => by
    by_cases e : i = j
    ·subst e; rw [hg] at hg'; rw [hk] at hk'; cases hg'; cases hk'; exact hnew
    ·exact (p2 i g' k' hg' hk').1 (by omega), fun hi => (p2 i g' k' hg' hk').2 (by omega)⟩⟩
   by_cases c1 : x.seen = ob.length
   ·simp only [if_pos c1]
    by_cases c2 : k = 1000000000
    ·simp only [if_pos c2, oB]
     by_cases c3 : ∀ y ∈ g, y ∈ x.fs
     ·simp only [j9 c3, if_true]
      refine ⟨_, rfl, by simp [p1], fun i g' k' hg' hk' => ?_⟩
      rw [X8 j0 (by omega) (l7 hg').1] at hk'
      by_cases e : i = j
      ·subst e
       rw [hg] at hg'; cases hg'
       rw [if_pos rfl] at hk'; cases hk'
       refine ⟨fun _ => .inr ⟨hc, tri x, .inl rfl, by simp only [tri]; omega, c3, rfl, fun z hz h2 h3 => ?_⟩, fun h => by omega⟩
       rcases hz with rfl | hz
       ·exact Int.le_refl _
       ·rcases hgot with ⟨_, hn⟩ | ⟨hk2, _⟩
        ·exact absurd h3 (hn z hz h2)
        ·omega
      ·rw [if_neg e] at hk'
       exact ⟨fun hi => (p2 i g' k' hg' hk').1 (by omega), fun hi => (p2 i g' k' hg' hk').2 (by omega)⟩
     ·simp only [n4 c3, Bool.false_eq_true, if_false]
      exact keep (skip g k hgot (.inl fun h => c3 h.2))
    ·simp only [if_neg c2, oB, Bool.false_eq_true, if_false]
     exact keep (skip g k hgot (.inr c2))
   ·simp only [if_neg c1, oB, Bool.false_eq_true, if_false]
    exact keep (skip g k hgot (.inl fun h => c1 h.1)))
 exact ⟨o', h1, h2, fun i g k hg hk => (h3 i g k hg hk).1 (l7 hg).2.1⟩
def NxO (t : f7) (ob : List Int) (x y : Tr) (op : Int) : Prop := can t x.1 op ∧ y.1 = aft t x.1 op ∧ y.2.2 = x.2.2 + (opAt t op).cost ∧ (y.2.1 = x.2.1 ∨ ob[x.2.1]? = some op ∧ y.2.1 = x.2.1 + 1)
theorem rg_next (hq : Rq t goals ob S) {x : Nd} {H : List Nd} {cnt : Int} {C : Int} (hs : SetN x.fs t.facts) (h0 : 0 ≤ x.seen) (h1 : x.seen ≤ ob.length) (hx : x.cost ≤ C) (hx0 : 0 ≤ x.cost) (hC : C ≤ 10000000) (hp : HpN H) (hw : ∀ n ∈ H, Wf ob (C + 100) n) (hH : H.length ≤ 5000000) (hc : 0 ≤ cnt ∧ cnt ≤ 5000000) :
  ∃ cnt' H', J1 t ob cnt (H, x) = some (cnt', H') ∧ HpN H' ∧ (∀ n ∈ H', Wf ob (C + 100) n) ∧ H'.length ≤ H.length + 80 ∧ (0 ≤ cnt' ∧ cnt' ≤ cnt + 80) ∧ (∀ y, HS H y → HS H' y) ∧ (∀ y, HS H' y → HS H y ∨ Nx t ob (tri x) y) ∧ ∀ y, Nx t ob (tri x) y → HS H' y := by
 have hops := hq.ht.ops
 have ho8 := hq.o8
 unfold J1
 obtain ⟨⟨cnt', H'⟩, r1, r2, r3, r4, r5, r6, r7, r8⟩ := E3 (body := H8 t ob (H, x)) (n := (t.operators.length : Int)) (s := (cnt, H))
  (fun j c => HpN c.2 ∧ (∀ n ∈ c.2, Wf ob (C + 100) n) ∧ (c.2.length : Int) ≤ H.length + 2 * j ∧ (0 ≤ c.1 ∧ c.1 ≤ cnt + j) ∧ (∀ y, HS H y → HS c.2 y) ∧ (∀ y, HS c.2 y → HS H y ∨ ∃ op, 0 ≤ op ∧ op < j ∧ NxO t ob (tri x) y op) ∧ ∀ y op, 0 ≤ op → op < j → NxO t ob (tri x) y op → HS c.2 y) (by omega)
  ⟨hp, hw, by simp, by simp; omega, fun y h => h, fun y h => .inl h, fun y op a b => by omega⟩ (fun j c j0 j1 hP => by
   obtain ⟨cn, K⟩ := c
   obtain ⟨p1, p2, p3, p4, p5, p6, p7⟩ := hP
   simp only at p1 p2 p3 p4 p5 p6 p7
   have hco := (M2 hq.ht j0 j1).2
   have hw1 : w64 (cn + 1) = cn + 1 := m6 (by omega) (by omega)
   have hw2 : w64 (x.cost + (opAt t j).cost) = x.cost + (opAt t j).cost := m6 (by have := hco.1; omega) (by have := hco.2; omega)
   have hw3 : w64 (x.seen + 1) = x.seen + 1 := m6 (by omega) (by omega)
   unfold H8
   simp only [can_eq hq.ht j0 j1 hs, oB]
   by_cases hcan : can t x.fs j
   ·rw [if_pos (j9 hcan)]
    simp only [next_eq hq.ht j0 j1 hs, ix_op j0 j1, oB, hw1, hw2, hw3]
    obtain ⟨K1, a1, a2, a3⟩ := npush_ok p1 (⟨aft t x.fs j, x.seen, x.cost + (opAt t j).cost, cn⟩ : Nd) (by omega)
    rw [a1]
    simp only [oB]
    have m1 : ∀ n, n ∈ K1 ↔ n = (⟨aft t x.fs j, x.seen, x.cost + (opAt t j).cost, cn⟩ : Nd) ∨ n ∈ K := fun n => by rw [a3.mem_iff, List.mem_cons]
    have l1 := a3.length_eq
    have w1 : ∀ n ∈ K1, Wf ob (C + 100) n := fun n hn => by
     rcases (m1 n).1 hn with rfl | hn
     ·exact ⟨h0, h1, by have := hco.2; simp only; omega⟩
     ·exact p2 n hn
    have tr1 : tri (⟨aft t x.fs j, x.seen, x.cost + (opAt t j).cost, cn⟩ : Nd) = (aft t x.fs j, x.seen.toNat, x.cost + (opAt t j).cost) := rfl
    have in1 : HS K1 (aft t x.fs j, x.seen.toNat, x.cost + (opAt t j).cost) := ⟨_, (m1 _).2 (.inl rfl), tr1⟩
    have up1 : ∀ y, HS K y → HS K1 y := fun y ⟨n, n1, n2⟩ => ⟨n, (m1 n).2 (.inr n1), n2⟩
    simp only [List.length_cons] at l1
    by_cases c2 : x.seen < ob.length ∧ ob[x.seen.toNat]? = some j
    ·have hio : ix ob x.seen = some j := by rw [ix, if_pos h0]; exact c2.2
     simp only [if_pos c2.1, hio, oB, decide_true, if_true]
     obtain ⟨K2, b1, b2, b3⟩ := npush_ok a2 (⟨aft t x.fs j, x.seen + 1, x.cost + (opAt t j).cost, cn⟩ : Nd) (by omega)
     rw [b1]
     simp only [oB]
     have m2 : ∀ n, n ∈ K2 ↔ n = (⟨aft t x.fs j, x.seen + 1, x.cost + (opAt t j).cost, cn⟩ : Nd) ∨ n ∈ K1 := fun n => by rw [b3.mem_iff, List.mem_cons]
     have l2 := b3.length_eq
     simp only [List.length_cons] at l2
     have tr2 : tri (⟨aft t x.fs j, x.seen + 1, x.cost + (opAt t j).cost, cn⟩ : Nd) = (aft t x.fs j, x.seen.toNat + 1, x.cost + (opAt t j).cost) := by
      have : (x.seen + 1).toNat = x.seen.toNat + 1 := by omega
      simp only [tri, this]
     have up2 : ∀ y, HS K1 y → HS K2 y := fun y ⟨n, n1, n2⟩ => ⟨n, (m2 n).2 (.inr n1), n2⟩
     refine ⟨_, rfl, b2, fun n hn => ?_, by simp only; omega, by simp only; omega, fun y hy => up2 y (up1 y (p5 y hy)), fun y hy => ?_, fun y op o0 o1 hy => ?_⟩
     ·rcases (m2 n).1 hn with rfl | hn
      ·exact ⟨by simp only; omega, by simp only; omega, by have := hco.2; simp only; omega⟩
      ·exact w1 n hn
     ·obtain ⟨n, hn, rfl⟩ := hy
      rcases (m2 n).1 hn with rfl | hn
      ·rw [tr2]; exact .inr ⟨j, j0, by omega, hcan, rfl, rfl, .inr ⟨c2.2, rfl⟩⟩
      ·rcases (m1 n).1 hn with rfl | hn
       ·rw [tr1]; exact .inr ⟨j, j0, by omega, hcan, rfl, rfl, .inl rfl⟩
       ·rcases p6 _ ⟨n, hn, rfl⟩ with q | ⟨op, q0, q1, q2⟩
        ·exact .inl q
        ·exact .inr ⟨op, q0, by omega, q2⟩
     ·by_cases e : op = j
      ·subst e
       obtain ⟨y1, y2, y3⟩ := y
       obtain ⟨_, e1, e2, e3⟩ := hy
       simp only [tri] at e1 e2 e3
       rcases e3 with e3 | ⟨_, e3⟩
       ·subst e1 e2 e3; exact up2 _ in1
       ·subst e1 e2 e3
        exact ⟨_, (m2 _).2 (.inl rfl), tr2⟩
      ·exact up2 y (up1 y (p7 y op o0 (by omega) hy))
    ·have ef : (if x.seen < (ob.length : Int) then Option.bind (ix ob x.seen) fun ab117 => some (decide (ab117 = j)) else some false) = some false := by
      by_cases c3 : x.seen < (ob.length : Int)
      ·rw [if_pos c3]
       obtain ⟨a, ha, ga⟩ := j7 (l := ob) h0 c3
       rw [ha]
       simp only [oB]
       rw [decide_eq_false fun q => c2 ⟨c3, by rw [ga, q]⟩]
      ·rw [if_neg c3]
     rw [ef]
     simp only [oB, Bool.false_eq_true, if_false]
     refine ⟨_, rfl, a2, w1, by simp only; omega, by simp only; omega, fun y hy => up1 y (p5 y hy), fun y hy => ?_, fun y op o0 o1 hy => ?_⟩
     ·obtain ⟨n, hn, rfl⟩ := hy
      rcases (m1 n).1 hn with rfl | hn
      ·rw [tr1]; exact .inr ⟨j, j0, by omega, hcan, rfl, rfl, .inl rfl⟩
      ·rcases p6 _ ⟨n, hn, rfl⟩ with q | ⟨op, q0, q1, q2⟩
       ·exact .inl q
       ·exact .inr ⟨op, q0, by omega, q2⟩
     ·by_cases e : op = j
      ·subst e
       obtain ⟨y1, y2, y3⟩ := y
       obtain ⟨_, e1, e2, e3⟩ := hy
       simp only [tri] at e1 e2 e3
       rcases e3 with e3 | ⟨e4, e3⟩
       ·subst e1 e2 e3; exact in1
       ·have hlt := (List.getElem?_eq_some_iff.1 e4).1
        exact absurd ⟨by omega, e4⟩ c2
      ·exact up1 y (p7 y op o0 (by omega) hy)
   ·rw [if_neg (by rw [n4 hcan]; simp)]
    refine ⟨_, rfl, p1, p2, by simp only; omega, by simp only; omega, p5, fun y hy => ?_, fun y op o0 o1 hy => ?_⟩
    ·rcases p6 y hy with q | ⟨op, q0, q1, q2⟩
     ·exact .inl q
     ·exact .inr ⟨op, q0, by omega, q2⟩
    ·by_cases e : op = j
     ·subst e; exact absurd hy.1 hcan
     ·exact p7 y op o0 (by omega) hy)
 refine ⟨cnt', H', by rw [r1]; rfl, r2, r3, by simp only at r4; omega, by simp only at r5; omega, r6, fun y hy => ?_, fun y ⟨op, o0, o1, hy⟩ => r8 y op o0 o1 hy⟩
 rcases r7 y hy with q | ⟨op, q0, q1, q2⟩
 ·exact .inl q
 ·exact .inr ⟨op, q0, q1, q2⟩
end
end Ab
end
section
namespace Ab
open Go
section
variable {t : f7} {ob : List Int} {goals : List (List Int)} {S : List (List Int)}
theorem rngN_congr {A O : Type} {b1 b2 : Int → A → Option (A ⊕ O)} : ∀ (k : Nat) (i : Int) (s : A), (∀ j s, i ≤ j → j < i + k → b1 j s = b2 j s) → rngN b1 k i s = rngN b2 k i s
 | 0, _, _, _ => rfl
 | k + 1, i, s, h => by
  simp only [rngN]
  rw [h i s (Int.le_refl i) (by omega)]
  cases b2 i s with
  | none => rfl
  | some x =>
   cases x with
   | inl x => exact rngN_congr k (i + 1) x fun j s h1 h2 => h j s (by omega) (by omega)
   | inr x => rfl
theorem rngX_congr {A O : Type} {b1 b2 : Int → A → Option (A ⊕ O)} {n : Int} {s : A} (hn : 0 ≤ n) (h : ∀ j s, 0 ≤ j → j < n → b1 j s = b2 j s) : rngX 0 n b1 s = rngX 0 n b2 s :=
 rngN_congr _ 0 s fun j s h1 h2 => h j s h1 (by omega)
theorem Mk'.add (hq : Rq t goals ob S) {m : Mb} {D : Tr → Prop} (h : Mk' t S m D) {x : Nd} (hr : Rt t x.fs) (h0 : 0 ≤ x.seen) (h1 : x.seen ≤ ob.length) (hn : ¬ 0 < Option.getD (mget m (nkey x.fs x.seen)) 0) (hpos : ∀ k v, mget m k = some v → 0 < v) :
  Mk' t S (mset m (nkey x.fs x.seen) 1) (fun y => y = tri x ∨ D y) ∧ (mset m (nkey x.fs x.seen) 1).length = m.length + 1 := by
 have h8 := hq.o8
 have hs := hr.setN hq.ht
 have hnone : mget m (nkey x.fs x.seen) = none := by
  cases e : mget m (nkey x.fs x.seen) with
  | none => rfl
  | some v => rw [e] at hn; exact absurd (hpos _ _ e) hn
 have hnew := mset_new (v := (1 : Int)) hnone
 refine ⟨⟨?_, fun k hk => ?_, fun s k hs' k0 k1 => ?_⟩, by rw [hnew]; simp⟩
 ·rw [hnew, List.map_append]
  exact List.nodup_append.2 ⟨h.nd, by simp, fun a ha b hb e => by
   simp at hb; subst hb; subst e; exact mget_none hnone ha⟩
 ·rw [hnew, List.map_append] at hk
  rcases List.mem_append.1 hk with hk | hk
  ·exact h.sub k hk
  ·simp at hk; subst hk
   exact allK_mem (hq.sm _ hr) h0 (by omega)
 ·rw [X5]
  by_cases e : nkey s k = nkey x.fs x.seen
  ·obtain ⟨e1, e2⟩ := nkey_inj hq.ht hs' hs k0 (by omega) h0 (by omega) e
   subst e1 e2
   rw [if_pos e]
   exact ⟨fun _ => ⟨x.cost, .inl rfl⟩, fun _ => by simp⟩
  ·rw [if_neg e, h.iff s k hs' k0 k1]
   refine ⟨fun ⟨d, hd⟩ => ⟨d, .inr hd⟩, fun ⟨d, hd⟩ => ⟨d, hd.resolve_left fun q => e ?_⟩⟩
   simp only [tri, Prod.mk.injEq] at q
   rw [q.1, show k = x.seen by omega]
theorem rg_loop (hq : Rq t goals ob S) : ∃ o, D8 t goals ob = some o ∧ o.length = goals.length ∧ ∀ (i : Int) g k, ix goals i = some g → ix o i = some k → EC t g ob k := by
 have hS := hq.sn
 have h8 := hq.o8
 unfold D8
 rw [repeat1_eq _ hq.g0 (by have := hq.g1; omega)]
 simp only [oB]
 have init : Rv' t goals ob S (List.replicate goals.length 1000000000) [(⟨t.init, 0, 0, 0⟩ : Nd)] ([] : Mb) 1 (fun _ => False) := by
  refine ⟨?_, fun n hn => ?_, ⟨0, ?_⟩, ⟨by simp, by simp, fun s k _ _ _ => by simp [mget]⟩, by simp, fun i g k hg hk => ?_, by simp, by simp⟩
  ·intro k k0 k1; simp at k1; omega
  ·simp at hn; subst hn
   exact ⟨by simp, by simp, by simp⟩
  ·have e : HS [(⟨t.init, 0, 0, 0⟩ : Nd)] = fun y => y = (t.init, 0, 0) := by
    funext y
    exact propext ⟨fun ⟨n, n1, n2⟩ => by simp at n1; subst n1; exact n2.symm, fun h => ⟨⟨t.init, 0, 0, 0⟩, by simp, by rw [h]; rfl⟩⟩
   rw [e]; exact Dj.start
  ·have : k = 1000000000 := List.eq_of_mem_replicate (o9 hk)
   exact .inl ⟨this, fun x hx => hx.elim⟩
 obtain ⟨o, o1, o2, o3⟩ := M1 (body := I4 t goals ob) (s := (List.replicate goals.length 1000000000, [(⟨t.init, 0, 0, 0⟩ : Nd)], ([] : Mb), 1))
  (fun s => (∃ D, Rv' t goals ob S s.1 s.2.1 s.2.2.1 s.2.2.2 D) ∧ ∀ k v, mget s.2.2.1 k = some v → 0 < v)
  (fun o => o.length = goals.length ∧ ∀ (i : Int) g k, ix goals i = some g → ix o i = some k → EC t g ob k)
  (fun s => (18000 - s.2.2.1.length) * 100 + s.2.1.length)
  ⟨⟨_, init⟩, fun k v h => by simp [mget] at h⟩ (by
   rintro ⟨o, H, m, cnt⟩ ⟨⟨D, p⟩, hpos⟩
   simp only at p hpos
   obtain ⟨B, dj⟩ := p.dj
   have hml := p.mp.len
   have hhl := p.hl
   unfold I4 C8
   simp only [oB]
   by_cases c0 : 0 < H.length
   ·rw [if_pos (by omega)]
    obtain ⟨H', x, a1, a2, a3, a4⟩ := npop_ok p.hp c0 (by omega)
    have hxH : x ∈ H := a3.mem_iff.2 (by simp)
    have hl' := a3.length_eq
    simp only [List.length_cons] at hl'
    have hwx := p.wf x hxH
    have hdx := dj.hr (tri x) ⟨x, hxH, rfl⟩
    have hrx : Rt t x.fs := hdx.1.rt
    have hsx := hrx.setN hq.ht
    have hcx : 0 ≤ x.cost := hdx.1.nonneg hq.ht
    have hmin : ∀ y, HS H y → x.cost ≤ y.2.2 := fun y ⟨n, n1, n2⟩ => by subst n2; exact nle_cost (a4 n n1)
    have s0 := hwx.s0
    have s1 := hwx.s1
    have c1 := hwx.c1
    simp only [a1, oB, nkey_eq hq.ht hsx s0 (by omega)]
    by_cases c2 : 0 < Option.getD (mget m (nkey x.fs x.seen)) 0
    ·rw [if_pos c2]
     obtain ⟨d, hd⟩ := (p.mp.iff x.fs x.seen hsx s0 (by omega)).1 c2
     have dj' := dj.again (H' := HS H') (x := tri x) (fun y => ⟨fun ⟨n, n1, n2⟩ => by
      rcases List.mem_cons.1 (a3.mem_iff.1 n1) with rfl | n1
      ·exact .inl n2.symm
      ·exact .inr ⟨n, n1, n2⟩, fun h => by
      rcases h with rfl | ⟨n, n1, n2⟩
      ·exact ⟨x, hxH, rfl⟩
      ·exact ⟨n, a3.mem_iff.2 (List.mem_cons_of_mem _ n1), n2⟩⟩) hmin hd
     refine .inl ⟨_, rfl, ⟨⟨D, a2, fun n hn => p.wf n (a3.mem_iff.2 (List.mem_cons_of_mem _ hn)), ⟨_, dj'⟩, p.mp, p.ol, p.og, by simp only; omega, p.cn⟩, hpos⟩, by simp only; omega⟩
    ·rw [if_neg c2]
     have hnD : ∀ d, ¬ D (x.fs, x.seen.toNat, d) := fun d hd => c2 ((p.mp.iff x.fs x.seen hsx s0 (by omega)).2 ⟨d, hd⟩)
     obtain ⟨o', b1, b2, b3⟩ := rg_goals hq (x := x) (D := D) (B := B) hsx s0 (by omega) (fun y hy => (dj.dr y hy).2) hdx.2 p.ol p.og H'
     obtain ⟨m1, m2⟩ := p.mp.add hq hrx s0 s1 c2 hpos
     have hml2 := m1.len
     obtain ⟨cnt', H2, d1, d2, d3, d4, d5, d6, d7, d8⟩ := rg_next hq (x := x) (H := H') (cnt := cnt) (C := 100 * m.length) hsx s0 s1 c1 hcx (by omega) a2 (fun n hn => by
      have := p.wf n (a3.mem_iff.2 (List.mem_cons_of_mem _ hn))
      exact ⟨this.s0, this.s1, by have := this.c1; omega⟩) (by omega) ⟨p.cn.1, by have := p.cn.2; omega⟩
     simp only [b1, oB, G3, d1]
     have dj' := dj.next hq.ht (H' := HS H2) (x := tri x) (fun y hy => by
      obtain ⟨n, n1, n2⟩ := hy
      rcases List.mem_cons.1 (a3.mem_iff.1 n1) with rfl | n1
      ·exact .inl n2.symm
      ·exact .inr (d6 _ ⟨n, n1, n2⟩)) (fun y hy => (d7 y hy).imp_left fun ⟨n, n1, n2⟩ => ⟨n, a3.mem_iff.2 (List.mem_cons_of_mem _ n1), n2⟩) d8 ⟨x, hxH, rfl⟩ hmin hnD
     have hcn := p.cn
     refine .inl ⟨_, rfl, ⟨⟨fun y => y = tri x ∨ D y, d2, fun n hn => ?_, ⟨_, dj'⟩, m1, b2, b3, by simp only [m2]; omega, ?_⟩, fun k v hk => ?_⟩, by simp only [m2]; omega⟩
     ·have := d3 n hn
      exact ⟨this.s0, this.s1, by have := this.c1; simp only [m2]; push_cast; omega⟩
     ·simp only [m2]; push_cast; omega
     ·simp only [X5] at hk
      split at hk
      ·cases hk; omega
      ·exact hpos k v hk
   ·rw [if_neg (by omega)]
    have hH : H = [] := List.eq_nil_of_length_eq_zero (by omega)
    subst hH
    exact .inr ⟨o, rfl, p.ol, fun i g k hg hk => (p.og i g k hg hk).ec hq.ht dj fun y ⟨n, hn, _⟩ => by simp at hn⟩)
 exact ⟨o, by rw [o1]; rfl, o2, o3⟩
/-! ### The checks -/
structure ObsOk (t : f7) (goals : List (List Int)) (ob : List Int) : Prop where
 g0 : 1 ≤ goals.length
 g1 : goals.length ≤ 4
 gs : ∀ g ∈ goals, SetN g t.facts
 o8 : ob.length ≤ 8
 ov : ∀ x ∈ ob, (0 : Int) ≤ x ∧ x < t.operators.length
theorem rcheck_eq (t : f7) (goals : List (List Int)) (ob : List Int) : ∃ f e, I3 t goals ob = some f ∧ z8 t goals ob = some e ∧
  ((k9 t ∧ ObsOk t goals ob ∧ e = ⟨0, 0⟩ ∧ ((f = ⟨0, 0⟩ ∧ ∃ S : List (List Int), S.Nodup ∧ S.length ≤ 2000 ∧ ∀ s, s ∈ S ↔ Rt t s) ∨ (f = ⟨10, -7⟩ ∧ Many t))) ∨ (¬ (k9 t ∧ ObsOk t goals ob) ∧ e = f ∧ f.code ≠ 0 ∧ (¬ k9 t → w9 t = some f))) := by
 obtain ⟨f, h1, h2, h3⟩ := validate_eq t
 unfold I3 z8
 rw [h1, h2]
 simp only [oB, in_eq, at_eq, B8]
 rcases h3 with ⟨rfl, ht⟩ | ⟨hc, hn⟩
 ·rw [if_neg (by simp), if_pos rfl]
  by_cases c1 : 1 ≤ goals.length ∧ goals.length ≤ 4
  ·rw [if_neg (by simp only [Bool.or_eq_true, decide_eq_true_eq]; omega), ifNN (by omega)]
   have n0 := ht.n0
   have n1 := ht.n1
   have g : Int → Option TFault := fun j => match ix goals j with | some g => if dec (SetN g t.facts) = true then none else some (⟨5, -10 - j⟩ : TFault) | none => none
   have t1 := D5 (body := z7 t goals) (n := (goals.length : Int)) (fun j => match ix goals j with | some g => if dec (SetN g t.facts) = true then none else some (⟨5, -10 - j⟩ : TFault) | none => none) (by omega) (fun j j0 j1 _ => by
    obtain ⟨g, hg, _⟩ := j7 j0 j1
    have hw : w64 ((-10) - j) = -10 - j := m6 (by omega) (by omega)
    unfold z7
    simp only [hg, oB, ag1, B8, hw]
    by_cases q : SetN g t.facts
    ·rw [ifP q, ifNN q]
    ·rw [ifN q, ifP q])
   have t2 : rngX 0 (goals.length : Int) (D9 t goals) () = rngX 0 (goals.length : Int) (z7 t goals) () := by
    refine rngX_congr (by omega) fun j s j0 j1 => ?_
    obtain ⟨g, hg, _⟩ := j7 j0 j1
    unfold D9 z7
    simp only [hg, oB, ag1, rIsSet_eq g (show -9223372036854775808 < t.facts by omega) (by omega), at_eq]
   rw [t2]
   rcases t1 with ⟨r1, r2⟩ | ⟨j, f, j0, j1, r2, _, r1⟩
   ·rw [r1]
    simp only [oB]
    have hgs : ∀ g ∈ goals, SetN g t.facts := fun g hg => by
     obtain ⟨i, i0, i1, hi⟩ := E8 hg
     have := r2 i i0 i1
     rw [hi] at this
     by_cases q : SetN g t.facts
     ·exact q
     ·simp [q] at this
    by_cases c2 : ob.length ≤ 8
    ·rw [if_neg (by omega), if_neg (by omega)]
     have hops := ht.ops
     obtain ⟨e, e1, e2⟩ := rSteps_eq (n := t.operators.length) (by omega) (by omega) ob
     rw [e1]
     simp only [oB]
     rcases D5 (body := H6 t ob) (n := (ob.length : Int)) (fun j => match ix ob j with | some a => if dec (0 ≤ a ∧ a < t.operators.length) = true then none else some (⟨3, -6⟩ : TFault) | none => none) (by omega) (fun j j0 j1 _ => by
      obtain ⟨a, ha, _⟩ := j7 j0 j1
      unfold H6
      simp only [ha, oB]
      by_cases q : 0 ≤ a ∧ a < t.operators.length
      ·rw [ifP q, if_neg (by simp; omega)]
      ·rw [ifN q, if_pos (by simp; omega)]) with ⟨q1, q2⟩ | ⟨j, f, j0, j1, q2, _, q1⟩
     ·rw [q1]
      simp only [oB, R4]
      have hov : ∀ x ∈ ob, (0 : Int) ≤ x ∧ x < t.operators.length := fun x hx => by
       obtain ⟨i, i0, i1, hi⟩ := E8 hx
       have := q2 i i0 i1
       rw [hi] at this
       by_cases q : 0 ≤ x ∧ x < t.operators.length
       ·exact q
       ·simp [q] at this
      have he : e.code = 0 := by
       rcases e2 with ⟨rfl, _⟩ | ⟨_, e2⟩
       ·rfl
       ·exact absurd ⟨by omega, hov⟩ e2
      rw [if_pos he]
      obtain ⟨b, b1, b2, b3⟩ := breadth_spec ht
      rw [b1]
      simp only [oB]
      cases b with
      | false => exact ⟨_, _, rfl, rfl, .inl ⟨ht, ⟨c1.1, c1.2, hgs, c2, hov⟩, rfl, .inr ⟨rfl, b2 rfl⟩⟩⟩
      | true => exact ⟨_, _, rfl, rfl, .inl ⟨ht, ⟨c1.1, c1.2, hgs, c2, hov⟩, rfl, .inl ⟨rfl, b3 rfl⟩⟩⟩
     ·rw [q1]
      obtain ⟨a, ha, _⟩ := j7 j0 j1
      rw [ha] at q2
      by_cases q : 0 ≤ a ∧ a < t.operators.length
      ·simp [q] at q2
      ·simp [q] at q2; subst q2
       have he : e.code ≠ 0 := by
        rcases e2 with ⟨_, _, e2⟩ | ⟨e2, _⟩
        ·exact absurd (e2 a (o9 ha)) q
        ·exact e2
       rw [if_neg he]
       exact ⟨_, _, rfl, rfl, .inr ⟨fun h => q (h.2.ov a (o9 ha)), rfl, by simp, fun h => absurd ht h⟩⟩
    ·rw [if_pos (by omega), if_pos (by omega)]
     exact ⟨_, _, rfl, rfl, .inr ⟨fun h => c2 h.2.o8, rfl, by simp, fun h => absurd ht h⟩⟩
   ·rw [r1]
    obtain ⟨a, ha, _⟩ := j7 j0 j1
    rw [ha] at r2
    by_cases q : SetN a t.facts
    ·simp [q] at r2
    ·simp [q] at r2; subst r2
     exact ⟨_, _, rfl, rfl, .inr ⟨fun h => q (h.2.gs a (o9 ha)), rfl, by simp, fun h => absurd ht h⟩⟩
  ·rw [if_pos (by simp only [Bool.or_eq_true, decide_eq_true_eq]; omega), ifP (by omega)]
   exact ⟨_, _, rfl, rfl, .inr ⟨fun h => c1 ⟨h.2.g0, h.2.g1⟩, rfl, by simp, fun h => absurd ht h⟩⟩
 ·rw [if_pos (by simp [hc]), if_neg hc]
  exact ⟨f, f, rfl, rfl, .inr ⟨fun h => hn h.1, rfl, hc, fun _ => rfl⟩⟩
end
end Ab
end
section
namespace Ab
open Go
section
variable {t : f7} {op : Int}
end
/-! ### The fixed task -/
theorem mem_cost {t : f7} (ht : k9 t) {op : Int} : ∀ {p : List Int}, Val t p → op ∈ p → (opAt t op).cost ≤ I1 t p
 | [], _, h => by simp at h
 | q :: p, hv, h => by
  have h1 := ai0 ht (plan := p) fun x hx => hv x (List.mem_cons_of_mem _ hx)
  have h2 := hv q (by simp)
  have h3 := (M2 ht h2.1 h2.2).2.1
  simp only [I1]
  rcases List.mem_cons.1 h with rfl | h
  ·omega
  ·have := mem_cost ht (p := p) (fun x hx => hv x (List.mem_cons_of_mem _ hx)) h
   omega
theorem step_few (s : List Int) (h : Rt m5 s) : s ∈ [[], [0], [1], [0, 1]] := by
 have hs := h.setN step_ok
 have e : s = C4 (· ∈ s) 2 := hs.eq
 by_cases a : (0 : Int) ∈ s
 ·by_cases b : (1 : Int) ∈ s
  ·rw [(setN_nil 2 |>.1 |> fun _ => hs.1.ext (m := [0, 1]) (by simp) fun x => ?_)]
   ·simp
   ·have := hs.2 x
    constructor
    ·intro hx; have := this hx; simp only [m5] at this; simp; omega
    ·intro hx; simp at hx; rcases hx with rfl | rfl <;> assumption
  ·rw [hs.1.ext (m := [0]) (by simp) fun x => ?_]
   ·simp
   ·have := hs.2 x
    constructor
    ·intro hx
     have := this hx; simp only [m5] at this
     have : x ≠ 1 := fun e => b (e ▸ hx)
     simp; omega
    ·intro hx; simp at hx; rw [hx]; exact a
 ·by_cases b : (1 : Int) ∈ s
  ·rw [hs.1.ext (m := [1]) (by simp) fun x => ?_]
   ·simp
   ·have := hs.2 x
    constructor
    ·intro hx
     have := this hx; simp only [m5] at this
     have : x ≠ 0 := fun e => a (e ▸ hx)
     simp; omega
    ·intro hx; simp at hx; rw [hx]; exact b
  ·rw [hs.1.ext (m := []) (by simp) fun x => ?_]
   ·simp
   ·have := hs.2 x
    constructor
    ·intro hx
     have := this hx; simp only [m5] at this
     have : x ≠ 0 := fun e => a (e ▸ hx)
     have : x ≠ 1 := fun e => b (e ▸ hx)
     omega
    ·intro hx; simp at hx
theorem step_many : ¬ Many m5 := by
 rintro ⟨m, m1, m2, m3⟩
 have := T0 m1 (S := [[], [0], [1], [0, 1]]) fun s hs => step_few s (m3 s hs)
 simp at this; omega
theorem step_works {op : Int} (h : op = 0 ∨ op = 1) : Sol m5 m5.init [op] := by
 refine ⟨fun x hx => ?_, aft m5 m5.init op, ?_, fun x hx => ?_⟩
 ·simp at hx; subst hx; simp only [m5, List.length_cons, List.length_nil]; omega
 ·simp only [ends]
  rw [if_pos (j9 (show can m5 m5.init op from fun x hx => by
   rcases h with rfl | rfl
   ·simpa [opAt, m5] using hx
   ·simp [opAt, m5] at hx))]
 ·refine K9.2 ?_
  simp [m5] at hx; subst hx
  rcases h with rfl | rfl <;> simp [m5, opAt]
theorem step_ne {p : List Int} (h : Sol m5 m5.init p) : ∃ q, q ∈ p ∧ (q = 0 ∨ q = 1) := by
 cases p with
 | nil =>
  obtain ⟨_, e, h1, h2⟩ := h
  simp only [ends, Option.some.injEq] at h1; subst h1
  have := h2 1 (by simp [m5])
  simp [m5] at this
 | cons q p =>
  refine ⟨q, by simp, ?_⟩
  have := h.1 q (by simp)
  simp only [m5, List.length_cons, List.length_nil] at this
  omega
theorem step_cost0 : (opAt m5 0).cost = 1 := rfl
theorem step_cost1 : (opAt m5 1).cost = 3 := rfl
theorem lc_of {t : f7} {P : List Int → Prop} {k : Int} {p : List Int} (h0 : 0 ≤ k) (h1 : k < 1000000000) (hp : P p) (hk : I1 t p = k) (hl : ∀ q, P q → k ≤ I1 t q) : LC t P k := ⟨hl, h0, .inr ⟨h1, p, hp, hk⟩⟩
theorem step_lc : LC m5 (Sol m5 m5.init) 1 := lc_of (p := [0]) (k := 1) (by decide) (by decide) (step_works (.inl rfl)) rfl fun q hq => by
 obtain ⟨x, hx, e⟩ := step_ne hq
 have := mem_cost step_ok hq.1 hx
 rcases e with rfl | rfl
 ·rw [step_cost0] at this; exact this
 ·rw [step_cost1] at this; omega
end Ab
end
section
namespace Ab
open Go
section
variable {t : f7} {ob : List Int} {goals : List (List Int)}
def Rg (t : f7) (goals : List (List Int)) (ob : List Int) (l : List (Int × Int)) : Prop := l.length = goals.length ∧ ∀ (i : Int) g p, ix goals i = some g → ix l i = some p → EC t g ob p.1 ∧ EC t g [] p.2
theorem rcosts_spec (t : f7) (goals : List (List Int)) (ob : List Int) : ∃ l f e, s4 t goals ob = some (l, f) ∧ z8 t goals ob = some e ∧
  ((k9 t ∧ ObsOk t goals ob ∧ e = ⟨0, 0⟩ ∧ f = ⟨0, 0⟩ ∧ ¬ Many t ∧ Rg t goals ob l) ∨ (k9 t ∧ ObsOk t goals ob ∧ e = ⟨0, 0⟩ ∧ f = ⟨10, -7⟩ ∧ Many t ∧ l = []) ∨ (¬ (k9 t ∧ ObsOk t goals ob) ∧ e = f ∧ f.code ≠ 0 ∧ (¬ k9 t → w9 t = some f) ∧ l = [])) := by
 obtain ⟨f, e, h1, h2, h3⟩ := rcheck_eq t goals ob
 unfold s4
 rw [h1, h2]
 simp only [oB]
 rcases h3 with ⟨ht, ho, rfl, ⟨rfl, S, S1, S2, S3⟩ | ⟨rfl, hm⟩⟩ | ⟨hn, rfl, hc, hv⟩
 ·rw [if_neg (by simp)]
  have hq : ∀ o : List Int, o.length ≤ 8 → Rq t goals o S := fun o ho8 => ⟨ht, ho.g0, ho.g1, ho.gs, ho8, S2, fun s hs => (S3 s).2 hs⟩
  obtain ⟨a, a1, a2, a3⟩ := rg_loop (hq ob ho.o8)
  obtain ⟨b, b1, b2, b3⟩ := rg_loop (hq [] (by simp))
  rw [a1, b1]
  simp only [oB]
  have hg1 := ho.g1
  obtain ⟨l, l1, l2, l3⟩ := E3 (body := J2 a b) (n := (goals.length : Int)) (s := [])
   (fun j c => (c.length : Int) = j ∧ ∀ (i : Int) p, ix c i = some p → ix a i = some p.1 ∧ ix b i = some p.2) (by omega) ⟨by simp, fun i p h => by simp [ix] at h⟩ (fun j c j0 j1 hP => by
    obtain ⟨p1, p2⟩ := hP
    obtain ⟨x, hx, _⟩ := j7 (l := a) j0 (by omega)
    obtain ⟨y, hy, _⟩ := j7 (l := b) j0 (by omega)
    have ha : app 16 c [(x, y)] = some (c ++ [(x, y)]) := by unfold app; rw [if_pos (by simp; omega)]
    unfold J2
    simp only [hx, hy, ha, oB]
    refine ⟨_, rfl, by simp; omega, fun i p hp => ?_⟩
    rw [ix_snoc] at hp
    by_cases q : i = (c.length : Int)
    ·rw [if_pos q] at hp; cases hp
     have : i = j := by omega
     subst this
     exact ⟨hx, hy⟩
    ·rw [if_neg q] at hp; exact p2 i p hp)
  rw [l1]
  refine ⟨_, _, _, rfl, rfl, .inl ⟨ht, ho, rfl, rfl, ?_, by omega, fun i g p hg hp => ⟨a3 i g _ hg (l3 i p hp).1, b3 i g _ hg (l3 i p hp).2⟩⟩⟩
  rintro ⟨m, m1, m2, m3⟩
  have := T0 m1 (S := S) fun s hs => (S3 s).2 (m3 s hs)
  omega
 ·rw [if_pos (by simp)]
  exact ⟨_, _, _, rfl, rfl, .inr (.inl ⟨ht, ho, rfl, rfl, hm, rfl⟩)⟩
 ·rw [if_pos (by simp [hc])]
  exact ⟨_, _, _, rfl, rfl, .inr (.inr ⟨hn, rfl, hc, hv, rfl⟩)⟩
theorem Rg.bd {l : List (Int × Int)} (h : Rg t goals ob l) {i : Int} {p : Int × Int} (hp : ix l i = some p) : 0 ≤ p.2 ∧ p.2 ≤ p.1 ∧ p.1 ≤ 1000000000 := by
 obtain ⟨g, hg, _⟩ := j7 (l := goals) (l7 hp).1 (by have := (l7 hp).2.1; have := h.1; omega)
 obtain ⟨e1, e2⟩ := h.2 i g p hg hp
 exact ⟨e2.2.1, e2.mono e1 fun c hc => hc.nil, e1.le⟩
def Lst (l : List (Int × Int)) (j v : Int) : Prop := (∀ i p, i < j → ix l i = some p → p.1 < 1000000000 → v ≤ p.1 - p.2) ∧ ((v = 1000000000 ∧ ∀ i p, i < j → ix l i = some p → ¬ p.1 < 1000000000) ∨ ∃ i p, i < j ∧ ix l i = some p ∧ p.1 < 1000000000 ∧ v = p.1 - p.2)
theorem Lst.eq {l : List (Int × Int)} {j v w : Int} (h : Lst l j v) (g : Lst l j w) : v = w := by
 obtain ⟨h1, ⟨rfl, h2⟩ | ⟨i, p, h2, h3, h4, rfl⟩⟩ := h
 ·obtain ⟨g1, ⟨rfl, g2⟩ | ⟨i, p, g2, g3, g4, rfl⟩⟩ := g
  ·rfl
  ·exact absurd g4 (h2 i p g2 g3)
 ·obtain ⟨g1, ⟨rfl, g2⟩ | ⟨i', p', g2, g3, g4, rfl⟩⟩ := g
  ·exact absurd h4 (g2 i p h2 h3)
  ·have := h1 i' p' g2 g3 g4; have := g1 i p h2 h3 h4; omega
theorem Lst.zero (l : List (Int × Int)) : Lst l 0 1000000000 := ⟨fun i p hi hp => by have := (l7 hp).1; omega, .inl ⟨rfl, fun i p hi hp => by have := (l7 hp).1; omega⟩⟩
theorem Lst.step {l : List (Int × Int)} {j v : Int} {p : Int × Int} (h : Lst l j v) (hp : ix l j = some p) (hb : p.1 < 1000000000 → p.1 - p.2 ≤ 1000000000) : Lst l (j + 1) (if p.1 < 1000000000 then min v (p.1 - p.2) else v) := by
 obtain ⟨h1, h2⟩ := h
 constructor
 ·intro i q hi hq hf
  by_cases e : i = j
  ·subst e; rw [hp] at hq; cases hq
   rw [if_pos hf]; omega
  ·have := h1 i q (by omega) hq hf
   split <;> omega
 ·by_cases c : p.1 < 1000000000
  ·rw [if_pos c]
   by_cases d : p.1 - p.2 < v
   ·exact .inr ⟨j, p, by omega, hp, c, by omega⟩
   ·rw [show min v (p.1 - p.2) = v by omega]
    rcases h2 with ⟨rfl, h2⟩ | ⟨i, q, q1, q2⟩
    ·exact .inr ⟨j, p, by omega, hp, c, by have := hb c; omega⟩
    ·exact .inr ⟨i, q, by omega, q2⟩
  ·rw [if_neg c]
   rcases h2 with ⟨rfl, h2⟩ | ⟨i, q, q1, q2⟩
   ·refine .inl ⟨rfl, fun i q hi hq => ?_⟩
    by_cases e : i = j
    ·subst e; rw [hp] at hq; cases hq; exact c
    ·exact h2 i q (by omega) hq
   ·exact .inr ⟨i, q, by omega, q2⟩
def Bst (l : List (Int × Int)) (v i : Int) : Prop := ∃ p, ix l i = some p ∧ p.1 < 1000000000 ∧ p.1 - p.2 = v
theorem aa9 {l : List (Int × Int)} {f : TFault} (hl : s4 t goals ob = some (l, f)) (h : (f = ⟨0, 0⟩ ∧ Rg t goals ob l ∧ goals.length ≤ 4) ∨ f.code ≠ 0) :
  (f.code ≠ 0 ∧ q7 t goals ob = some ([], f)) ∨ ∃ v, Lst l l.length v ∧ q7 t goals ob = some (C4 (Bst l v) l.length, ⟨0, 0⟩) := by
 unfold q7
 rw [hl]
 simp only [oB]
 rcases h with ⟨rfl, h, h4⟩ | hc
 ·rw [if_neg (by simp)]
  have hlen : l.length ≤ 4 := by have := h.1; omega
  obtain ⟨v, v1, v2⟩ := E3 (body := J6 (l, ⟨0, 0⟩)) (n := (l.length : Int)) (s := 1000000000) (fun j v => Lst l j v) (by omega) (Lst.zero l) (fun j v j0 j1 hP => by
   obtain ⟨p, hp, _⟩ := j7 j0 j1
   have hb := h.bd hp
   have hw : w64 (p.1 - p.2) = p.1 - p.2 := m6 (by omega) (by omega)
   unfold J6
   simp only [hp, oB, hw]
   have := hP.step hp (by omega)
   by_cases c : p.1 < 1000000000
   ·rw [if_pos c] at this ⊢; exact ⟨_, rfl, this⟩
   ·rw [if_neg c] at this ⊢; exact ⟨_, rfl, this⟩)
  rw [v1]
  simp only [oB]
  have := ag5 (b := 8) (n := (l.length : Int)) (body := J5 (l, ⟨0, 0⟩) v) (Bst l v) (by omega) (by omega) (fun j c j0 j1 => by
   obtain ⟨p, hp, _⟩ := j7 j0 j1
   have hb := h.bd hp
   have hw : w64 (p.1 - p.2) = p.1 - p.2 := m6 (by omega) (by omega)
   unfold J5
   simp only [hp, oB, hw]
   refine ⟨fun ⟨q, q1, q2, q3⟩ => ?_, fun hn => ?_⟩
   ·rw [hp] at q1; cases q1
    rw [if_pos (by simp [q2, q3])]
    cases app 8 c [j] <;> rfl
   ·rw [if_neg (by
     simp only [Bool.and_eq_true, decide_eq_true_eq]
     exact fun q => hn ⟨p, hp, q⟩)]
    rfl)
  rw [this]
  exact .inr ⟨v, v2, rfl⟩
 ·rw [if_pos (by simp [hc])]
  exact .inl ⟨hc, rfl⟩
end
/-! ### The fixed task -/
theorem Ex.first {t : f7} (ht : k9 t) {g : List Int} {o s : List Int} {c : Int} (h : Ex t g o s c) : 0 ≤ c ∧ ∀ op r, o = op :: r → (opAt t op).cost ≤ c := by
 induction h with
 | goal => exact ⟨Int.le_refl 0, fun op r e => by cases e⟩
 | step h0 h1 _ _ ih =>
  have := (M2 ht h0 h1).2.1
  exact ⟨by omega, fun op r e => by have := ih.2 op r e; omega⟩
 | obs h0 h1 _ _ ih =>
  have := (M2 ht h0 h1).2.1
  exact ⟨by omega, fun op r e => by cases e; omega⟩
theorem step_ec : EC m5 [1] [1] 3 := by
 have hex : Ex m5 [1] [1] m5.init 3 := by
  have h := step_works (op := 1) (.inr rfl)
  obtain ⟨hv, e, he, hg⟩ := h
  simp only [ends] at he
  split at he
  ·rename_i hc
   simp only [Option.some.injEq] at he
   exact .obs (c := 0) (by omega) (by simp [m5]) (i9.1 hc) (.goal (by rw [he]; exact hg))
  ·cases he
 refine ⟨fun c hc => ?_, by omega, .inr ⟨by omega, hex⟩⟩
 have := (hc.first step_ok).2 1 [] rfl
 rwa [step_cost1] at this
theorem step_obs : ObsOk m5 [[1]] [1] := ⟨by simp, by simp, fun g hg => by simp at hg; subst hg; exact setN1 1 (by decide) (by decide), by simp, fun x hx => by simp at hx; subst hx; simp [m5]⟩
theorem step_costs : s4 m5 [[1]] [1] = some ([(3, 1)], ⟨0, 0⟩) ∧ q7 m5 [[1]] [1] = some ([0], ⟨0, 0⟩) := by
 obtain ⟨l, f, e, h1, _, h3⟩ := rcosts_spec m5 [[1]] [1]
 rcases h3 with ⟨_, _, _, rfl, _, hr⟩ | ⟨_, _, _, _, hm, _⟩ | ⟨hn, _⟩
 ·obtain ⟨p, hp, _⟩ := j7 (l := l) (i := 0) (by omega) (by rw [hr.1]; simp)
  obtain ⟨e1, e2⟩ := hr.2 0 [1] p rfl hp
  have q1 := e1.eq step_ec
  have q2 := (EC.lc (t := m5) e2).eq step_lc
  have hl : l = [(3, 1)] := by
   obtain ⟨a, b⟩ := p
   simp only at q1 q2
   subst q1 q2
   match l, hr.1, hp with
   | [x], _, hp => simp [ix] at hp; rw [hp]
  subst hl
  refine ⟨h1, ?_⟩
  rcases aa9 h1 (.inl ⟨rfl, hr, by simp⟩) with ⟨hc, _⟩ | ⟨v, hv, hb⟩
  ·exact absurd rfl hc
  ·have : v = 2 := hv.eq (by
    have := (Lst.zero [(3, 1)]).step (p := (3, 1)) rfl (by omega)
    simpa [show min (1000000000 : Int) 2 = 2 by decide] using this)
   subst this
   rw [hb]
   have : C4 (Bst [(3, 1)] 2) (([(3, 1)] : List (Int × Int)).length : Int) = [0] := by
    refine ((setN1 0 (by omega) (by simp)).eq_of fun x x0 x1 => ?_).symm
    have : x = 0 := by simp at x1; omega
    subst this
    exact ⟨fun _ => ⟨(3, 1), rfl, by omega, by omega⟩, fun _ => by simp⟩
   rw [this]
 ·exact absurd hm step_many
 ·exact absurd ⟨step_ok, step_obs⟩ hn
theorem explained_true : C6 = some true := by
 unfold C6
 rw [show W8 = some m5 from rfl]
 simp only [oB, step_costs.1, step_costs.2]
 simp [twoInts_eq, numbers_eq]
end Ab
end
section
namespace Ab
open Go
structure Rf (t : f7) (l : List (List Int)) (w : List Int) : Prop where
 nd : l.Nodup
 rt : ∀ s ∈ l, Rt t s
 w : w = l.map fun s => (wsN s : Int)
 init : t.init ∈ l
 le : l.length ≤ 2000
theorem many_list {t : f7} {l : List (List Int)} (hn : l.Nodup) (h : ∀ s ∈ l, Rt t s) (hl : l.length = 2000) {s : List Int} (hs : Rt t s) (hsl : s ∉ l) : Many t :=
 ⟨l ++ [s], List.nodup_append.2 ⟨hn, by simp, fun a ha b hb e => by simp at hb; subst hb; subst e; exact hsl ha⟩, by simp [hl], fun x hx => by
  rcases List.mem_append.1 hx with hx | hx
  ·exact h x hx
  ·simp at hx; subst hx; exact hs⟩
theorem rreach_in {t : f7} (ht : k9 t) {l : List (List Int)} {w : List Int} (h : Rf t l w) {i : Int} {s : List Int} (hi : ix l i = some s) :
  (∃ l' w', rngX 0 (t.operators.length : Int) (x6 t i) (l, w) = some (.inl (l', w')) ∧ Rf t l' w' ∧ (∃ m, l' = l ++ m) ∧ Cls t l' s) ∨ (rngX 0 (t.operators.length : Int) (x6 t i) (l, w) = some (.inr ([], false)) ∧ Many t) := by
 have hrs := h.rt s (o9 hi)
 rcases ac2 (body := x6 t i) (n := (t.operators.length : Int)) (s := (l, w))
  (fun j c => Rf t c.1 c.2 ∧ (∃ m, c.1 = l ++ m) ∧ ∀ op : Int, 0 ≤ op → op < j → can t s op → aft t s op ∈ c.1) (fun o => o = ([], false) ∧ Many t) (by omega)
  ⟨h, ⟨[], by simp⟩, fun op h0 h1 => by omega⟩ (fun j c j0 j1 hP => by
   obtain ⟨l', w'⟩ := c
   obtain ⟨p1, ⟨m, rfl⟩, p3⟩ := hP
   simp only at p1 p3
   have hi' : ix (l ++ m) i = some s := by
    obtain ⟨h0, h1, h2⟩ := l7 hi
    rw [ix, if_pos h0, List.getElem?_append_left (by omega)]; exact h2
   have hsa := setN_aft t s j
   have step : ∀ c' : List (List Int) × List Int, (∀ x, x ∈ l ++ m → x ∈ c'.1) → (can t s j → aft t s j ∈ c'.1) → ∀ op : Int, 0 ≤ op → op < j + 1 → can t s op → aft t s op ∈ c'.1 := fun c' a b op h0 h1 hc => by
    by_cases e : op = j
    ·subst e; exact b hc
    ·exact a _ (p3 op h0 (by omega) hc)
   unfold x6
   simp only [hi', oB, applies_eq j0 j1]
   by_cases hc : can t s j
   ·simp only [j9 hc, Bool.not_true, Bool.false_eq_true, if_false, after_eq ht j0 j1, oB, word_eq hsa ht.n1, has_eq]
    have hmem : ((wsN (aft t s j) : Nat) : Int) ∈ w' ↔ aft t s j ∈ l ++ m := by
     rw [p1.w, List.mem_map]
     constructor
     ·rintro ⟨x, hx, e⟩
      have := ((p1.rt x hx).setN ht).word_inj hsa (by omega)
      rwa [← this]
     ·intro hx; exact ⟨_, hx, rfl⟩
    by_cases hm : aft t s j ∈ l ++ m
    ·rw [if_pos (j9 (hmem.2 hm))]
     exact .inl ⟨_, rfl, p1, ⟨m, rfl⟩, step (l ++ m, w') (fun _ h => h) (fun _ => hm)⟩
    ·rw [if_neg (by rw [n4 (fun q => hm (hmem.1 q))]; simp)]
     have hnr : Rt t (aft t s j) := hrs.step j0 j1 hc
     have hle := p1.le
     by_cases hl : (l ++ m).length = 2000
     ·rw [if_pos (by rw [hl]; rfl)]
      exact .inr ⟨_, rfl, rfl, many_list p1.nd p1.rt hl hnr hm⟩
     ·rw [if_neg (by omega)]
      have hw : w'.length = (l ++ m).length := by rw [p1.w]; simp
      have a1 : app 24 (l ++ m) [aft t s j] = some (l ++ m ++ [aft t s j]) := by unfold app; rw [if_pos (by simp only [List.length_singleton]; omega)]
      have a2 : app 8 w' [((wsN (aft t s j) : Nat) : Int)] = some (w' ++ [((wsN (aft t s j) : Nat) : Int)]) := by unfold app; rw [if_pos (by simp only [List.length_singleton]; omega)]
      simp only [a1, a2, oB]
      refine .inl ⟨_, rfl, ⟨?_, ?_, ?_, ?_, ?_⟩, ⟨m ++ [aft t s j], by simp⟩, step (_, _) (fun x hx => List.mem_append_left _ hx) (fun _ => by simp)⟩
      ·exact List.nodup_append.2 ⟨p1.nd, by simp, fun a ha b hb e => by simp at hb; subst hb; subst e; exact hm ha⟩
      ·intro x hx
       rcases List.mem_append.1 hx with hx | hx
       ·exact p1.rt x hx
       ·simp at hx; subst hx; exact hnr
      ·rw [p1.w]; simp
      ·exact List.mem_append_left _ p1.init
      ·simp only [List.length_append, List.length_singleton] at hl hle ⊢; omega
   ·simp only [n4 hc, Bool.not_false, if_true]
    exact .inl ⟨_, rfl, p1, ⟨m, rfl⟩, step (l ++ m, w') (fun _ h => h) (fun q => absurd q hc)⟩) with ⟨⟨l', w'⟩, h1, h2, h3, h4⟩ | ⟨o, h1, rfl, h2⟩
 ·exact .inl ⟨l', w', h1, h2, h3, fun op h0 h1 hc => h4 op h0 h1 hc⟩
 ·exact .inr ⟨h1, h2⟩
theorem ai3 {t : f7} (ht : k9 t) : ∃ l b, O8 t = some (l, b) ∧ (b = false → Many t) ∧ (b = true → l.Nodup ∧ l.length ≤ 2000 ∧ (∀ s, s ∈ l ↔ Rt t s) ∧ ix l 0 = some t.init) := by
 unfold O8 M0
 simp only [word_eq ht.init ht.n1, oB]
 obtain ⟨o, h1, h2⟩ := M1 (body := G5 t) (s := ([t.init], [((wsN t.init : Nat) : Int)], 0))
  (fun s => Rf t s.1 s.2.1 ∧ 0 ≤ s.2.2 ∧ s.2.2 ≤ s.1.length ∧ (∀ i x, i < s.2.2 → ix s.1 i = some x → Cls t s.1 x) ∧ ix s.1 0 = some t.init)
  (fun o => match o with | .inl l => l.Nodup ∧ l.length ≤ 2000 ∧ (∀ s, s ∈ l ↔ Rt t s) ∧ ix l 0 = some t.init | .inr x => x = ([], false) ∧ Many t)
  (fun s => 2001 - s.2.2.toNat) ⟨⟨by simp, fun s hs => by simp at hs; subst hs; exact .init, by simp, by simp, by simp⟩, Int.le_refl 0, by simp, fun i x hi hx => by have := (l7 hx).1; simp only at hi; omega, rfl⟩ (by
   rintro ⟨l, w, i⟩ ⟨p1, p2, p3, p4, p5⟩
   simp only at p1 p2 p3 p4 p5
   unfold G5
   have hle := p1.le
   by_cases c : i < (l.length : Int)
   ·simp only [if_pos c]
    obtain ⟨s, hs, _⟩ := j7 p2 c
    rcases rreach_in ht p1 hs with ⟨l', w', k1, k2, ⟨m, rfl⟩, k4⟩ | ⟨k1, k2⟩
    ·rw [k1]
     simp only [oB]
     have hw : w64 (i + 1) = i + 1 := m6 (by omega) (by omega)
     rw [hw]
     have hup : ∀ j x, ix l j = some x → ix (l ++ m) j = some x := fun j x hj => by
      obtain ⟨h0, h1, h2⟩ := l7 hj
      rw [ix, if_pos h0, List.getElem?_append_left (by omega)]; exact h2
     refine .inl ⟨_, rfl, ⟨k2, by simp only; omega, by simp; omega, fun j x hj hx => ?_, hup _ _ p5⟩, by simp only; omega⟩
     simp only at hj hx ⊢
     by_cases e : j = i
     ·subst e
      rw [hup _ _ hs] at hx; cases hx; exact k4
     ·have h0 := (l7 hx).1
      obtain ⟨y, hy, _⟩ := j7 (l := l) h0 (by omega)
      rw [hup _ _ hy] at hx; cases hx
      exact fun op g0 g1 hc => List.mem_append_left _ (p4 j _ (by omega) hy op g0 g1 hc)
    ·rw [k1]
     exact .inr ⟨_, rfl, rfl, k2⟩
   ·simp only [if_neg c]
    refine .inr ⟨.inl l, rfl, p1.nd, p1.le, fun s => ⟨p1.rt s, fun hs => ?_⟩, p5⟩
    exact hs.mem p1.init fun x hx => by
     obtain ⟨j, j0, j1, hj⟩ := E8 hx
     exact p4 j x (by omega) hj)
 rw [h1]
 rcases o with l | o
 ·exact ⟨l, true, rfl, by simp, fun _ => h2⟩
 ·obtain ⟨rfl, h3⟩ := h2
  exact ⟨[], false, rfl, fun _ => h3, by simp⟩
def sumI (v : List Int) : Nat := (v.map Int.toNat).sum
theorem sumI_set : ∀ {v : List Int} {k : Nat} {a x : Int}, v[k]? = some a → sumI (v.set k x) + a.toNat = sumI v + x.toNat
 | [], k, a, x, h => by simp at h
 | b :: v, 0, a, x, h => by
  simp at h; subst h
  simp only [sumI, List.set_cons_zero, List.map_cons, List.sum_cons]; omega
 | b :: v, k + 1, a, x, h => by
  have := sumI_set (v := v) (k := k) (a := a) (x := x) (by simpa using h)
  simp only [sumI, List.set_cons_succ, List.map_cons, List.sum_cons] at this ⊢; omega
theorem nodup_ix {S : List (List Int)} (h : S.Nodup) {i j : Int} {s : List Int} (hi : ix S i = some s) (hj : ix S j = some s) : i = j := by
 obtain ⟨i0, i1, i2⟩ := l7 hi
 obtain ⟨j0, j1, j2⟩ := l7 hj
 have := (List.getElem?_inj (i := i.toNat) (j := j.toNat) (by omega) h).1 (i2.trans j2.symm)
 omega
end Ab
end
section
namespace Ab
open Go
structure StS (t : f7) (S : List (List Int)) : Prop where
 nd : S.Nodup
 len : S.length ≤ 2000
 iff : ∀ s, s ∈ S ↔ Rt t s
theorem StS.next {t : f7} {S : List (List Int)} (h : StS t S) {i op : Int} {s : List Int} (hi : ix S i = some s) (h0 : 0 ≤ op) (h1 : op < t.operators.length) (hc : can t s op) : ∃ r, M3 S (aft t s op) = some r ∧ ix S r = some (aft t s op) := by
 have hs := (h.iff s).1 (o9 hi)
 obtain ⟨r, r1, r2⟩ := place_eq S (aft t s op)
 rcases r2 with ⟨_, r2⟩ | ⟨_, _, r2, _⟩
 ·exact absurd ((h.iff _).2 (hs.step h0 h1 hc)) r2
 ·exact ⟨r, r1, r2⟩
section
variable {t : f7} {S : List (List Int)} {g : List Int}
structure ERow (t : f7) (S : List (List Int)) (g rest v : List Int) : Prop where
 len : v.length = S.length
 ok : ∀ i s x, ix S i = some s → ix v i = some x → 0 ≤ x ∧ x ≤ 1000000000 ∧ (x < 1000000000 → Ex t g rest s x) ∧ (rest = [] → (∀ y ∈ g, y ∈ s) → x = 0)
def ELow (t : f7) (S : List (List Int)) (g rest v : List Int) : Prop := ∀ i s x c, ix S i = some s → ix v i = some x → Ex t g rest s c → c < 1000000000 → x ≤ c
def EFix (t : f7) (S : List (List Int)) (rest v w : List Int) (i op : Int) : Prop := ∀ s r x, ix S i = some s → can t s op → ix S r = some (aft t s op) → ix v i = some x →
 (∀ y, ix v r = some y → y < 1000000000 → x ≤ y + (opAt t op).cost) ∧ (∀ r', rest = op :: r' → ∀ y, ix w r = some y → y < 1000000000 → x ≤ y + (opAt t op).cost)
theorem ERow.at {rest v : List Int} (h : ERow t S g rest v) {i : Int} {s : List Int} (hi : ix S i = some s) : ∃ x, ix v i = some x := by
 obtain ⟨x, hx, _⟩ := j7 (l := v) (l7 hi).1 (by rw [h.len]; exact (l7 hi).2.1)
 exact ⟨x, hx⟩
theorem elow_of (ht : k9 t) (hS : StS t S) {rest v w : List Int} (hv : ERow t S g rest v) (hw : ∀ a r, rest = a :: r → ERow t S g r w ∧ ELow t S g r w) (hf : ∀ i op : Int, 0 ≤ op → op < t.operators.length → EFix t S rest v w i op) : ELow t S g rest v := by
 intro i s x c hi hx hc hb
 induction hc generalizing i x with
 | goal h => have := (hv.ok i _ x hi hx).2.2.2 rfl h; omega
 | @step o s op c h0 h1 hcan h ih =>
  have hco := (M2 ht h0 h1).2.1
  obtain ⟨r, _, hr⟩ := hS.next hi h0 h1 hcan
  obtain ⟨y, hy⟩ := hv.at hr
  have := ih hv hw hf r y hr hy (by omega)
  have := (hf i op h0 h1 s r x hi hcan hr hx).1 y hy (by omega)
  omega
 | @obs o s op c h0 h1 hcan h _ =>
  have hco := (M2 ht h0 h1).2.1
  obtain ⟨r, _, hr⟩ := hS.next hi h0 h1 hcan
  obtain ⟨w1, w2⟩ := hw op o rfl
  obtain ⟨y, hy⟩ := w1.at hr
  have := w2 r _ y c hr hy h (by omega)
  have := (hf i op h0 h1 s r x hi hcan hr hx).2 o rfl y hy (by omega)
  omega
def ESw (t : f7) (S : List (List Int)) (g rest v w v' : List Int) (ag : Bool) (did : Int → Int → Prop) : Prop :=
 ERow t S g rest v' ∧ ((ag = false ∧ v' = v ∧ ∀ i op, did i op → EFix t S rest v w i op) ∨ (ag = true ∧ sumI v' < sumI v))
variable {ob : List Int} {c0 : List (List Int)} {n : Nat}
def Beh (t : f7) (S : List (List Int)) (g ob : List Int) (c0 : List (List Int)) (n : Nat) (w : List Int) : Prop := n < ob.length → ix c0 ((n : Int) + 1) = some w ∧ ERow t S g (ob.drop (n + 1)) w
theorem e_in (ht : k9 t) (hS : StS t S) (ho : ob.length ≤ 8) (hn : n ≤ ob.length) (hc : c0.length = ob.length + 1) {w : List Int} (hw : Beh t S g ob c0 n w) {i : Int} {s : List Int} (hi : ix S i = some s) {v v' : List Int} {ag : Bool} {did : Int → Int → Prop} (h : ESw t S g (ob.drop n) v w v' ag did) :
  ∃ v2 ag2, forR 0 (t.operators.length : Int) (E7 t S ob (n : Int) i) (c0.set n v', ag) = some (c0.set n v2, ag2) ∧ ESw t S g (ob.drop n) v w v2 ag2 (fun i' op => did i' op ∨ i' = i ∧ 0 ≤ op ∧ op < t.operators.length) := by
 have hops := ht.ops
 have hat : ∀ u : List Int, ix (c0.set n u) (n : Int) = some u := fun u => by
  have := X8 (x := u) (l := c0) (i := (n : Int)) (j := (n : Int)) (by omega) (by omega) (by omega)
  rwa [if_pos rfl, Int.toNat_natCast] at this
 have hnx : ∀ u : List Int, n < ob.length → ix (c0.set n u) ((n : Int) + 1) = some w := fun u hl => by
  have := X8 (x := u) (l := c0) (i := (n : Int)) (j := (n : Int) + 1) (by omega) (by omega) (by omega)
  rw [if_neg (by omega), Int.toNat_natCast] at this
  rw [this]; exact (hw hl).1
 have hset : ∀ u u' : List Int, (c0.set n u).set (n : Int).toNat u' = c0.set n u' := fun u u' => by rw [Int.toNat_natCast, List.set_set]
 obtain ⟨c, r1, v2, ag2, rfl, r2⟩ := E3 (body := E7 t S ob (n : Int) i) (n := (t.operators.length : Int)) (s := (c0.set n v', ag))
  (fun j c => ∃ v2 ag2, c = (c0.set n v2, ag2) ∧ ESw t S g (ob.drop n) v w v2 ag2 (fun i' op => did i' op ∨ i' = i ∧ 0 ≤ op ∧ op < j)) (by omega)
  ⟨v', ag, rfl, h.1, h.2.imp (fun ⟨a, b, c⟩ => ⟨a, b, fun i' op q => q.elim (c i' op) fun q => by omega⟩) id⟩ (fun j c j0 j1 hP => by
   obtain ⟨u, ag, rfl, p1, p2⟩ := hP
   have hco := (M2 ht j0 j1).2
   unfold E7
   simp only [hi, oB, applies_eq j0 j1, B8]
   -- nothing changes
   have same : (∀ s' r x, ix S i = some s' → can t s' j → ix S r = some (aft t s' j) → ix u i = some x → (∀ y, ix u r = some y → y < 1000000000 → x ≤ y + (opAt t j).cost) ∧ (∀ r', ob.drop n = j :: r' → ∀ y, ix w r = some y → y < 1000000000 → x ≤ y + (opAt t j).cost)) → ∃ v2 ag2, (c0.set n u, ag) = (c0.set n v2, ag2) ∧ ESw t S g (ob.drop n) v w v2 ag2 (fun i' op => did i' op ∨ i' = i ∧ 0 ≤ op ∧ op < j + 1) := fun hfix =>
    ⟨u, ag, rfl, p1, p2.imp (fun ⟨a, b, c⟩ => ⟨a, b, fun i' op q => by
     by_cases e : i' = i ∧ op = j
     ·obtain ⟨rfl, rfl⟩ := e; subst b; exact hfix
     ·exact c i' op (q.imp id fun q => ⟨q.1, q.2.1, by
       have : op ≠ j := fun h => e ⟨q.1, h⟩
       omega⟩)⟩) id⟩
   by_cases hcan : can t s j
   ·rw [ifNN hcan]
    obtain ⟨r, hr, hrr⟩ := hS.next hi j0 j1 hcan
    obtain ⟨xi, hxi⟩ := p1.at hi
    obtain ⟨xr, hxr⟩ := p1.at hrr
    obtain ⟨bi0, bi1, bi2, bi3⟩ := p1.ok i s xi hi hxi
    obtain ⟨br0, br1, br2, _⟩ := p1.ok r _ xr hrr hxr
    simp only [after_eq ht j0 j1, hr, hat, hxr, hxi, ix_op j0 j1, oB]
    -- the value that a step leads to
    obtain ⟨z, z1, z2, z3, z4, z5, z6⟩ : ∃ z, (Option.bind (if (n : Int) < (ob.length : Int) then Option.bind (ix ob (n : Int)) fun a102 => if a102 = j then Option.bind (ix (c0.set n u) (w64 ((n : Int) + 1))) fun a111 => Option.bind (ix a111 r) fun a114 => some (decide (a114 < xr)) else some false else some false) fun t33 => if t33 = true then Option.bind (ix (c0.set n u) (w64 ((n : Int) + 1))) fun a122 => Option.bind (ix a122 r) fun a125 => some a125 else some xr) = some z ∧ 0 ≤ z ∧ z ≤ 1000000000 ∧ (z < 1000000000 → Ex t g (ob.drop n) s (z + (opAt t j).cost)) ∧ z ≤ xr ∧ ∀ r', ob.drop n = j :: r' → ∀ y, ix w r = some y → z ≤ y := by
     have hw1 : w64 ((n : Int) + 1) = (n : Int) + 1 := m6 (by omega) (by omega)
     rw [hw1]
     obtain ⟨PP, hPP⟩ : ∃ PP : Int → Prop, PP = fun z => 0 ≤ z ∧ z ≤ 1000000000 ∧ (z < 1000000000 → Ex t g (ob.drop n) s (z + (opAt t j).cost)) ∧ z ≤ xr ∧ ∀ r', ob.drop n = j :: r' → ∀ y, ix w r = some y → z ≤ y := ⟨_, rfl⟩
     have base : (∀ r', ob.drop n = j :: r' → ∀ y, ix w r = some y → xr ≤ y) → PP xr := fun hb => by
      rw [hPP]; exact ⟨br0, br1, fun hz => .step j0 j1 hcan (br2 hz), Int.le_refl _, hb⟩
     have main : ∃ z, (Option.bind (if (n : Int) < (ob.length : Int) then Option.bind (ix ob (n : Int)) fun a102 => if a102 = j then Option.bind (ix (c0.set n u) ((n : Int) + 1)) fun a111 => Option.bind (ix a111 r) fun a114 => some (decide (a114 < xr)) else some false else some false) fun t33 => if t33 = true then Option.bind (ix (c0.set n u) ((n : Int) + 1)) fun a122 => Option.bind (ix a122 r) fun a125 => some a125 else some xr) = some z ∧ PP z := by
      by_cases hl : n < ob.length
      ·rw [if_pos (by omega)]
       have hob : ix ob (n : Int) = some ob[n] := by rw [I6]; simp [hl]
       have hdrop : ob.drop n = ob[n] :: ob.drop (n + 1) := List.drop_eq_getElem_cons hl
       rw [hob]
       simp only [oB]
       by_cases e : ob[n] = j
       ·rw [if_pos e]
        obtain ⟨w1, w2⟩ := hw hl
        obtain ⟨y, hy⟩ := w2.at hrr
        obtain ⟨by0, by1, by2, _⟩ := w2.ok r _ y hrr hy
        simp only [hnx u hl, hy, oB]
        by_cases c : y < xr
        ·simp only [decide_eq_true c, if_true]
         refine ⟨y, rfl, ?_⟩
         rw [hPP]
         refine ⟨by0, by1, fun hz => ?_, by omega, fun r' _ y' hy' => by rw [hy] at hy'; cases hy'; exact Int.le_refl _⟩
         rw [hdrop, e]
         exact .obs j0 j1 hcan (by2 hz)
        ·simp only [decide_eq_false c, Bool.false_eq_true, if_false]
         exact ⟨xr, rfl, base fun r' _ y' hy' => by rw [hy] at hy'; cases hy'; omega⟩
       ·rw [if_neg e]
        simp only [oB, Bool.false_eq_true, if_false]
        exact ⟨xr, rfl, base fun r' hr' => by rw [hdrop] at hr'; cases hr'; exact absurd rfl e⟩
      ·rw [if_neg (by omega)]
       simp only [oB, Bool.false_eq_true, if_false]
       exact ⟨xr, rfl, base fun r' hr' => by rw [List.drop_eq_nil_of_le (by omega)] at hr'; cases hr'⟩
     rw [hPP] at main
     exact main
    rw [z1]
    have hw2 : w64 (z + (opAt t j).cost) = z + (opAt t j).cost := m6 (by have := hco.1; omega) (by have := hco.2; omega)
    simp only [oB, hw2]
    by_cases c : z < 1000000000 ∧ z + (opAt t j).cost < xi
    ·simp only [if_pos c.1, oB, decide_eq_true c.2, if_true, hset]
     obtain ⟨i0, i1, gi⟩ := l7 hxi
     have hsum := sumI_set (x := z + (opAt t j).cost) gi
     have hc0 := hco.1
     refine ⟨_, rfl, u.set i.toNat (z + (opAt t j).cost), true, rfl, ⟨by simp [p1.len], fun i' s' x' hs' hx' => ?_⟩, .inr ⟨rfl, ?_⟩⟩
     ·rw [X8 i0 i1 (l7 hs').1] at hx'
      by_cases e : i' = i
      ·subst e
       rw [if_pos rfl] at hx'; cases hx'
       rw [hi] at hs'; cases hs'
       exact ⟨by omega, by omega, fun _ => z4 c.1, fun a b => by have := bi3 a b; omega⟩
      ·rw [if_neg e] at hx'
       exact p1.ok i' s' x' hs' hx'
     ·have : sumI u ≤ sumI v := by
       rcases p2 with ⟨_, rfl, _⟩ | ⟨_, p2⟩ <;> omega
      omega
    ·have ef : (if z < 1000000000 then some (decide (z + (opAt t j).cost < xi)) else some false) = some false := by
      by_cases c1 : z < 1000000000
      ·rw [if_pos c1, decide_eq_false fun q => c ⟨c1, q⟩]
      ·rw [if_neg c1]
     rw [ef]
     simp only [oB, Bool.false_eq_true, if_false]
     refine ⟨_, rfl, same fun s' r2 x q1 q2 q3 q4 => ?_⟩
     rw [hi] at q1; cases q1
     have : r2 = r := nodup_ix hS.nd q3 hrr
     subst this
     rw [hxi] at q4; cases q4
     refine ⟨fun y hy hyb => ?_, fun r' hr' y hy hyb => ?_⟩
     ·rw [hxr] at hy; cases hy; omega
     ·have := z6 r' hr' y hy; omega
   ·rw [ifP hcan]
    refine ⟨_, rfl, same fun s' r x q1 q2 => ?_⟩
    rw [hi] at q1; cases q1
    exact absurd q2 hcan)
 exact ⟨v2, ag2, r1, r2⟩
theorem e_sweep (ht : k9 t) (hS : StS t S) (ho : ob.length ≤ 8) (hn : n ≤ ob.length) (hc : c0.length = ob.length + 1) {w : List Int} (hw : Beh t S g ob c0 n w) {v : List Int} (h : ERow t S g (ob.drop n) v) :
  ∃ v2 ag2, forR 0 (S.length : Int) (E9 t S ob (n : Int)) (c0.set n v, false) = some (c0.set n v2, ag2) ∧ ESw t S g (ob.drop n) v w v2 ag2 (fun i op => i < S.length ∧ 0 ≤ op ∧ op < t.operators.length) := by
 obtain ⟨c, r1, v2, ag2, rfl, r2⟩ := E3 (body := E9 t S ob (n : Int)) (n := (S.length : Int)) (s := (c0.set n v, false))
  (fun j c => ∃ v2 ag2, c = (c0.set n v2, ag2) ∧ ESw t S g (ob.drop n) v w v2 ag2 (fun i op => 0 ≤ i ∧ i < j ∧ 0 ≤ op ∧ op < t.operators.length)) (by omega)
  ⟨v, false, rfl, h, .inl ⟨rfl, rfl, fun i op q => by omega⟩⟩ (fun j c j0 j1 hP => by
   obtain ⟨u, ag, rfl, hP⟩ := hP
   obtain ⟨s, hs, _⟩ := j7 j0 j1
   obtain ⟨v3, ag3, k1, k2, k3⟩ := e_in ht hS ho hn hc hw hs hP
   unfold E9
   simp only [k1, oB]
   refine ⟨_, rfl, v3, ag3, rfl, k2, k3.imp (fun ⟨a, b, c⟩ => ⟨a, b, fun i op q => c i op ?_⟩) id⟩
   by_cases e : i = j
   ·exact .inr ⟨e, q.2.2⟩
   ·exact .inl ⟨q.1, by omega, q.2.2⟩)
 refine ⟨v2, ag2, r1, r2.1, r2.2.imp (fun ⟨a, b, c⟩ => ⟨a, b, fun i op q => ?_⟩) id⟩
 by_cases c0 : 0 ≤ i
 ·exact c i op ⟨c0, q.1, q.2⟩
 ·intro s r x g1; have := (l7 g1).1; omega
theorem e_fix (ht : k9 t) (hS : StS t S) (ho : ob.length ≤ 8) (hn : n ≤ ob.length) (hc : c0.length = ob.length + 1) {w : List Int} (hw : Beh t S g ob c0 n w) (hwl : n < ob.length → ELow t S g (ob.drop (n + 1)) w) {v : List Int} (h : ERow t S g (ob.drop n) v) :
  ∃ v2, Loop (E5 t S ob (n : Int)) (c0.set n v, true) = some (c0.set n v2) ∧ ERow t S g (ob.drop n) v2 ∧ ELow t S g (ob.drop n) v2 := by
 have hat : ∀ u : List Int, ix (c0.set n u) (n : Int) = some u := fun u => by
  have := X8 (x := u) (l := c0) (i := (n : Int)) (j := (n : Int)) (by omega) (by omega) (by omega)
  rwa [if_pos rfl, Int.toNat_natCast] at this
 obtain ⟨o, o1, v2, rfl, o2, o3⟩ := M1 (body := E5 t S ob (n : Int)) (s := (c0.set n v, true))
  (fun s => ∃ v2, s.1 = c0.set n v2 ∧ ERow t S g (ob.drop n) v2 ∧ (s.2 = false → ELow t S g (ob.drop n) v2)) (fun o => ∃ v2, o = c0.set n v2 ∧ ERow t S g (ob.drop n) v2 ∧ ELow t S g (ob.drop n) v2)
  (fun s => 2 * (match ix s.1 (n : Int) with | some v => sumI v | none => 0) + s.2.toNat) ⟨v, rfl, h, by simp⟩ (by
   rintro ⟨c, ag⟩ ⟨u, rfl, p1, p2⟩
   unfold E5
   cases ag with
   | false => exact .inr ⟨_, by simp, u, rfl, p1, p2 rfl⟩
   | true =>
    obtain ⟨v3, ag3, k1, k2, k3⟩ := e_sweep ht hS ho hn hc hw p1
    simp only [if_true, k1, oB]
    refine .inl ⟨_, rfl, ⟨v3, rfl, k2, fun e => ?_⟩, ?_⟩
    ·rcases k3 with ⟨_, rfl, k3⟩ | ⟨k3, _⟩
     ·refine elow_of ht hS k2 (w := w) (fun a r e => ?_) fun i op h0 h1 => ?_
      ·have hl : n < ob.length := by
        rcases Nat.lt_or_ge n ob.length with h | h
        ·exact h
        ·rw [List.drop_eq_nil_of_le h] at e; cases e
       rw [List.drop_eq_getElem_cons hl] at e
       cases e
       exact ⟨(hw hl).2, hwl hl⟩
      ·by_cases q : i < S.length
       ·exact k3 i op ⟨q, h0, h1⟩
       ·intro s r x g1; exact absurd (l7 g1).2.1 q
     ·simp only at e; rw [k3] at e; cases e
    ·simp only [hat]
     rcases k3 with ⟨rfl, rfl, _⟩ | ⟨rfl, k3⟩
     ·simp only [Bool.toNat_true, Bool.toNat_false]; omega
     ·simp only [Bool.toNat_true]; omega)
 exact ⟨v2, o1, o2, o3⟩
theorem e_fill (hS : StS t S) (hn : n ≤ ob.length) (hc : c0.length = ob.length + 1) : ∃ v, forR 0 (S.length : Int) (E6 S g ob (n : Int)) (c0.set n (List.replicate S.length 0)) = some (c0.set n v) ∧ ERow t S g (ob.drop n) v := by
 have hat : ∀ u : List Int, ix (c0.set n u) (n : Int) = some u := fun u => by
  have := X8 (x := u) (l := c0) (i := (n : Int)) (j := (n : Int)) (by omega) (by omega) (by omega)
  rwa [if_pos rfl, Int.toNat_natCast] at this
 obtain ⟨c, h1, v, rfl, h2, h3⟩ := E3 (body := E6 S g ob (n : Int)) (n := (S.length : Int)) (s := c0.set n (List.replicate S.length 0))
  (fun j c => ∃ v, c = c0.set n v ∧ v.length = S.length ∧ ∀ i s x, ix S i = some s → ix v i = some x → x = if i < j ∧ ¬ (n = ob.length ∧ ∀ y ∈ g, y ∈ s) then 1000000000 else 0) (by omega)
  ⟨_, rfl, by simp, fun i s x hi hx => by
   rw [if_neg (by have := (l7 hi).1; omega)]
   exact List.eq_of_mem_replicate (o9 hx)⟩ (fun j c j0 j1 hP => by
   obtain ⟨v, rfl, p1, p2⟩ := hP
   obtain ⟨s, hs, _⟩ := j7 j0 j1
   obtain ⟨z, hz, _⟩ := j7 (l := v) j0 (by omega)
   unfold E6
   simp only [hs, oB, subset_eq, B8, hat, hz]
   have cond : (if (n : Int) < (ob.length : Int) then some true else some (dec (¬ ∀ y ∈ g, y ∈ s))) = some (dec (¬ (n = ob.length ∧ ∀ y ∈ g, y ∈ s))) := by
    by_cases q : n < ob.length
    ·rw [if_pos (by omega), j9 (by omega)]
    ·rw [if_neg (by omega)]
     exact congrArg some (L5 ⟨fun h k => h k.2, fun h k => h ⟨by omega, k⟩⟩)
   rw [cond]
   simp only [oB]
   by_cases q : n = ob.length ∧ ∀ y ∈ g, y ∈ s
   ·rw [ifNN q]
    refine ⟨_, rfl, v, rfl, p1, fun i s' x hi hx => ?_⟩
    rw [p2 i s' x hi hx]
    by_cases e : i = j
    ·subst e; rw [hs] at hi; cases hi
     rw [if_neg fun h => h.2 q, if_neg fun h => h.2 q]
    ·have : i < j + 1 ↔ i < j := by omega
     simp only [this]
   ·rw [ifP q]
    refine ⟨_, rfl, v.set j.toNat 1000000000, by rw [Int.toNat_natCast, List.set_set], by simp [p1], fun i s' x hi hx => ?_⟩
    rw [X8 j0 (by omega) (l7 hi).1] at hx
    by_cases e : i = j
    ·subst e; rw [hs] at hi; cases hi
     rw [if_pos rfl] at hx; cases hx
     rw [if_pos ⟨by omega, q⟩]
    ·rw [if_neg e] at hx
     rw [p2 i s' x hi hx]
     have : i < j + 1 ↔ i < j := by omega
     simp only [this])
 refine ⟨v, h1, h2, fun i s x hi hx => ?_⟩
 have hx' := h3 i s x hi hx
 have hil := (l7 hi).2.1
 by_cases q : n = ob.length ∧ ∀ y ∈ g, y ∈ s
 ·rw [if_neg fun h => h.2 q] at hx'
  subst hx'
  refine ⟨by omega, by omega, fun _ => ?_, fun _ _ => rfl⟩
  rw [q.1, List.drop_length]; exact .goal q.2
 ·rw [if_pos ⟨hil, q⟩] at hx'
  subst hx'
  refine ⟨by omega, by omega, fun h => by omega, fun h1 h2 => absurd ⟨?_, h2⟩ q⟩
  have := congrArg List.length h1
  simp at this; omega
theorem ae5 (ht : k9 t) (hS : StS t S) (ho : ob.length ≤ 8) {k : Int} (hk : EC t g ob k) : F7 t S g ob = some k := by
 unfold F7
 have hSl := hS.len
 have hw : w64 ((ob.length : Int) + 1) = ((ob.length + 1 : Nat) : Int) := by rw [m6 (by omega) (by omega)]; simp
 have mk : ∀ {b m : Nat} {α : Type} {z : α}, b * m ≤ 281474976710656 → m ≤ 1000000 → mkL b (m : Int) z = some (List.replicate m z) := fun h h' => by
  rw [mkL, if_pos ⟨by omega, by omega, by omega⟩]; simp
 rw [hw, mk (by omega) (by omega)]
 simp only [oB]
 obtain ⟨c, h1, h2, v, h3, h4, h5⟩ := M1 (body := J7 t S g ob) (s := (List.replicate (ob.length + 1) ([] : List Int), (ob.length : Int)))
  (fun s => s.1.length = ob.length + 1 ∧ -1 ≤ s.2 ∧ s.2 ≤ ob.length ∧ ∀ n : Nat, s.2 < n → n ≤ ob.length → ∃ v, ix s.1 (n : Int) = some v ∧ ERow t S g (ob.drop n) v ∧ ELow t S g (ob.drop n) v)
  (fun c => c.length = ob.length + 1 ∧ ∃ v, ix c 0 = some v ∧ ERow t S g ob v ∧ ELow t S g ob v) (fun s => (s.2 + 1).toNat)
  ⟨by simp, by simp only; omega, by simp only; omega, fun n g1 g2 => by simp only at g1; omega⟩ (by
   rintro ⟨c, k⟩ ⟨p1, p2, p3, p4⟩
   simp only at p1 p2 p3 p4
   unfold J7
   by_cases hk : 0 ≤ k
   ·simp only [if_pos hk]
    obtain ⟨n, rfl⟩ : ∃ n : Nat, k = (n : Int) := ⟨k.toNat, by omega⟩
    have hn : n ≤ ob.length := by omega
    obtain ⟨z, hz, _⟩ := j7 (l := c) hk (by omega)
    rw [mk (by omega) (by omega)]
    simp only [hz, oB, Int.toNat_natCast]
    obtain ⟨v, v1, v2⟩ := e_fill (t := t) (g := g) (c0 := c) hS hn p1
    rw [v1]
    simp only [oB]
    obtain ⟨w, hw⟩ : ∃ w, Beh t S g ob c n w ∧ (n < ob.length → ELow t S g (ob.drop (n + 1)) w) := by
     by_cases q : n < ob.length
     ·obtain ⟨w, w1, w2, w3⟩ := p4 (n + 1) (by omega) (by omega)
      exact ⟨w, fun _ => ⟨by simpa using w1, w2⟩, fun _ => w3⟩
     ·exact ⟨[], fun h => absurd h q, fun h => absurd h q⟩
    obtain ⟨v', f1, f2, f3⟩ := e_fix ht hS ho hn p1 hw.1 hw.2 v2
    rw [f1]
    simp only [oB]
    have hst : w64 ((n : Int) - 1) = (n : Int) - 1 := m6 (by omega) (by omega)
    refine .inl ⟨_, rfl, ⟨by simp [p1], by simp only [hst]; omega, by simp only [hst]; omega, fun m g1 g2 => ?_⟩, by simp only [hst]; omega⟩
    simp only [hst] at g1
    have hput := X8 (x := v') (l := c) (i := (n : Int)) (j := (m : Int)) hk (by omega) (by omega)
    rw [Int.toNat_natCast] at hput
    simp only [hput]
    by_cases e : m = n
    ·subst e; exact ⟨v', by simp, f2, f3⟩
    ·rw [if_neg (by omega)]
     exact p4 m (by omega) g2
   ·simp only [if_neg hk]
    have : k = -1 := by omega
    subst this
    obtain ⟨v, v1, v2, v3⟩ := p4 0 (by omega) (by omega)
    exact .inr ⟨_, rfl, p1, v, by simpa using v1, by simpa using v2, by simpa using v3⟩)
 have hi : t.init ∈ S := (hS.iff _).2 .init
 obtain ⟨r, r1, r2⟩ := place_eq S t.init
 rcases r2 with ⟨_, r2⟩ | ⟨_, _, r2, _⟩
 ·exact absurd hi r2
 obtain ⟨x, hx⟩ := h4.at r2
 obtain ⟨b0, b1, b2, _⟩ := h4.ok r _ x r2 hx
 have : x = k := by
  obtain ⟨a1, a2, ⟨a3, a4⟩ | ⟨a3, a4⟩⟩ := hk
  ·by_cases c : x < 1000000000
   ·exact absurd (b2 c) (a4 x)
   ·omega
  ·have h6 := h5 r _ x k r2 hx a4 a3
   have := a1 x (b2 (by omega))
   omega
 subst this
 simp [h1, h3, r1, hx]
end
theorem aa6 (t : f7) (goals : List (List Int)) (ob : List Int) : A8 t goals ob = some true := by
 unfold A8
 simp only [explained_true]
 obtain ⟨l, f, e, h1, h2, h3⟩ := rcosts_spec t goals ob
 have hc : (f = ⟨0, 0⟩ ∧ Rg t goals ob l ∧ goals.length ≤ 4) ∨ f.code ≠ 0 := by
  rcases h3 with ⟨_, ho, _, rfl, _, hr⟩ | ⟨_, _, _, rfl, _⟩ | ⟨_, _, hc, _⟩
  ·exact .inl ⟨rfl, hr, ho.g1⟩
  ·exact .inr (by simp)
  ·exact .inr hc
 rcases h3 with ⟨ht, ho, rfl, rfl, hm, hr⟩ | ⟨ht, ho, rfl, rfl, hm, rfl⟩ | ⟨hn, rfl, hcf, _, rfl⟩
 ·rcases aa9 h1 hc with ⟨hc', _⟩ | ⟨v, hv, hb⟩
  ·exact absurd rfl hc'
  ·rw [h1, hb, h2]
   simp only [oB]
   rw [if_pos (by trivial)]
   obtain ⟨S, b, s1, s2, s3⟩ := ai3 ht
   rw [s1]
   simp only [oB]
   by_cases hs : b = true ∧ S.length ≤ 60
   ·obtain ⟨rfl, hs⟩ := hs
    rw [if_neg (by simp; omega)]
    obtain ⟨k1, k2, k3, _⟩ := s3 rfl
    have hS : StS t S := ⟨k1, k2, k3⟩
    have hlen := hr.1
    have hg4 := ho.g1
    obtain ⟨⟨c, w⟩, r1, r2, r3⟩ := E3 (body := v6 t goals ob (S, true)) (n := (goals.length : Int)) (s := ([], 1000000000)) (fun j c => c.1 = l.take j.toNat ∧ Lst l j c.2) (by omega) ⟨by simp, Lst.zero l⟩ (fun j c j0 j1 hP => by
     obtain ⟨c, w⟩ := c
     obtain ⟨p1, p2⟩ := hP
     simp only at p1 p2
     obtain ⟨g, hg, _⟩ := j7 j0 j1
     obtain ⟨p, hp, gp⟩ := j7 (l := l) j0 (by omega)
     obtain ⟨e1, e2⟩ := hr.2 j g p hg hp
     have hbd := hr.bd hp
     have hw : w64 (p.1 - p.2) = p.1 - p.2 := m6 (by omega) (by omega)
     have hcl : c.length ≤ 4 := by rw [p1, List.length_take]; omega
     have ha : app 16 c [(p.1, p.2)] = some (c ++ [(p.1, p.2)]) := by unfold app; rw [if_pos (by simp; omega)]
     have htk : l.take (j + 1).toNat = l.take j.toNat ++ [p] := by rw [show (j + 1).toNat = j.toNat + 1 by omega, List.take_add_one, gp]; rfl
     unfold v6
     simp only [hg, oB, ae5 ht hS ho.o8 e1, ae5 ht hS (by simp) e2, ha, hw]
     have hst := p2.step hp (by omega)
     by_cases c1 : p.1 < 1000000000
     ·rw [if_pos c1] at hst
      by_cases c2 : p.1 - p.2 < w
      ·rw [if_pos (by simp [c1, c2])]
       refine ⟨_, rfl, by simp only [htk, p1], ?_⟩
       simp only
       rwa [show min w (p.1 - p.2) = p.1 - p.2 by omega] at hst
      ·rw [if_neg (by simp [c2])]
       refine ⟨_, rfl, by simp only [htk, p1], ?_⟩
       simp only
       rwa [show min w (p.1 - p.2) = w by omega] at hst
     ·rw [if_neg c1] at hst
      rw [if_neg (by simp [c1])]
      exact ⟨_, rfl, by simp only [htk, p1], hst⟩)
    rw [r1]
    simp only at r2 r3
    rw [show l.take (goals.length : Int).toNat = l by rw [Int.toNat_natCast, ← hlen, List.take_length]] at r2
    rw [show ((goals.length : Nat) : Int) = (l.length : Int) by omega] at r3
    subst r2
    have := r3.eq hv
    subst this
    simp only [oB]
    have hset := ag5 (b := 8) (n := (c.length : Int)) (body := u9 c w) (Bst c w) (by omega) (by omega) (fun j q j0 j1 => by
     obtain ⟨p, hp, _⟩ := j7 j0 j1
     have hbd := hr.bd hp
     have hw : w64 (p.1 - p.2) = p.1 - p.2 := m6 (by omega) (by omega)
     unfold u9
     simp only [hp, oB, hw]
     refine ⟨fun ⟨q, q1, q2, q3⟩ => ?_, fun hn => ?_⟩
     ·rw [hp] at q1; cases q1
      simp only [if_pos q2, oB, decide_eq_true q3, if_true]
      cases app 8 _ [j] <;> rfl
     ·by_cases c1 : p.1 < 1000000000
      ·simp only [if_pos c1, oB]
       rw [decide_eq_false fun q => hn ⟨p, hp, c1, q⟩]; rfl
      ·simp only [if_neg c1, oB]; rfl)
    rw [hset]
    simp [twoInts_eq, numbers_eq]
   ·rw [if_pos]
    cases b
    ·simp
    ·simp at hs ⊢; omega
 ·rcases aa9 h1 hc with ⟨_, hb⟩ | ⟨v, _, hb⟩
  ·rw [h1, hb, h2]
   simp only [oB]
   rw [if_pos (by trivial)]
   obtain ⟨S, b, s1, s2, s3⟩ := ai3 ht
   rw [s1]
   simp only [oB]
   have hb : b = false := by
    cases b with
    | false => rfl
    | true =>
     obtain ⟨k1, k2, k3, _⟩ := s3 rfl
     exact absurd hm (few_many ⟨S, k1, k2, k3⟩)
   subst hb
   rw [if_pos (by simp)]
  ·unfold q7 at hb; rw [h1] at hb; simp at hb
 ·rcases aa9 h1 hc with ⟨_, hb⟩ | ⟨v, _, hb⟩
  ·rw [h1, hb, h2]
   simp only [oB]
   rw [if_neg hcf]
   have : w64 ((([] : List (Int × Int)).length : Int) + (([] : List Int).length : Int)) = 0 := by rw [m6 (by simp) (by simp)]; simp
   have h0 : w64 0 = 0 := m6 (by omega) (by omega)
   simp [this, h0]
  ·unfold q7 at hb; rw [h1] at hb; simp [hcf] at hb
   exact absurd (by rw [hb.2]) hcf
end Ab
end
