/-
  Texts that the proof stands on.
-/
import Derived.Test.YtpccoiobnjnciaaKRwConPrice5
set_option linter.all false
section
namespace Ab
open Go
abbrev MpI := List (Int × Int)
def G7 (g x : Int) : Prop := Go.bits .and .u32 x g = g
def cst (c : MpI) (x : Int) : Int := (mget c x).getD 0
inductive PthW (vs : List Int) (ms : List Mk) (g : Int) : Int → Int → Prop
 | goal {x : Int} (h : x ∈ vs) (hg : G7 g x) : PthW vs ms g x 0
 | step {x k : Int} {m : Mk} (h : x ∈ vs) (hm : m ∈ ms) (hc : canW m x) (hp : PthW vs ms g (tgtW m x) k) : PthW vs ms g x (k + m.cost)
structure Gr (vs : List Int) (ms : List Mk) : Prop where
 cl : ∀ x ∈ vs, ∀ m ∈ ms, canW m x → tgtW m x ∈ vs
 co : ∀ m ∈ ms, 0 ≤ m.cost ∧ m.cost ≤ 100
 ml : ms.length ≤ 40
 vl : vs.length ≤ 2000
structure Cd (vs : List Int) (ms : List Mk) (g : Int) (c : MpI) : Prop where
 dom : ∀ x ∈ vs, ∃ k, mget c x = some k ∧ 0 ≤ k ∧ k ≤ 1000000000 ∧ (k = 1000000000 ∨ PthW vs ms g x k)
 goal : ∀ x ∈ vs, G7 g x → mget c x = some 0
structure Iv (vs : List Int) (ms : List Mk) (g : Int) (c M : MpI) (L : List Int) (E : List En) (exc : Int → Prop) : Prop where
 cd : Cd vs ms g c
 qu : Qu M L E
 qk : ∀ x k, qkey M E x = some k → x ∈ vs ∧ mget c x = some k
 arc : ∀ x ∈ vs, ∀ m ∈ ms, canW m x → ¬ exc (tgtW m x) → qkey M E (tgtW m x) = none → cst c x ≤ cst c (tgtW m x) + m.cost
theorem Iv.len {vs : List Int} {ms : List Mk} {g : Int} {c M : MpI} {L : List Int} {E : List En} {exc : Int → Prop} (h : Iv vs ms g c M L E exc) : L.length ≤ vs.length :=
 h.qu.le fun x hx => by
  cases e : qkey M E x with
  | none => exact absurd e hx
  | some k => exact (h.qk x k e).1
def sm (vs : List Int) (c : MpI) : Nat := (vs.map fun x => (cst c x).toNat).sum
theorem sum_le {α : Type} {f g : α → Nat} : ∀ {l : List α}, (∀ x ∈ l, f x ≤ g x) → (l.map f).sum ≤ (l.map g).sum
 | [], _ => by simp
 | x :: l, h => by
  have h1 := h x (by simp)
  have h2 := sum_le (l := l) fun y hy => h y (List.mem_cons_of_mem _ hy)
  simp only [List.map_cons, List.sum_cons]; omega
theorem sum_lt {α : Type} {f g : α → Nat} : ∀ {l : List α}, (∀ x ∈ l, f x ≤ g x) → (∃ x ∈ l, f x < g x) → (l.map f).sum < (l.map g).sum
 | [], _, h => by simp at h
 | x :: l, h, ⟨y, hy, hlt⟩ => by
  have h1 := h x (by simp)
  have h2 := sum_le (l := l) fun y hy => h y (List.mem_cons_of_mem _ hy)
  simp only [List.map_cons, List.sum_cons]
  rcases List.mem_cons.1 hy with rfl | hy
  ·omega
  ·have := sum_lt (l := l) (fun y hy => h y (List.mem_cons_of_mem _ hy)) ⟨y, hy, hlt⟩
   omega
theorem X8 {c : MpI} {x v : Int} (z : Int) : cst (mset c x v) z = if z = x then v else cst c z := by
 unfold cst; rw [B6]; split <;> rfl
theorem sm_lt {vs : List Int} {c : MpI} {x v : Int} (hx : x ∈ vs) (h0 : 0 ≤ v) (hv : v < cst c x) : sm vs (mset c x v) < sm vs c := by
 refine sum_lt (fun z _ => ?_) ⟨x, hx, ?_⟩
 ·rw [X8]
  split
  ·rename_i e; subst e; omega
  ·exact Nat.le_refl _
 ·rw [X8, if_pos rfl]; omega
theorem relax_ok {vs : List Int} {ms : List Mk} {g : Int} {c M : MpI} {L : List Int} {E : List En} {exc : Int → Prop} (hg : Gr vs ms) (h : Iv vs ms g c M L E exc) {x v : Int} (hx : x ∈ vs) (h0 : 0 ≤ v) (hv : v < cst c x) (hp : PthW vs ms g x v) (t0 : Int) :
  ∃ M' L' E', m4 x v t0 L M E = some (M', L', E') ∧ Iv vs ms g (mset c x v) M' L' E' exc ∧ ∀ z, qkey M' E' z = if z = x then some v else qkey M E z := by
 have hlen := h.len
 have hvl := hg.vl
 obtain ⟨M', L', E', k1, k2, k3⟩ := set_ok h.qu (by omega) x v t0
 refine ⟨M', L', E', k1, ⟨⟨fun z hz => ?_, fun z hz hgz => ?_⟩, k2, fun z k hk => ?_, fun z hz m hm hc he hq => ?_⟩, k3⟩
 ·rw [B6]
  by_cases e : z = x
  ·subst e
   obtain ⟨k, q1, q2, q3, _⟩ := h.cd.dom z hz
   have : cst c z = k := by unfold cst; rw [q1]; rfl
   exact ⟨v, if_pos rfl, h0, by omega, .inr hp⟩
  ·rw [if_neg e]; exact h.cd.dom z hz
 ·rw [B6]
  by_cases e : z = x
  ·subst e
   have : cst c z = 0 := by unfold cst; rw [h.cd.goal z hz hgz]; rfl
   omega
  ·rw [if_neg e]; exact h.cd.goal z hz hgz
 ·rw [k3] at hk
  rw [B6]
  by_cases e : z = x
  ·rw [if_pos e] at hk ⊢; cases hk; exact ⟨by rw [e]; exact hx, rfl⟩
  ·rw [if_neg e] at hk ⊢; exact h.qk z k hk
 ·rw [k3] at hq
  by_cases e : tgtW m z = x
  ·rw [if_pos e] at hq; cases hq
  ·rw [if_neg e] at hq
   have := h.arc z hz m hm hc he hq
   rw [X8, X8, if_neg e]
   by_cases f : z = x
   ·rw [if_pos f]; subst f; omega
   ·rw [if_neg f]; exact this
abbrev Bkm := List (Int × List o5)
def BkOk (vs : List Int) (ms : List Mk) (b : Bkm) : Prop := ∀ y a, a ∈ rowM b y ↔ ∃ x ∈ vs, ∃ m ∈ ms, canW m x ∧ tgtW m x = y ∧ a = ⟨x, m.cost⟩
abbrev St5 := MpI × MpI × List En × Int × List Int
theorem relax_all {vs : List Int} {ms : List Mk} {g : Int} {b : Bkm} {c M : MpI} {L : List Int} {E : List En} {y k : Int} (hg : Gr vs ms) (hb : BkOk vs ms b) (h : Iv vs ms g c M L E (· = y)) (hy : y ∈ vs) (hk : mget c y = some k) (hq : qkey M E y = none) (t0 : Int) (bb : Bool) :
  ∃ s : St5, forR 0 ((rowM b y).length : Int) (D4 b (M, E, L, y, k, bb)) (c, M, E, t0, L) = some s ∧ Iv vs ms g s.1 s.2.1 s.2.2.2.2 s.2.2.1 (fun _ => False) ∧ ((sm vs s.1 = sm vs c ∧ s.2.2.2.2 = L) ∨ sm vs s.1 < sm vs c) := by
 obtain ⟨s, h1, h2, h3, h4, h5, h6⟩ := L4 (body := D4 b (M, E, L, y, k, bb)) (n := ((rowM b y).length : Int)) (s := ((c, M, E, t0, L) : St5))
  (fun j s => Iv vs ms g s.1 s.2.1 s.2.2.2.2 s.2.2.1 (· = y) ∧ mget s.1 y = some k ∧ qkey s.2.1 s.2.2.1 y = none ∧ (∀ i a, i < j → ix (rowM b y) i = some a → cst s.1 a.ffrom ≤ k + a.cost) ∧ ((sm vs s.1 = sm vs c ∧ s.2.2.2.2 = L) ∨ sm vs s.1 < sm vs c)) (by omega)
  ⟨h, hk, hq, fun i a hi ha => by have := (A7 ha).1; omega, .inl ⟨rfl, rfl⟩⟩ (fun j s j0 j1 hP => by
   obtain ⟨c', M', E', t', L'⟩ := s
   obtain ⟨p1, p2, p3, p4, p5⟩ := hP
   simp only at p1 p2 p3 p4 p5
   obtain ⟨a, ha, _⟩ := u6 (l := rowM b y) j0 j1
   obtain ⟨x, hx, m, hm, hc, hty, rfl⟩ := (hb y a).1 (D0 ha)
   have hco := hg.co m hm
   obtain ⟨k', q1, q2, q3, q4⟩ := p1.cd.dom y hy
   rw [p2] at q1; cases q1
   have hw : w64 (k + m.cost) = k + m.cost := H1 (by omega) (by omega)
   unfold D4
   simp only [ha, oB, hw]
   have hcx : Option.getD (mget c' x) 0 = cst c' x := rfl
   rw [hcx]
   by_cases cc : k + m.cost < cst c' x
   ·rw [if_pos cc]
    have hpy : PthW vs ms g y k := by
     rcases q4 with q4 | q4
     ·obtain ⟨k2, r1, r2, r3, _⟩ := p1.cd.dom x hx
      have : cst c' x = k2 := by unfold cst; rw [r1]; rfl
      omega
     ·exact q4
    have hxy : x ≠ y := fun e => by
     subst e
     have : cst c' x = k := by unfold cst; rw [p2]; rfl
     omega
    obtain ⟨M2, L2, E2, k1, k2, k3⟩ := relax_ok hg p1 hx (by omega) cc (.step hx hm hc (by rw [hty]; exact hpy)) t'
    rw [same_set, k1]
    have hsm := sm_lt (vs := vs) (c := c') hx (by omega) cc
    refine ⟨_, rfl, k2, ?_, ?_, fun i a' hi ha' => ?_, .inr (by simp only; rcases p5 with p5 | p5 <;> omega)⟩
    ·simp only [B6]; rw [if_neg (Ne.symm hxy)]; exact p2
    ·simp only [k3]; rw [if_neg (Ne.symm hxy)]; exact p3
    ·simp only [X8]
     by_cases e : i = j
     ·subst e; rw [ha] at ha'; cases ha'; simp
     ·have := p4 i a' (by omega) ha'
      split
      ·rename_i f; rw [f] at this; omega
      ·exact this
   ·rw [if_neg cc]
    refine ⟨_, rfl, p1, p2, p3, fun i a' hi ha' => ?_, p5⟩
    by_cases e : i = j
    ·subst e; rw [ha] at ha'; cases ha'; simp only; omega
    ·exact p4 i a' (by omega) ha')
 refine ⟨s, h1, ⟨h2.cd, h2.qu, h2.qk, fun x hx m hm hc _ hqn => ?_⟩, h6⟩
 by_cases e : tgtW m x = y
 ·have hmem := (hb y ⟨x, m.cost⟩).2 ⟨x, hx, m, hm, hc, e, rfl⟩
  obtain ⟨i, i0, i1, hi⟩ := D3 hmem
  have := h5 i _ i1 hi
  change cst s.1 x ≤ k + m.cost at this
  rw [e]
  have e2 : cst s.1 y = k := by unfold cst; rw [h3]; rfl
  omega
 ·exact h2.arc x hx m hm hc e hqn
structure Best (vs : List Int) (ms : List Mk) (g : Int) (c : MpI) : Prop where
 cd : Cd vs ms g c
 least : ∀ x k, PthW vs ms g x k → cst c x ≤ k
theorem main_ok {vs : List Int} {ms : List Mk} {g : Int} {b : Bkm} {c M : MpI} {L : List Int} {E : List En} (hg : Gr vs ms) (hb : BkOk vs ms b) (h : Iv vs ms g c M L E fun _ => False) (t0 : Int) :
  ∃ r, Loop (D1 b) (c, M, E, t0, L) = some r ∧ Best vs ms g r := by
 have hvl := hg.vl
 refine aa2 (body := D1 b) (s := ((c, M, E, t0, L) : St5)) (fun s : St5 => Iv vs ms g s.1 s.2.1 s.2.2.2.2 s.2.2.1 fun _ => False) (fun r => Best vs ms g r)
  (fun s => sm vs s.1 * 2001 + s.2.2.2.2.length) h ?_
 rintro ⟨c, M, E, t, L⟩ p
 simp only at p
 have hlen := p.len
 unfold D1
 simp only [w9, oB]
 by_cases cl : 0 < L.length
 ·rw [if_pos (by omega)]
  obtain ⟨M', L', E', y, k, k1, k2, k3, k4, k5⟩ := take_ok p.qu cl (by omega) t
  obtain ⟨hy, hk⟩ := p.qk y k k3
  have h' : Iv vs ms g c M' L' E' (· = y) := ⟨p.cd, k2, fun x k hx => by
    rw [k4] at hx
    by_cases e : x = y
    ·rw [if_pos e] at hx; cases hx
    ·rw [if_neg e] at hx; exact p.qk x k hx, fun x hx m hm hc he hq => by
    rw [k4, if_neg he] at hq
    exact p.arc x hx m hm hc (fun q => q) hq⟩
  obtain ⟨s, s1, s2, s3⟩ := relax_all hg hb h' hy hk (by rw [k4, if_pos rfl]) t true
  have hl2 := s2.len
  simp only [k1, oB, s1]
  refine .inl ⟨s, rfl, s2, ?_⟩
  change sm vs s.1 * 2001 + s.2.2.2.2.length < sm vs c * 2001 + L.length
  rcases s3 with ⟨s3, s4⟩ | s3
  ·rw [s3, s4]; omega
  ·omega
 ·rw [if_neg (by omega)]
  refine .inr ⟨c, rfl, p.cd, ?_⟩
  have hL : L = [] := List.eq_nil_of_length_eq_zero (by omega)
  have hq : ∀ x, qkey M E x = none := fun x => by
   unfold qkey
   cases e : mget M x with
   | none => rfl
   | some z => have := ((p.qu.mem x z).1 e).1; rw [hL] at this; cases this
  intro x k hp
  induction hp with
  | goal hx hgx => unfold cst; rw [p.cd.goal _ hx hgx]; simp
  | step hx hm hc hp ih =>
   have := p.arc _ hx _ hm hc (fun q => q) (hq _)
   omega
theorem rowM_mset {b : Bkm} {k : Int} {v : List o5} (y : Int) : rowM (mset b k v) y = if y = k then v else rowM b y := by
 unfold rowM; rw [B6]; split <;> rfl
theorem back_ok {ms : List Mk} {b : Bkm} {x : Int} (hml : ms.length ≤ 40) {B : Nat} (hB : ∀ y, (rowM b y).length ≤ B) (hB' : B ≤ 1000000) :
  ∃ b', H7 ms b x = some b' ∧ (∀ y, (rowM b' y).length ≤ B + 40) ∧ ∀ y a, a ∈ rowM b' y ↔ a ∈ rowM b y ∨ ∃ m ∈ ms, canW m x ∧ tgtW m x = y ∧ a = ⟨x, m.cost⟩ := by
 unfold H7
 obtain ⟨b', h1, h2, h3⟩ := L4 (body := H8 ms x) (n := (ms.length : Int)) (s := b)
  (fun j c => (∀ y, ((rowM c y).length : Int) ≤ B + j) ∧ ∀ y a, a ∈ rowM c y ↔ a ∈ rowM b y ∨ ∃ i m, i < j ∧ ix ms i = some m ∧ canW m x ∧ tgtW m x = y ∧ a = ⟨x, m.cost⟩) (by omega)
  ⟨fun y => by have := hB y; omega, fun y a => ⟨.inl, fun q => by
   rcases q with q | ⟨i, m, hi, hm, _⟩
   ·exact q
   ·have := (A7 hm).1; omega⟩⟩ (fun j c j0 j1 hP => by
   obtain ⟨p1, p2⟩ := hP
   obtain ⟨m, hm, _⟩ := u6 j0 j1
   unfold H8
   simp only [hm, oB]
   by_cases c1 : Go.bits .and .u32 x m.pre = m.pre
   ·rw [if_pos c1]
    have ee : Go.bits .or .u32 (Go.bits .andNot .u32 x m.del) m.add = tgtW m x := rfl
    rw [ee]
    have hl := p1 (tgtW m x)
    have ha : app 16 (rowM c (tgtW m x)) [(⟨x, m.cost⟩ : o5)] = some (rowM c (tgtW m x) ++ [⟨x, m.cost⟩]) := by unfold app; rw [if_pos (by simp; omega)]
    simp only [ha, oB]
    refine ⟨_, rfl, fun y => ?_, fun y a => ?_⟩
    ·rw [rowM_mset]
     split
     ·simp; omega
     ·have := p1 y; omega
    ·rw [rowM_mset]
     have key : (∃ i m', i < j + 1 ∧ ix ms i = some m' ∧ canW m' x ∧ tgtW m' x = y ∧ a = ⟨x, m'.cost⟩) ↔ (∃ i m', i < j ∧ ix ms i = some m' ∧ canW m' x ∧ tgtW m' x = y ∧ a = ⟨x, m'.cost⟩) ∨ (tgtW m x = y ∧ a = ⟨x, m.cost⟩) := by
      constructor
      ·rintro ⟨i, m', q1, q2, q3, q4, q5⟩
       by_cases e : i = j
       ·subst e; rw [hm] at q2; cases q2; exact .inr ⟨q4, q5⟩
       ·exact .inl ⟨i, m', by omega, q2, q3, q4, q5⟩
      ·rintro (⟨i, m', q1, q2⟩ | ⟨q1, q2⟩)
       ·exact ⟨i, m', by omega, q2⟩
       ·exact ⟨j, m, by omega, hm, c1, q1, q2⟩
     rw [key]
     by_cases e : y = tgtW m x
     ·rw [if_pos e, List.mem_append, List.mem_singleton, ← e, p2]
      simp [or_assoc]
     ·rw [if_neg e, p2]
      have : ¬ tgtW m x = y := fun q => e q.symm
      simp [this]
   ·rw [if_neg c1]
    refine ⟨_, rfl, fun y => by have := p1 y; omega, fun y a => ?_⟩
    rw [p2]
    refine or_congr_right ⟨?_, ?_⟩
    ·rintro ⟨i, m', q1, q2⟩; exact ⟨i, m', by omega, q2⟩
    ·rintro ⟨i, m', q1, q2, q3, q4⟩
     by_cases e : i = j
     ·subst e; rw [hm] at q2; cases q2; exact absurd q3 c1
     ·exact ⟨i, m', by omega, q2, q3, q4⟩)
 refine ⟨b', by rw [h1]; rfl, fun y => by have := h2 y; omega, fun y a => ?_⟩
 rw [h3]
 refine or_congr_right ⟨?_, ?_⟩
 ·rintro ⟨i, m, _, q2, q3⟩; exact ⟨m, D0 q2, q3⟩
 ·rintro ⟨m, q2, q3⟩
  obtain ⟨i, _, i1, hi⟩ := D3 q2
  exact ⟨i, m, i1, hi, q3⟩
abbrev St6 := Bkm × MpI × MpI × List En × Int × List Int
theorem first_ok {vs : List Int} {ms : List Mk} (start g : Int) (hg : Gr vs ms) :
  ∃ s : St6, forR 0 (vs.length : Int) (C8 vs start g ms) ([], [], [], [], 0, []) = some s ∧ BkOk vs ms s.1 ∧ Iv vs ms g s.2.1 s.2.2.1 s.2.2.2.2.2 s.2.2.2.1 fun _ => False := by
 have hvl := hg.vl
 have hml := hg.ml
 obtain ⟨s, h1, h2, h3, h4, h5, h6⟩ := L4 (body := C8 vs start g ms) (n := (vs.length : Int)) (s := (([], [], [], [], 0, []) : St6))
  (fun j s => (∀ y a, a ∈ rowM s.1 y ↔ ∃ x ∈ vs.take j.toNat, ∃ m ∈ ms, canW m x ∧ tgtW m x = y ∧ a = ⟨x, m.cost⟩) ∧ (∀ y, (rowM s.1 y).length ≤ j.toNat * 40) ∧
   (∀ x, x ∈ vs.take j.toNat → mget s.2.1 x = some (if dec (G7 g x) = true then 0 else 1000000000)) ∧ Qu s.2.2.1 s.2.2.2.2.2 s.2.2.2.1 ∧ ∀ x, qkey s.2.2.1 s.2.2.2.1 x = if dec (x ∈ vs.take j.toNat ∧ G7 g x) = true then some 0 else none) (by omega)
  ⟨fun y a => by simp [rowM, mget], fun y => by simp [rowM, mget], by simp, Qu.nil, fun x => by simp [qkey, mget, dec]⟩ (fun j s j0 j1 hP => by
   obtain ⟨b, c, M, E, t, L⟩ := s
   obtain ⟨p1, p2, p3, p4, p5⟩ := hP
   simp only at p1 p2 p3 p4 p5
   obtain ⟨x, hx, gx⟩ := u6 j0 j1
   have hj : (j + 1).toNat = j.toNat + 1 := by omega
   have htk : vs.take (j + 1).toNat = vs.take j.toNat ++ [x] := by rw [hj, List.take_add_one, gx]; rfl
   have hlen : L.length ≤ vs.length := p4.le fun z hz => by
    rw [p5] at hz
    by_cases e : z ∈ vs.take j.toNat ∧ G7 g z
    ·exact List.mem_of_mem_take e.1
    ·rw [if_neg (by rw [D2 e]; simp)] at hz; exact absurd rfl hz
   obtain ⟨b', b1, b2, b3⟩ := back_ok (x := x) hml (B := j.toNat * 40) p2 (by omega)
   have hback : ∀ y a, a ∈ rowM b' y ↔ ∃ x ∈ vs.take (j + 1).toNat, ∃ m ∈ ms, canW m x ∧ tgtW m x = y ∧ a = ⟨x, m.cost⟩ := fun y a => by
    rw [b3, p1, htk]
    simp only [List.mem_append, List.mem_singleton, or_and_right, exists_or, exists_eq_left]
   have hrow : ∀ y, (rowM b' y).length ≤ (j + 1).toNat * 40 := fun y => by have := b2 y; omega
   unfold C8
   simp only [hx, oB, F8, x5]
   by_cases cg : Go.bits .and .u32 x g = g
   ·rw [if_pos cg]
    have cg' : G7 g x := cg
    obtain ⟨M', L', E', k1, k2, k3⟩ := set_ok p4 (by omega) x 0 t
    simp only [k1, oB, b1]
    refine ⟨_, rfl, hback, hrow, fun z hz => ?_, k2, fun z => ?_⟩
    ·simp only [B6]
     by_cases e : z = x
     ·subst e; rw [if_pos rfl, if_pos (n3 cg')]
     ·rw [if_neg e, if_neg e]
      refine p3 z ?_
      rw [htk] at hz; simp [e] at hz; exact hz
    ·simp only [k3, p5, htk]
     by_cases e : z = x
     ·subst e; rw [if_pos rfl, if_pos (n3 ⟨by simp, cg'⟩)]
     ·rw [if_neg e]
      have : (z ∈ vs.take j.toNat ++ [x] ∧ G7 g z) ↔ (z ∈ vs.take j.toNat ∧ G7 g z) := by simp [e]
      rw [I7 this]
   ·rw [if_neg cg]
    have cg' : ¬ G7 g x := cg
    simp only [oB, b1]
    refine ⟨_, rfl, hback, hrow, fun z hz => ?_, p4, fun z => ?_⟩
    ·simp only [B6]
     by_cases e : z = x
     ·subst e; rw [if_pos rfl, if_neg (by rw [D2 cg']; simp)]
     ·rw [if_neg e]
      refine p3 z ?_
      rw [htk] at hz; simp [e] at hz; exact hz
    ·simp only [p5, htk]
     have : (z ∈ vs.take j.toNat ++ [x] ∧ G7 g z) ↔ (z ∈ vs.take j.toNat ∧ G7 g z) := by
      constructor
      ·rintro ⟨q1, q2⟩
       rcases List.mem_append.1 q1 with q1 | q1
       ·exact ⟨q1, q2⟩
       ·simp at q1; subst q1; exact absurd q2 cg'
      ·rintro ⟨q1, q2⟩; exact ⟨List.mem_append_left _ q1, q2⟩
     rw [I7 this])
 have ht : vs.take (vs.length : Int).toNat = vs := by rw [Int.toNat_natCast, List.take_length]
 rw [ht] at h2 h4 h6
 have hc : ∀ x ∈ vs, ¬ G7 g x → mget s.2.1 x = some 1000000000 := fun x hx hn => by rw [h4 x hx, if_neg (by rw [D2 hn]; simp)]
 have hc0 : ∀ x ∈ vs, G7 g x → mget s.2.1 x = some 0 := fun x hx hn => by rw [h4 x hx, if_pos (n3 hn)]
 refine ⟨s, h1, h2, ⟨fun x hx => ?_, hc0⟩, h5, fun x k hk => ?_, fun x hx m hm hcan _ hq => ?_⟩
 ·by_cases e : G7 g x
  ·exact ⟨0, hc0 x hx e, by omega, by omega, .inr (.goal hx e)⟩
  ·exact ⟨1000000000, hc x hx e, by omega, by omega, .inl rfl⟩
 ·rw [h6] at hk
  by_cases e : x ∈ vs ∧ G7 g x
  ·rw [if_pos (n3 e)] at hk; cases hk; exact ⟨e.1, hc0 x e.1 e.2⟩
  ·rw [if_neg (by rw [D2 e]; simp)] at hk; cases hk
 ·have hy := hg.cl x hx m hm hcan
  rw [h6] at hq
  have hn : ¬ G7 g (tgtW m x) := fun q => by rw [if_pos (n3 ⟨hy, q⟩)] at hq; cases hq
  have h0 := (hg.co m hm).1
  unfold cst
  rw [hc _ hy hn, h4 x hx]
  simp only [Option.getD_some]
  split <;> omega
theorem costs_ok {vs : List Int} {ms : List Mk} (start g : Int) (hg : Gr vs ms) : ∃ c, I1 vs start g ms = some c ∧ Best vs ms g c := by
 unfold I1
 obtain ⟨s, s1, s2, s3⟩ := first_ok start g hg
 obtain ⟨r, r1, r2⟩ := main_ok hg s2 s3 s.2.2.2.2.1
 refine ⟨r, ?_, r2⟩
 obtain ⟨a, b, c, d, e, f⟩ := s
 simp only [C3, oB, s1]
 rw [r1]; rfl
end Ab
end
section
namespace Ab
open Go
def Val (t : d6) (plan : List Int) : Prop := ∀ x ∈ plan, (0 : Int) ≤ x ∧ x < t.operators.length
def B2 (t : d6) : List Int → Int
 | [] => 0
 | op :: r => B2 t r + (opAt t op).cost
def Few (t : d6) : Prop := ∃ l : List (List Int), l.Nodup ∧ l.length ≤ 2000 ∧ ∀ s, s ∈ l ↔ Rt t s
theorem af4 {t : d6} (ht : i6 t) : ∀ {plan : List Int}, Val t plan → 0 ≤ B2 t plan
 | [], _ => by simp [B2]
 | op :: r, h => by
  have h1 := af4 ht (plan := r) fun x hx => h x (List.mem_cons_of_mem _ hx)
  have h2 := h op (by simp)
  have h3 := (O9 ht h2.1 h2.2).2.1
  simp only [B2]; omega
section
variable {t : d6} {vs : List Int}
theorem pth_of (ht : i6 t) (hv : ∀ x, x ∈ vs ↔ Rwd t x) : ∀ {plan s : List Int}, Rt t s → Val t plan → K8 t s plan → PthW vs (mks t) (wd t.goal) (wd s) (B2 t plan)
 | [], s, hs, _, ⟨e, h1, h2⟩ => by
  simp only [ends, Option.some.injEq] at h1; subst h1
  exact .goal ((hv _).2 ⟨s, hs, rfl⟩) ((sub_word (hs.setN ht) ht.goal ht.n1).2 h2)
 | op :: r, s, hs, hp, ⟨e, h1, h2⟩ => by
  have h3 := hp op (by simp)
  simp only [ends] at h1
  split at h1
  ·rename_i hc
   have hc := k9.1 hc
   have ih := pth_of ht hv (plan := r) (hs.step h3.1 h3.2 hc) (fun x hx => hp x (List.mem_cons_of_mem _ hx)) ⟨e, h1, h2⟩
   rw [← tgtW_eq ht (hs.setN ht) h3.1 h3.2] at ih
   exact .step ((hv _).2 ⟨s, hs, rfl⟩) (mks_of h3.1 h3.2) ((ae3 ht (hs.setN ht) h3.1 h3.2).2 hc) ih
  ·cases h1
theorem plan_of (ht : i6 t) {x k : Int} (h : PthW vs (mks t) (wd t.goal) x k) : ∀ {s : List Int}, Rt t s → x = wd s → ∃ plan, Val t plan ∧ K8 t s plan ∧ B2 t plan = k := by
 induction h with
 | goal hx hg =>
  intro s hs e; subst e
  exact ⟨[], by simp [Val], ⟨s, rfl, (sub_word (hs.setN ht) ht.goal ht.n1).1 hg⟩, rfl⟩
 | step hx hm hc hp ih =>
  intro s hs e; subst e
  obtain ⟨op, h0, h1, rfl⟩ := mks_mem hm
  have hcan := (ae3 ht (hs.setN ht) h0 h1).1 hc
  obtain ⟨plan, p1, ⟨e, p2, p3⟩, p4⟩ := ih (hs.step h0 h1 hcan) (tgtW_eq ht (hs.setN ht) h0 h1)
  refine ⟨op :: plan, fun y hy => ?_, ⟨e, ?_, p3⟩, by simp [B2, p4, mkOf]⟩
  ·rcases List.mem_cons.1 hy with rfl | hy
   ·exact ⟨h0, h1⟩
   ·exact p1 y hy
  ·simp only [ends]; rw [if_pos (n3 hcan)]; exact p2
end
/-! ### A way that is not long -/
inductive Hop (vs : List Int) (ms : List Mk) (g : Int) : Nat → Int → Prop
 | goal {x : Int} (h : x ∈ vs) (hg : G7 g x) : Hop vs ms g 0 x
 | step {x : Int} {n : Nat} {m : Mk} (h : x ∈ vs) (hm : m ∈ ms) (hc : canW m x) (hp : Hop vs ms g n (tgtW m x)) : Hop vs ms g (n + 1) x
section
variable {vs : List Int} {ms : List Mk} {g : Int}
theorem Hop.of {x k : Int} (h : PthW vs ms g x k) : ∃ n, Hop vs ms g n x := by
 induction h with
 | goal hx hg => exact ⟨0, .goal hx hg⟩
 | step hx hm hc _ ih => obtain ⟨n, hn⟩ := ih; exact ⟨n + 1, .step hx hm hc hn⟩
theorem Hop.mem {n : Nat} {x : Int} (h : Hop vs ms g n x) : x ∈ vs := by cases h <;> assumption
theorem Hop.cost (hg : Gr vs ms) {n : Nat} {x : Int} (h : Hop vs ms g n x) : ∃ k, PthW vs ms g x k ∧ k ≤ 100 * n := by
 induction h with
 | goal hx hgx => exact ⟨0, .goal hx hgx, by omega⟩
 | step hx hm hc _ ih =>
  obtain ⟨k, k1, k2⟩ := ih
  have := hg.co _ hm
  exact ⟨_, .step hx hm hc k1, by push_cast; omega⟩
def MHop (vs : List Int) (ms : List Mk) (g : Int) (n : Nat) (x : Int) : Prop := Hop vs ms g n x ∧ ∀ m, m < n → ¬ Hop vs ms g m x
theorem MHop.of : ∀ {n : Nat} {x : Int}, Hop vs ms g n x → ∃ m, m ≤ n ∧ MHop vs ms g m x := by
 intro n
 induction n using Nat.strongRecOn with
 | _ n ih =>
  intro x h
  by_cases c : ∃ m, m < n ∧ Hop vs ms g m x
  ·obtain ⟨m, m1, m2⟩ := c
   obtain ⟨q, q1, q2⟩ := ih m m1 m2
   exact ⟨q, by omega, q2⟩
  ·exact ⟨n, Nat.le_refl _, h, fun m hm hh => c ⟨m, hm, hh⟩⟩
theorem MHop.chain : ∀ {n : Nat} {x : Int}, MHop vs ms g n x → ∃ l : List Int, l.length = n + 1 ∧ l.Nodup ∧ ∀ y ∈ l, y ∈ vs ∧ ∃ m, m ≤ n ∧ MHop vs ms g m y
 | 0, x, h => ⟨[x], rfl, by simp, fun y hy => by simp at hy; subst hy; exact ⟨h.1.mem, 0, Nat.le_refl _, h⟩⟩
 | n + 1, x, h => by
  cases h.1 with
  | @step _ _ m hx hm hc hp =>
   have h' : MHop vs ms g n (tgtW m x) := ⟨hp, fun q hq hh => h.2 (q + 1) (by omega) (.step hx hm hc hh)⟩
   obtain ⟨l, l1, l2, l3⟩ := MHop.chain h'
   refine ⟨x :: l, by simp [l1], List.nodup_cons.2 ⟨fun hxl => ?_, l2⟩, fun y hy => ?_⟩
   ·obtain ⟨_, q, q1, q2⟩ := l3 x hxl
    exact h.2 q (by omega) q2.1
   ·rcases List.mem_cons.1 hy with rfl | hy
    ·exact ⟨hx, n + 1, Nat.le_refl _, h⟩
    ·obtain ⟨y1, q, q1, q2⟩ := l3 y hy
     exact ⟨y1, q, by omega, q2⟩
theorem pth_small (hg : Gr vs ms) {x k : Int} (h : PthW vs ms g x k) : ∃ k', PthW vs ms g x k' ∧ k' ≤ 199900 := by
 obtain ⟨n, hn⟩ := Hop.of h
 obtain ⟨m, _, hm⟩ := MHop.of hn
 obtain ⟨l, l1, l2, l3⟩ := hm.chain
 have := V0 l2 (S := vs) fun y hy => (l3 y hy).1
 have hv := hg.vl
 obtain ⟨k', k1, k2⟩ := hm.1.cost hg
 exact ⟨k', k1, by omega⟩
end
theorem words_of {t : d6} (ht : i6 t) {vs : List Int} (hl : vs.length ≤ 2000) (hv : ∀ x, x ∈ vs ↔ Rwd t x) : Gr vs (mks t) := ⟨fun x hx m hm hc => (hv _).2 (((hv x).1 hx).next ht hm hc), fun m hm => by
 obtain ⟨op, h0, h1, rfl⟩ := mks_mem hm
 exact (O9 ht h0 h1).2, by simp [mks]; exact ht.ops, hl⟩
theorem few_of {t : d6} (ht : i6 t) {vs : List Int} (hn : vs.Nodup) (hl : vs.length ≤ 2000) (hv : ∀ x, x ∈ vs ↔ Rwd t x) : Few t := by
 obtain ⟨ss, h1, h2⟩ := states_of (t := t) (l := vs) fun x hx => (hv x).1 hx
 refine ⟨ss, aa1 (f := wd) (by rw [h1]; exact hn), ?_, fun s => ⟨h2 s, fun hs => ?_⟩⟩
 ·have := congrArg List.length h1
  simp only [List.length_map] at this; omega
 ·have : wd s ∈ ss.map wd := by rw [h1]; exact (hv _).2 ⟨s, hs, rfl⟩
  obtain ⟨s', s1, s2⟩ := List.mem_map.1 this
  rw [wd_inj ht (hs.setN ht) ((h2 s' s1).setN ht) s2.symm]; exact s1
theorem checked_spec (t : d6) : (¬ i6 t ∧ ∃ f, s7 t = some f ∧ f.code ≠ 0 ∧ y9 t = some (.inl (f.code, f.index))) ∨ (i6 t ∧ Many t ∧ y9 t = some (.inl (10, -7))) ∨
  (i6 t ∧ Few t ∧ ∃ vs : List Int, vs.Nodup ∧ vs.length ≤ 2000 ∧ (∀ x, x ∈ vs ↔ Rwd t x) ∧ y9 t = some (.inr (wd t.init, wd t.goal, mks t, vs))) := by
 obtain ⟨f, h1, _, h3⟩ := validate_eq t
 unfold y9
 rw [h1]
 simp only [oB]
 rcases h3 with ⟨rfl, ht⟩ | ⟨hc, hn⟩
 ·rw [if_neg (by simp), of_eq ht]
  obtain ⟨l, b, a1, a2, a3⟩ := all_spec ht (wd t.goal)
  simp only [oB, a1]
  cases b with
  | false => exact .inr (.inl ⟨ht, a2 rfl, rfl⟩)
  | true =>
   obtain ⟨q1, q2, q3⟩ := a3 rfl
   obtain ⟨vs, v1, v2⟩ := sortW (l := l) (by omega) (fun x hx => by
    obtain ⟨s, s1, rfl⟩ := (q3 x).1 hx
    exact wd_u32 ht (s1.setN ht))
   have hv : ∀ x, x ∈ vs ↔ Rwd t x := fun x => v2.mem_iff.trans (q3 x)
   have hvn : vs.Nodup := v2.nodup_iff.2 q1
   have hvl : vs.length ≤ 2000 := by rw [v2.length_eq]; exact q2
   exact .inr (.inr ⟨ht, few_of ht hvn hvl hv, vs, hvn, hvl, hv, by simp [v1]⟩)
 ·rw [if_pos (by simp [hc])]
  exact .inl ⟨hn, f, rfl, hc, rfl⟩
inductive OptR (t : d6) : Int × i4 → Prop
 | bad {f : i4} (h : ¬ i6 t) (hf : s7 t = some f) (hc : f.code ≠ 0) : OptR t (0, f)
 | many (h : i6 t) (hm : Many t) : OptR t (0, ⟨10, -7⟩)
 | none (h : i6 t) (hf : Few t) (hn : ∀ plan, Val t plan → ¬ K8 t t.init plan) : OptR t (1000000000, ⟨0, 0⟩)
 | some {k : Int} {plan : List Int} (h : i6 t) (hf : Few t) (h0 : 0 ≤ k) (h1 : k ≤ 199900) (hv : Val t plan) (hw : K8 t t.init plan) (hk : B2 t plan = k) (hl : ∀ p, Val t p → K8 t t.init p → k ≤ B2 t p) : OptR t (k, ⟨0, 0⟩)
theorem S8 (t : d6) : ∃ r, x7 t = some r ∧ OptR t r := by
 unfold x7
 rcases checked_spec t with ⟨h, f, h1, h2, h3⟩ | ⟨h, h1, h2⟩ | ⟨ht, h1, vs, v1, v2, v3, h2⟩
 ·rw [h3]
  simp only [oB]
  rw [if_pos (by simp [h2])]
  exact ⟨_, rfl, .bad h h1 h2⟩
 ·rw [h2]
  simp only [oB]
  rw [if_pos (by simp)]
  exact ⟨_, rfl, .many h h1⟩
 ·rw [h2]
  simp only [oB]
  rw [if_neg (by simp)]
  have hg := words_of ht v2 v3
  obtain ⟨c, c1, c2⟩ := costs_ok (wd t.init) (wd t.goal) hg
  simp only [c1, oB, s6]
  have hi : wd t.init ∈ vs := (v3 _).2 ⟨_, .init, rfl⟩
  obtain ⟨k, k1, k2, k3, k4⟩ := c2.cd.dom _ hi
  have hck : cst c (wd t.init) = k := by unfold cst; rw [k1]; rfl
  refine ⟨_, rfl, ?_⟩
  rw [k1]
  simp only [Option.getD_some]
  by_cases e : ∃ k', PthW vs (mks t) (wd t.goal) (wd t.init) k'
  ·obtain ⟨k0, e⟩ := e
   obtain ⟨k', e1, e2⟩ := pth_small hg e
   have hle := c2.least _ _ e1
   rcases k4 with k4 | k4
   ·omega
   ·obtain ⟨plan, p1, p2, p3⟩ := plan_of ht k4 .init rfl
    refine .some ht h1 k2 (by omega) p1 p2 p3 fun p q1 q2 => ?_
    have := c2.least _ _ (pth_of ht v3 .init q1 q2)
    omega
  ·rcases k4 with rfl | k4
   ·exact .none ht h1 fun p q1 q2 => e ⟨_, pth_of ht v3 .init q1 q2⟩
   ·exact absurd ⟨_, k4⟩ e
end Ab
end
section
namespace Ab
open Go
def reqT (t : d6) (op : Int) : d6 := ⟨t.facts + 1, t.init, t.goal ++ [t.facts], t.operators.set op.toNat ⟨(opAt t op).pre, (opAt t op).add ++ [t.facts], (opAt t op).del, (opAt t op).cost⟩⟩
def forT (t : d6) (op : Int) : d6 := ⟨t.facts, t.init, t.goal, t.operators.take op.toNat ++ t.operators.drop (op.toNat + 1)⟩
theorem W0 {l : List Int} (h : l.length ≤ 1000000) : i8 l = some l := by
 unfold i8 app
 rw [if_pos (by simp; omega)]; rfl
theorem SetN.len24 {l : List Int} {n : Int} (h : SetN l n) (hn : n ≤ 24) : l.length ≤ 24 := by have := h.len; omega
theorem cclone_body {t : d6} (ht : i6 t) {j : Int} (j0 : 0 ≤ j) (j1 : j < t.operators.length) : B9 t j (t.operators.take j.toNat) = some (t.operators.take (j + 1).toNat) := by
 have ho := O9 ht j0 j1
 have hx := ix_op j0 j1
 have ga := (A7 hx).2.2
 have hl := ht.ops
 have htk : t.operators.take (j + 1).toNat = t.operators.take j.toNat ++ [opAt t j] := by rw [show (j + 1).toNat = j.toNat + 1 by omega, List.take_add_one, ga]; rfl
 have h1 := ho.1.1.len24 ht.n1
 have h2 := ho.1.2.1.len24 ht.n1
 have h3 := ho.1.2.2.1.len24 ht.n1
 unfold B9
 simp only [hx, oB, W0 (show (opAt t j).pre.length ≤ 1000000 by omega), W0 (show (opAt t j).add.length ≤ 1000000 by omega), W0 (show (opAt t j).del.length ≤ 1000000 by omega)]
 rw [app, if_pos (by simp; omega), htk]; rfl
theorem cclone_eq {t : d6} (ht : i6 t) : C6 t = some (t.init, t.goal, t.operators) := by
 unfold C6
 have h1 := ht.init.len24 ht.n1
 have h2 := ht.goal.len24 ht.n1
 simp only [W0 (show t.init.length ≤ 1000000 by omega), W0 (show t.goal.length ≤ 1000000 by omega), oB]
 obtain ⟨r, r1, rfl⟩ := L4 (body := B9 t) (n := (t.operators.length : Int)) (s := []) (fun j c => c = t.operators.take j.toNat) (by omega) (by simp) (fun j c j0 j1 hP => ⟨_, by rw [hP]; exact cclone_body ht j0 j1, rfl⟩)
 rw [r1, Int.toNat_natCast, List.take_length]; rfl
theorem clone_same : J1 = C6 := rfl
end Ab
end
section
namespace Ab
open Go
def up (n : Int) (s : List Int) (b : Bool) : List Int := s ++ if b = true then [n] else []
theorem T5 {n x : Int} {s : List Int} {b : Bool} : x ∈ up n s b ↔ x ∈ s ∨ b = true ∧ x = n := by
 unfold up; cases b <;> simp
theorem setN_up {n : Int} {s : List Int} {b : Bool} (h0 : 0 ≤ n) (h : SetN s n) : SetN (up n s b) (n + 1) := by
 refine ⟨?_, fun x hx => ?_⟩
 ·unfold up
  refine List.pairwise_append.2 ⟨h.1, by cases b <;> simp, fun a ha c hc => ?_⟩
  have := h.2 a ha
  cases b
  ·simp at hc
  ·simp at hc; omega
 ·rcases T5.1 hx with hx | ⟨_, rfl⟩
  ·have := h.2 x hx; omega
  ·omega
section
variable {t : d6} {op : Int}
theorem req_len : (reqT t op).operators.length = t.operators.length := by simp [reqT]
theorem aa0 (h0 : 0 ≤ op) (h1 : op < t.operators.length) {q : Int} (q0 : 0 ≤ q) : opAt (reqT t op) q = if q = op then ⟨(opAt t op).pre, (opAt t op).add ++ [t.facts], (opAt t op).del, (opAt t op).cost⟩ else opAt t q := by
 show ((t.operators.set op.toNat _)[q.toNat]?).getD noOp = _
 rw [List.getElem?_set]
 by_cases e : q = op
 ·subst e; rw [if_pos rfl, if_pos rfl, if_pos (by omega)]; rfl
 ·rw [if_neg e, if_neg (by omega)]; rfl
theorem pre_req (h0 : 0 ≤ op) (h1 : op < t.operators.length) {q : Int} (q0 : 0 ≤ q) : (opAt (reqT t op) q).pre = (opAt t q).pre := by
 rw [aa0 h0 h1 q0]; split
 ·rename_i e; rw [e]
 ·rfl
theorem del_req (h0 : 0 ≤ op) (h1 : op < t.operators.length) {q : Int} (q0 : 0 ≤ q) : (opAt (reqT t op) q).del = (opAt t q).del := by
 rw [aa0 h0 h1 q0]; split
 ·rename_i e; rw [e]
 ·rfl
theorem cost_req (h0 : 0 ≤ op) (h1 : op < t.operators.length) {q : Int} (q0 : 0 ≤ q) : (opAt (reqT t op) q).cost = (opAt t q).cost := by
 rw [aa0 h0 h1 q0]; split
 ·rename_i e; rw [e]
 ·rfl
theorem add_req (h0 : 0 ≤ op) (h1 : op < t.operators.length) {q x : Int} (q0 : 0 ≤ q) : x ∈ (opAt (reqT t op) q).add ↔ x ∈ (opAt t q).add ∨ q = op ∧ x = t.facts := by
 rw [aa0 h0 h1 q0]; split
 ·rename_i e; subst e; simp
 ·rename_i e; simp [e]
theorem can_req (ht : i6 t) (h0 : 0 ≤ op) (h1 : op < t.operators.length) {q : Int} (q0 : 0 ≤ q) (q1 : q < t.operators.length) {s : List Int} {b : Bool} : can (reqT t op) (up t.facts s b) q ↔ can t s q := by
 unfold can
 rw [pre_req h0 h1 q0]
 have hp := (O9 ht q0 q1).1.1
 refine ⟨fun h x hx => ?_, fun h x hx => T5.2 (.inl (h x hx))⟩
 rcases T5.1 (h x hx) with k | ⟨_, rfl⟩
 ·exact k
 ·have := hp.2 _ hx; omega
theorem aft_req (ht : i6 t) (h0 : 0 ≤ op) (h1 : op < t.operators.length) {q : Int} (q0 : 0 ≤ q) (q1 : q < t.operators.length) {s : List Int} {b : Bool} (hs : SetN s t.facts) : aft (reqT t op) (up t.facts s b) q = up t.facts (aft t s q) (b || decide (q = op)) := by
 obtain ⟨k1, k2, k3, k4⟩ := (O9 ht q0 q1).1
 refine ((setN_up ht.n0 (ad7 t s q)).eq_of fun x x0 x1 => ?_).symm
 rw [add_req h0 h1 q0, del_req h0 h1 q0, T5, T5]
 unfold aft
 rw [R4]
 have d1 : t.facts ∉ (opAt t q).del := fun h => by have := k3.2 _ h; omega
 have d2 : t.facts ∉ (opAt t q).add := fun h => by have := k2.2 _ h; omega
 have d3 : t.facts ∉ s := fun h => by have := hs.2 _ h; omega
 by_cases e : x = t.facts
 ·subst e; simp [d1, d2, d3, or_comm]
 ·have : x < t.facts := by change x < t.facts + 1 at x1; omega
  simp [e, x0, this]
theorem ends_req (ht : i6 t) (h0 : 0 ≤ op) (h1 : op < t.operators.length) : ∀ {p s : List Int} {b : Bool}, SetN s t.facts → Val t p → ends (reqT t op) (up t.facts s b) p = (ends t s p).map fun e => up t.facts e (b || decide (op ∈ p))
 | [], s, b, _, _ => by simp [ends]
 | q :: p, s, b, hs, hv => by
  have hq := hv q (by simp)
  simp only [ends]
  rw [I7 (can_req ht h0 h1 hq.1 hq.2)]
  split
  ·rw [aft_req ht h0 h1 hq.1 hq.2 hs, ends_req ht h0 h1 (ad7 t s q) (fun x hx => hv x (List.mem_cons_of_mem _ hx))]
   have : (b || decide (q = op) || decide (op ∈ p)) = (b || decide (op ∈ q :: p)) := by
    rw [Bool.or_assoc]; congr 1
    rw [← Bool.decide_or]; apply decide_eq_decide.2
    rw [List.mem_cons, eq_comm]
   rw [this]
  ·rfl
theorem works_req (ht : i6 t) (h0 : 0 ≤ op) (h1 : op < t.operators.length) {p s : List Int} {b : Bool} (hs : SetN s t.facts) (hv : Val t p) : K8 (reqT t op) (up t.facts s b) p ↔ K8 t s p ∧ (b = true ∨ op ∈ p) := by
 unfold K8
 rw [ends_req ht h0 h1 hs hv]
 have hg : ∀ x ∈ t.goal, x < t.facts := fun x hx => (ht.goal.2 x hx).2
 constructor
 ·rintro ⟨e, e1, e2⟩
  cases e' : ends t s p with
  | none => rw [e'] at e1; cases e1
  | some u =>
   rw [e'] at e1
   simp only [Option.map_some, Option.some.injEq] at e1
   subst e1
   have hu := ends_setN hs e'
   refine ⟨⟨u, rfl, fun x hx => ?_⟩, ?_⟩
   ·rcases T5.1 (e2 x (List.mem_append_left _ hx)) with k | ⟨_, rfl⟩
    ·exact k
    ·have := hg _ hx; omega
   ·rcases T5.1 (e2 t.facts (List.mem_append_right _ (by simp))) with k | ⟨k, _⟩
    ·have := hu.2 _ k; omega
    ·simpa using k
 ·rintro ⟨⟨u, u1, u2⟩, k⟩
  rw [u1]
  refine ⟨_, rfl, fun x hx => ?_⟩
  rcases List.mem_append.1 hx with hx | hx
  ·exact T5.2 (.inl (u2 x hx))
  ·exact T5.2 (.inr ⟨by simpa using k, by simpa using hx⟩)
theorem val_req {p : List Int} : Val (reqT t op) p ↔ Val t p := by unfold Val; rw [req_len]
theorem pcost_req (h0 : 0 ≤ op) (h1 : op < t.operators.length) : ∀ {p : List Int}, Val t p → B2 (reqT t op) p = B2 t p
 | [], _ => rfl
 | q :: p, hv => by
  simp only [B2]
  rw [cost_req h0 h1 (hv q (by simp)).1, pcost_req h0 h1 fun x hx => hv x (List.mem_cons_of_mem _ hx)]
theorem works_req0 (ht : i6 t) (h0 : 0 ≤ op) (h1 : op < t.operators.length) {p : List Int} (hv : Val t p) : K8 (reqT t op) (reqT t op).init p ↔ K8 t t.init p ∧ op ∈ p := by
 have := works_req ht h0 h1 (b := false) ht.init hv
 have e : up t.facts t.init false = (reqT t op).init := by simp [up, reqT]
 rw [e] at this; rw [this]; simp
theorem SetN.weak {l : List Int} {n m : Int} (h : SetN l n) (hm : n ≤ m) : SetN l m := ⟨h.1, fun x hx => by have := h.2 x hx; omega⟩
theorem req_ok (ht : i6 t) (h0 : 0 ≤ op) (h1 : op < t.operators.length) (hf : t.facts < 24) : i6 (reqT t op) where
 n0 := by have := ht.n0; show 0 ≤ t.facts + 1; omega
 n1 := by show t.facts + 1 ≤ 24; omega
 init := ht.init.weak (by show t.facts ≤ t.facts + 1; omega)
 goal := by
  have := setN_up (b := true) ht.n0 ht.goal
  simpa [up, reqT] using this
 ops := by rw [req_len]; exact ht.ops
 op := fun o ho => by
  obtain ⟨q, q0, q1, q2⟩ := D3 ho
  rw [req_len] at q1
  rw [ix_op q0 (by rw [req_len]; exact q1)] at q2
  cases q2
  obtain ⟨⟨k1, k2, k3, k4⟩, k5⟩ := O9 ht q0 q1
  have hle : t.facts ≤ (reqT t op).facts := by show t.facts ≤ t.facts + 1; omega
  refine ⟨⟨by rw [pre_req h0 h1 q0]; exact k1.weak hle, ?_, by rw [del_req h0 h1 q0]; exact k3.weak hle, fun x hx => ?_⟩, by unfold O6; rw [cost_req h0 h1 q0]; exact k5⟩
  ·rw [aa0 h0 h1 q0]
   split
   ·rename_i e; subst e
    have := setN_up (b := true) ht.n0 k2
    simpa [up, reqT] using this
   ·exact k2.weak hle
  ·rw [del_req h0 h1 q0]
   rcases (add_req h0 h1 q0).1 hx with hx | ⟨_, rfl⟩
   ·exact k4 x hx
   ·exact fun h => by have := k3.2 _ h; omega
theorem rt_req (ht : i6 t) (h0 : 0 ≤ op) (h1 : op < t.operators.length) {s : List Int} (h : Rt (reqT t op) s) : ∃ u b, Rt t u ∧ s = up t.facts u b := by
 induction h with
 | init => exact ⟨t.init, false, .init, by simp [up, reqT]⟩
 | @step s q h q0 q1 hc ih =>
  obtain ⟨u, b, hu, rfl⟩ := ih
  rw [req_len] at q1
  exact ⟨_, _, hu.step q0 q1 ((can_req ht h0 h1 q0 q1).1 hc), aft_req ht h0 h1 q0 q1 (hu.setN ht)⟩
theorem many_req (ht : i6 t) (h0 : 0 ≤ op) (h1 : op < t.operators.length) {l : List (List Int)} (hl : l.length ≤ 1000) (hm : ∀ s, Rt t s → s ∈ l) : ¬ Many (reqT t op) := by
 rintro ⟨m, m1, m2, m3⟩
 have := V0 m1 (S := l.map (up t.facts · false) ++ l.map (up t.facts · true)) fun s hs => by
  obtain ⟨u, b, hu, rfl⟩ := rt_req ht h0 h1 (m3 s hs)
  cases b
  ·exact List.mem_append_left _ (List.mem_map.2 ⟨u, hm u hu, rfl⟩)
  ·exact List.mem_append_right _ (List.mem_map.2 ⟨u, hm u hu, rfl⟩)
 simp at this
 omega
/-! ### Without the operator -/
def re (op q : Int) : Int := if q < op then q else q + 1
theorem for_len (h0 : 0 ≤ op) (h1 : op < t.operators.length) : ((forT t op).operators.length : Int) = t.operators.length - 1 := by
 simp only [forT, List.length_append, List.length_take, List.length_drop]; omega
theorem Y0 (h0 : 0 ≤ op) (h1 : op < t.operators.length) {q : Int} (q0 : 0 ≤ q) : opAt (forT t op) q = opAt t (re op q) := by
 show ((t.operators.take op.toNat ++ t.operators.drop (op.toNat + 1))[q.toNat]?).getD noOp = _
 unfold re opAt
 by_cases e : q < op
 ·rw [if_pos e, List.getElem?_append_left (by rw [List.length_take]; omega), List.getElem?_take_of_lt (by omega)]
 ·rw [if_neg e, List.getElem?_append_right (by rw [List.length_take]; omega), List.getElem?_drop, List.length_take]
  congr 2; omega
theorem re_ok (h0 : 0 ≤ op) (h1 : op < t.operators.length) {q : Int} (q0 : 0 ≤ q) (q1 : q < (forT t op).operators.length) : 0 ≤ re op q ∧ re op q < t.operators.length ∧ re op q ≠ op := by
 have := for_len h0 h1
 unfold re; split <;> omega
theorem ends_for (h0 : 0 ≤ op) (h1 : op < t.operators.length) : ∀ {p s : List Int}, Val (forT t op) p → ends (forT t op) s p = ends t s (p.map (re op))
 | [], s, _ => rfl
 | q :: p, s, hv => by
  have hq := hv q (by simp)
  have e1 : can (forT t op) s q = can t s (re op q) := by unfold can; rw [Y0 h0 h1 hq.1]
  have e2 : aft (forT t op) s q = aft t s (re op q) := by unfold aft; rw [Y0 h0 h1 hq.1]; rfl
  simp only [List.map_cons, ends, e1, e2]
  rw [ends_for h0 h1 fun x hx => hv x (List.mem_cons_of_mem _ hx)]
theorem works_for (h0 : 0 ≤ op) (h1 : op < t.operators.length) {p s : List Int} (hv : Val (forT t op) p) : K8 (forT t op) s p ↔ K8 t s (p.map (re op)) := by
 unfold K8; rw [ends_for h0 h1 hv]; rfl
theorem val_for (h0 : 0 ≤ op) (h1 : op < t.operators.length) {p : List Int} (hv : Val (forT t op) p) : Val t (p.map (re op)) ∧ op ∉ p.map (re op) := by
 refine ⟨fun x hx => ?_, fun hx => ?_⟩
 ·obtain ⟨q, hq, rfl⟩ := List.mem_map.1 hx
  have := re_ok h0 h1 (hv q hq).1 (hv q hq).2
  exact ⟨this.1, this.2.1⟩
 ·obtain ⟨q, hq, e⟩ := List.mem_map.1 hx
  exact (re_ok h0 h1 (hv q hq).1 (hv q hq).2).2.2 e
theorem of_for (h0 : 0 ≤ op) (h1 : op < t.operators.length) {p : List Int} (hv : Val t p) (hn : op ∉ p) : ∃ p', Val (forT t op) p' ∧ p'.map (re op) = p := by
 have hl := for_len h0 h1
 refine ⟨p.map fun q => if q < op then q else q - 1, fun x hx => ?_, ?_⟩
 ·obtain ⟨q, hq, rfl⟩ := List.mem_map.1 hx
  have := hv q hq
  have : q ≠ op := fun e => hn (e ▸ hq)
  split <;> omega
 ·rw [List.map_map]
  refine (List.map_congr_left fun q hq => ?_).trans (List.map_id p)
  have : q ≠ op := fun e => hn (e ▸ hq)
  simp only [Function.comp, re, id]
  by_cases c : q < op
  ·rw [if_pos c, if_pos c]
  ·rw [if_neg c, if_neg (by omega)]; omega
theorem pcost_for (h0 : 0 ≤ op) (h1 : op < t.operators.length) : ∀ {p : List Int}, Val (forT t op) p → B2 (forT t op) p = B2 t (p.map (re op))
 | [], _ => rfl
 | q :: p, hv => by
  simp only [List.map_cons, B2]
  rw [Y0 h0 h1 (hv q (by simp)).1, pcost_for h0 h1 fun x hx => hv x (List.mem_cons_of_mem _ hx)]
theorem for_ok (ht : i6 t) (h0 : 0 ≤ op) (h1 : op < t.operators.length) : i6 (forT t op) where
 n0 := ht.n0
 n1 := ht.n1
 init := ht.init
 goal := ht.goal
 ops := by have := for_len h0 h1; have := ht.ops; omega
 op := fun o ho => ht.op o (by
  rcases List.mem_append.1 ho with ho | ho
  ·exact List.mem_of_mem_take ho
  ·exact List.mem_of_mem_drop ho)
theorem rt_for (h0 : 0 ≤ op) (h1 : op < t.operators.length) {s : List Int} (h : Rt (forT t op) s) : Rt t s := by
 induction h with
 | init => exact .init
 | @step s q h q0 q1 hc ih =>
  have e1 : can (forT t op) s q = can t s (re op q) := by unfold can; rw [Y0 h0 h1 q0]
  have e2 : aft (forT t op) s q = aft t s (re op q) := by unfold aft; rw [Y0 h0 h1 q0]; rfl
  have := re_ok h0 h1 q0 q1
  rw [e2]
  exact ih.step this.1 this.2.1 (by rw [← e1]; exact hc)
theorem many_for (h0 : 0 ≤ op) (h1 : op < t.operators.length) (h : Many (forT t op)) : Many t := by
 obtain ⟨m, m1, m2, m3⟩ := h
 exact ⟨m, m1, m2, fun s hs => rt_for h0 h1 (m3 s hs)⟩
end
end Ab
end
section
namespace Ab
open Go
def LC (t : d6) (P : List Int → Prop) (k : Int) : Prop := (∀ p, P p → k ≤ B2 t p) ∧ 0 ≤ k ∧ ((k = 1000000000 ∧ ∀ p, ¬ P p) ∨ (k < 1000000000 ∧ ∃ p, P p ∧ B2 t p = k))
def Sol (t : d6) (s p : List Int) : Prop := Val t p ∧ K8 t s p
theorem LC.eq {t : d6} {P : List Int → Prop} {k k' : Int} (h : LC t P k) (h' : LC t P k') : k = k' := by
 obtain ⟨a1, a2, a3⟩ := h
 obtain ⟨b1, b2, b3⟩ := h'
 rcases a3 with ⟨a3, a4⟩ | ⟨a3, p, a4, a5⟩
 ·rcases b3 with ⟨b3, b4⟩ | ⟨b3, q, b4, b5⟩
  ·omega
  ·exact absurd b4 (a4 q)
 ·rcases b3 with ⟨b3, b4⟩ | ⟨b3, q, b4, b5⟩
  ·exact absurd a4 (b4 p)
  ·have := a1 q b4; have := b1 p a4; omega
theorem OptR.lc {t : d6} {r : Int × i4} (h : OptR t r) (hc : r.2.code = 0) : LC t (Sol t t.init) r.1 := by
 cases h with
 | bad _ _ hc' => exact absurd hc hc'
 | many => simp at hc
 | none h hf hn => exact ⟨fun p hp => absurd hp.2 (hn p hp.1), by simp, .inl ⟨rfl, fun p hp => hn p hp.1 hp.2⟩⟩
 | some h hf h0 h1 hv hw hk hl => exact ⟨fun p hp => hl p hp.1 hp.2, h0, .inr ⟨by simp only; omega, _, ⟨hv, hw⟩, hk⟩⟩
theorem OptR.mny {t : d6} {r : Int × i4} (h : OptR t r) (ht : i6 t) (hc : r.2.code ≠ 0) : Many t ∧ r = (0, ⟨10, -7⟩) := by
 cases h with
 | bad h => exact absurd ht h
 | many _ hm => exact ⟨hm, rfl⟩
 | none => simp at hc
 | some => simp at hc
theorem OptR.idx {t : d6} {r : Int × i4} (h : OptR t r) (hc : r.2.code = 0) : r.2 = ⟨0, 0⟩ := by
 cases h with
 | bad _ _ hc' => exact absurd hc hc'
 | many => simp at hc
 | none => rfl
 | some => rfl
section
variable {t : d6} {op : Int}
theorem lc_req (ht : i6 t) (h0 : 0 ≤ op) (h1 : op < t.operators.length) {k : Int} (h : LC (reqT t op) (Sol (reqT t op) (reqT t op).init) k) : LC t (fun p => Sol t t.init p ∧ op ∈ p) k := by
 have key : ∀ p, Sol (reqT t op) (reqT t op).init p ↔ Sol t t.init p ∧ op ∈ p := fun p => by
  unfold Sol
  constructor
  ·rintro ⟨a, b⟩
   have a := val_req.1 a
   have := (works_req0 ht h0 h1 a).1 b
   exact ⟨⟨a, this.1⟩, this.2⟩
  ·rintro ⟨⟨a, b⟩, c⟩
   exact ⟨val_req.2 a, (works_req0 ht h0 h1 a).2 ⟨b, c⟩⟩
 obtain ⟨a1, a2, a3⟩ := h
 refine ⟨fun p hp => ?_, a2, a3.imp (fun ⟨a, b⟩ => ⟨a, fun p hp => b p ((key p).2 hp)⟩) (fun ⟨a, p, b, c⟩ => ?_)⟩
 ·rw [← pcost_req h0 h1 hp.1.1]; exact a1 p ((key p).2 hp)
 ·have := (key p).1 b
  exact ⟨a, p, this, by rw [← pcost_req h0 h1 this.1.1]; exact c⟩
theorem lc_for (h0 : 0 ≤ op) (h1 : op < t.operators.length) {k : Int} (h : LC (forT t op) (Sol (forT t op) (forT t op).init) k) : LC t (fun p => Sol t t.init p ∧ op ∉ p) k := by
 have to : ∀ p, Sol (forT t op) (forT t op).init p → Sol t t.init (p.map (re op)) ∧ op ∉ p.map (re op) := fun p hp =>
  ⟨⟨(val_for h0 h1 hp.1).1, (works_for h0 h1 hp.1).1 hp.2⟩, (val_for h0 h1 hp.1).2⟩
 have fro : ∀ p, Sol t t.init p → op ∉ p → ∃ q, Sol (forT t op) (forT t op).init q ∧ q.map (re op) = p := fun p hp hn => by
  obtain ⟨q, q1, q2⟩ := of_for h0 h1 hp.1 hn
  exact ⟨q, ⟨q1, (works_for h0 h1 q1).2 (by rw [q2]; exact hp.2)⟩, q2⟩
 obtain ⟨a1, a2, a3⟩ := h
 refine ⟨fun p hp => ?_, a2, a3.imp (fun ⟨a, b⟩ => ⟨a, fun p hp => ?_⟩) (fun ⟨a, p, b, c⟩ => ⟨a, _, to p b, by rw [← pcost_for h0 h1 b.1]; exact c⟩)⟩
 ·obtain ⟨q, q1, rfl⟩ := fro p hp.1 hp.2
  rw [← pcost_for h0 h1 q1.1]; exact a1 q q1
 ·obtain ⟨q, q1, _⟩ := fro p hp.1 hp.2
  exact b q q1
/-! ### With and Without -/
theorem U4 (t : d6) (op : Int) : ∃ f, B1 t op = some f ∧ w4 t op = some f ∧ F6 t op = some f ∧ ((f = ⟨0, 0⟩ ∧ i6 t ∧ 0 ≤ op ∧ op < t.operators.length) ∨ (f.code ≠ 0 ∧ ¬ (i6 t ∧ 0 ≤ op ∧ op < t.operators.length))) := by
 obtain ⟨f, h1, h2, h3⟩ := validate_eq t
 unfold B1 w4 F6
 rw [h1, h2]
 simp only [oB, in_eq, at_eq]
 rcases h3 with ⟨rfl, ht⟩ | ⟨hc, hn⟩
 ·by_cases c : 0 ≤ op ∧ op < t.operators.length
  ·refine ⟨⟨0, 0⟩, ?_, ?_, ?_, .inl ⟨rfl, ht, c⟩⟩
   ·rw [if_neg (by simp), if_neg (by simp; omega)]
   ·rw [if_neg (by simp), if_neg (by simp; omega)]
   ·simp only [if_true, oB]
    rw [n3 (by omega)]; rfl
  ·refine ⟨⟨3, -6⟩, ?_, ?_, ?_, .inr ⟨by simp, fun h => c h.2⟩⟩
   ·rw [if_neg (by simp), if_pos (by simp; omega)]
   ·rw [if_neg (by simp), if_pos (by simp; omega)]
   ·simp only [if_true, oB]
    rw [D2 (by omega)]; rfl
 ·refine ⟨f, ?_, ?_, ?_, .inr ⟨hc, fun h => hn h.1⟩⟩
  ·rw [if_pos (by simp [hc])]
  ·rw [if_pos (by simp [hc])]
  ·rw [if_neg hc]; rfl
theorem require_eq (ht : i6 t) (h0 : 0 ≤ op) (h1 : op < t.operators.length) (hf : t.facts ≠ 24) : C2 t op = some (reqT t op, ⟨0, 0⟩) := by
 obtain ⟨f, _, k2, _, k4⟩ := U4 t op
 rcases k4 with ⟨rfl, _⟩ | ⟨_, k4⟩
 ·have n0 := ht.n0; have n1 := ht.n1
  have l1 := ht.goal.len24 ht.n1
  have l2 := (O9 ht h0 h1).1.2.1.len24 ht.n1
  unfold C2
  rw [k2]
  simp only [oB]
  have a1 : app 8 t.goal [t.facts] = some (t.goal ++ [t.facts]) := by unfold app; rw [if_pos (by simp; omega)]
  have a2 : app 8 (opAt t op).add [t.facts] = some ((opAt t op).add ++ [t.facts]) := by unfold app; rw [if_pos (by simp; omega)]
  rw [if_neg (by simp), if_neg hf, cclone_eq ht]
  simp only [oB, ix_op h0 h1, a1, a2, H1 (show -9223372036854775808 ≤ t.facts + 1 by omega) (by omega)]
  rfl
 ·exact absurd ⟨ht, h0, h1⟩ k4
theorem forbid_eq (ht : i6 t) (h0 : 0 ≤ op) (h1 : op < t.operators.length) : I4 t op = some (forT t op, ⟨0, 0⟩) := by
 obtain ⟨f, _, k2, _, k4⟩ := U4 t op
 rcases k4 with ⟨rfl, _⟩ | ⟨_, k4⟩
 ·have hl := ht.ops
  unfold I4
  rw [k2]
  simp only [oB]
  rw [if_neg (by simp), clone_same, cclone_eq ht]
  have hd : delL t.operators op (op + 1) = some (t.operators.take op.toNat ++ t.operators.drop (op.toNat + 1)) := by unfold delL; rw [if_pos ⟨h0, h1, rfl⟩]
  simp only [oB, H1 (show -9223372036854775808 ≤ op + 1 by omega) (by omega), hd]
  rfl
 ·exact absurd ⟨ht, h0, h1⟩ k4
inductive WithR (t : d6) (op : Int) : Int × i4 → Prop
 | bad {f : i4} (h : ¬ (i6 t ∧ 0 ≤ op ∧ op < t.operators.length)) (hc : f.code ≠ 0) (hf : F6 t op = some f) : WithR t op (0, f)
 | big (h : i6 t) (h0 : 0 ≤ op) (h1 : op < t.operators.length) (hf : t.facts = 24) : WithR t op (0, ⟨10, -8⟩)
 | opt {r : Int × i4} (h : i6 t) (h0 : 0 ≤ op) (h1 : op < t.operators.length) (hf : t.facts < 24) (hr : OptR (reqT t op) r) : WithR t op r
inductive OutR (t : d6) (op : Int) : Int × i4 → Prop
 | bad {f : i4} (h : ¬ (i6 t ∧ 0 ≤ op ∧ op < t.operators.length)) (hc : f.code ≠ 0) (hf : F6 t op = some f) : OutR t op (0, f)
 | opt {r : Int × i4} (h : i6 t) (h0 : 0 ≤ op) (h1 : op < t.operators.length) (hr : OptR (forT t op) r) : OutR t op r
theorem with_spec (t : d6) (op : Int) : ∃ r, A5 t op = some r ∧ WithR t op r := by
 obtain ⟨f, k1, k2, k3, k4⟩ := U4 t op
 unfold A5
 rw [k1]
 simp only [oB]
 rcases k4 with ⟨rfl, ht, h0, h1⟩ | ⟨hc, hn⟩
 ·rw [if_neg (by simp)]
  by_cases e : t.facts = 24
  ·unfold C2
   rw [k2]
   simp only [oB]
   rw [if_neg (by simp), if_pos e]
   simp only [oB]
   rw [if_pos (by simp)]
   exact ⟨_, rfl, .big ht h0 h1 e⟩
  ·rw [require_eq ht h0 h1 e]
   obtain ⟨r, r1, r2⟩ := S8 (reqT t op)
   simp only [oB]
   rw [if_neg (by simp), r1]
   exact ⟨r, rfl, .opt ht h0 h1 (by have := ht.n1; omega) r2⟩
 ·rw [if_pos (by simp [hc])]
  exact ⟨_, rfl, .bad hn hc k3⟩
theorem af5 (t : d6) (op : Int) : ∃ r, v6 t op = some r ∧ OutR t op r := by
 obtain ⟨f, k1, k2, k3, k4⟩ := U4 t op
 unfold v6
 rw [k1]
 simp only [oB]
 rcases k4 with ⟨rfl, ht, h0, h1⟩ | ⟨hc, hn⟩
 ·rw [if_neg (by simp), forbid_eq ht h0 h1]
  obtain ⟨r, r1, r2⟩ := S8 (forT t op)
  simp only [oB]
  rw [if_neg (by simp), r1]
  exact ⟨r, rfl, .opt ht h0 h1 r2⟩
 ·rw [if_pos (by simp [hc])]
  exact ⟨_, rfl, .bad hn hc k3⟩
theorem WithR.lc {r : Int × i4} (h : WithR t op r) (hc : r.2.code = 0) : (i6 t ∧ 0 ≤ op ∧ op < t.operators.length) ∧ r.2 = ⟨0, 0⟩ ∧ LC t (fun p => Sol t t.init p ∧ op ∈ p) r.1 := by
 cases h with
 | bad _ hc' => exact absurd hc hc'
 | big => simp at hc
 | opt ht h0 h1 hf hr => exact ⟨⟨ht, h0, h1⟩, hr.idx hc, lc_req ht h0 h1 (hr.lc hc)⟩
theorem OutR.lc {r : Int × i4} (h : OutR t op r) (hc : r.2.code = 0) : (i6 t ∧ 0 ≤ op ∧ op < t.operators.length) ∧ r.2 = ⟨0, 0⟩ ∧ LC t (fun p => Sol t t.init p ∧ op ∉ p) r.1 := by
 cases h with
 | bad _ hc' => exact absurd hc hc'
 | opt ht h0 h1 hr => exact ⟨⟨ht, h0, h1⟩, hr.idx hc, lc_for h0 h1 (hr.lc hc)⟩
end
/-! ### The fixed task -/
theorem ad2 {t : d6} (ht : i6 t) {op : Int} : ∀ {p : List Int}, Val t p → op ∈ p → (opAt t op).cost ≤ B2 t p
 | [], _, h => by simp at h
 | q :: p, hv, h => by
  have h1 := af4 ht (plan := p) fun x hx => hv x (List.mem_cons_of_mem _ hx)
  have h2 := hv q (by simp)
  have h3 := (O9 ht h2.1 h2.2).2.1
  simp only [B2]
  rcases List.mem_cons.1 h with rfl | h
  ·omega
  ·have := ad2 ht (p := p) (fun x hx => hv x (List.mem_cons_of_mem _ hx)) h
   omega
theorem step_few (s : List Int) (h : Rt m6 s) : s ∈ [[], [0], [1], [0, 1]] := by
 have hs := h.setN N1
 have e : s = K6 (· ∈ s) 2 := hs.eq
 by_cases a : (0 : Int) ∈ s
 ·by_cases b : (1 : Int) ∈ s
  ·rw [(setN_nil 2 |>.1 |> fun _ => hs.1.ext (m := [0, 1]) (by simp) fun x => ?_)]
   ·simp
   ·have := hs.2 x
    constructor
    ·intro hx; have := this hx; simp only [m6] at this; simp; omega
    ·intro hx; simp at hx; rcases hx with rfl | rfl <;> assumption
  ·rw [hs.1.ext (m := [0]) (by simp) fun x => ?_]
   ·simp
   ·have := hs.2 x
    constructor
    ·intro hx
     have := this hx; simp only [m6] at this
     have : x ≠ 1 := fun e => b (e ▸ hx)
     simp; omega
    ·intro hx; simp at hx; rw [hx]; exact a
 ·by_cases b : (1 : Int) ∈ s
  ·rw [hs.1.ext (m := [1]) (by simp) fun x => ?_]
   ·simp
   ·have := hs.2 x
    constructor
    ·intro hx
     have := this hx; simp only [m6] at this
     have : x ≠ 0 := fun e => a (e ▸ hx)
     simp; omega
    ·intro hx; simp at hx; rw [hx]; exact b
  ·rw [hs.1.ext (m := []) (by simp) fun x => ?_]
   ·simp
   ·have := hs.2 x
    constructor
    ·intro hx
     have := this hx; simp only [m6] at this
     have : x ≠ 0 := fun e => a (e ▸ hx)
     have : x ≠ 1 := fun e => b (e ▸ hx)
     omega
    ·intro hx; simp at hx
theorem step_many : ¬ Many m6 := by
 rintro ⟨m, m1, m2, m3⟩
 have := V0 m1 (S := [[], [0], [1], [0, 1]]) fun s hs => step_few s (m3 s hs)
 simp at this; omega
theorem ad8 {op : Int} (h : op = 0 ∨ op = 1) : Sol m6 m6.init [op] := by
 refine ⟨fun x hx => ?_, aft m6 m6.init op, ?_, fun x hx => ?_⟩
 ·simp at hx; subst hx; simp only [m6, List.length_cons, List.length_nil]; omega
 ·simp only [ends]
  rw [if_pos (n3 (show can m6 m6.init op from fun x hx => by
   rcases h with rfl | rfl
   ·simpa [opAt, m6] using hx
   ·simp [opAt, m6] at hx))]
 ·refine R4.2 ?_
  simp [m6] at hx; subst hx
  rcases h with rfl | rfl <;> simp [m6, opAt]
theorem step_ne {p : List Int} (h : Sol m6 m6.init p) : ∃ q, q ∈ p ∧ (q = 0 ∨ q = 1) := by
 cases p with
 | nil =>
  obtain ⟨_, e, h1, h2⟩ := h
  simp only [ends, Option.some.injEq] at h1; subst h1
  have := h2 1 (by simp [m6])
  simp [m6] at this
 | cons q p =>
  refine ⟨q, by simp, ?_⟩
  have := h.1 q (by simp)
  simp only [m6, List.length_cons, List.length_nil] at this
  omega
theorem step_cost0 : (opAt m6 0).cost = 1 := rfl
theorem ad5 : (opAt m6 1).cost = 3 := rfl
theorem lc_of {t : d6} {P : List Int → Prop} {k : Int} {p : List Int} (h0 : 0 ≤ k) (h1 : k < 1000000000) (hp : P p) (hk : B2 t p = k) (hl : ∀ q, P q → k ≤ B2 t q) : LC t P k := ⟨hl, h0, .inr ⟨h1, p, hp, hk⟩⟩
theorem step_opt : x7 m6 = some (1, ⟨0, 0⟩) := by
 obtain ⟨r, r1, r2⟩ := S8 m6
 have hc : r.2.code = 0 := Classical.byContradiction fun hc => step_many (r2.mny N1 hc).1
 have := (r2.lc hc).eq (lc_of (p := [0]) (k := 1) (by decide) (by decide) (ad8 (.inl rfl)) rfl fun q hq => by
  obtain ⟨x, hx, e⟩ := step_ne hq
  have := ad2 N1 hq.1 hx
  rcases e with rfl | rfl
  ·rw [step_cost0] at this; exact this
  ·rw [ad5] at this; omega)
 rw [r1, ← r2.idx hc, ← this]
theorem step_with {op : Int} (h : op = 0 ∨ op = 1) : A5 m6 op = some (if op = 0 then 1 else 3, ⟨0, 0⟩) := by
 obtain ⟨r, r1, r2⟩ := with_spec m6 op
 have h01 : 0 ≤ op ∧ op < m6.operators.length := by simp only [m6, List.length_cons, List.length_nil]; omega
 have hc : r.2.code = 0 := Classical.byContradiction fun hc => by
  cases r2 with
  | bad hn => exact hn ⟨N1, h01⟩
  | big _ _ _ hf => simp [m6] at hf
  | opt ht h0 h1 hf hr => exact many_req N1 h01.1 h01.2 (l := [[], [0], [1], [0, 1]]) (by simp) step_few (hr.mny (req_ok ht h0 h1 hf) hc).1
 obtain ⟨_, k1, k2⟩ := r2.lc hc
 have hv := ad8 h
 have := k2.eq (lc_of (p := [op]) (k := if op = 0 then 1 else 3) (by split <;> omega) (by split <;> omega) ⟨hv, by simp⟩ (by rcases h with rfl | rfl <;> rfl) fun q hq => by
  have := ad2 N1 hq.1.1 hq.2
  rcases h with rfl | rfl
  ·rw [step_cost0] at this; simpa using this
  ·rw [ad5] at this; simpa using this)
 rw [r1, ← k1, ← this]
theorem step_without : v6 m6 0 = some (3, ⟨0, 0⟩) := by
 obtain ⟨r, r1, r2⟩ := af5 m6 0
 have h01 : (0 : Int) ≤ 0 ∧ (0 : Int) < m6.operators.length := by simp [m6]
 have hc : r.2.code = 0 := Classical.byContradiction fun hc => by
  cases r2 with
  | bad hn => exact hn ⟨N1, h01⟩
  | opt ht h0 h1 hr => exact step_many (many_for h01.1 h01.2 (hr.mny (for_ok ht h0 h1) hc).1)
 obtain ⟨_, k1, k2⟩ := r2.lc hc
 have := k2.eq (lc_of (p := [1]) (k := 3) (by decide) (by decide) ⟨ad8 (.inr rfl), by simp⟩ rfl fun q hq => by
  obtain ⟨x, hx, e⟩ := step_ne hq.1
  have hm := ad2 N1 hq.1.1 hx
  rcases e with rfl | rfl
  ·exact absurd hx hq.2
  ·rw [ad5] at hm; exact hm)
 rw [r1, ← k1, ← this]
theorem priced_true : H5 = some true := by
 unfold H5
 rw [show R6 = some m6 from rfl]
 simp only [oB]
 unfold E9
 obtain ⟨f, k1, k2, k3, k4⟩ := U4 m6 0
 rcases k4 with ⟨rfl, _⟩ | ⟨_, k4⟩
 ·rw [step_with (.inr rfl), step_with (.inl rfl), step_without, step_opt, k1]
  rfl
 ·exact absurd ⟨N1, by simp [m6], by simp [m6]⟩ k4
end Ab
end
section
namespace Ab
open Go
theorem rise_eq (a b : Int) : J3 a b = M4 a b := rfl
theorem U0 (t : d6) (op : Int) : u4 t op = some true := by
 unfold u4 E9
 simp only [priced_true]
 obtain ⟨f, k1, k2, k3, k4⟩ := U4 t op
 rw [k1, k3]
 simp only [oB]
 rcases k4 with ⟨rfl, ht, h0, h1⟩ | ⟨hc, hn⟩
 ·obtain ⟨o, o1, o2⟩ := S8 t
  obtain ⟨a, a1, a2⟩ := with_spec t op
  obtain ⟨b, b1, b2⟩ := af5 t op
  rw [o1, a1, b1]
  have z1 : o.2.code = 0 → o.2 = ⟨0, 0⟩ := fun h => o2.idx h
  have z2 : a.2.code = 0 → a.2 = ⟨0, 0⟩ := fun h => (a2.lc h).2.1
  have z3 : b.2.code = 0 → b.2 = ⟨0, 0⟩ := fun h => (b2.lc h).2.1
  obtain ⟨o, fo⟩ := o
  obtain ⟨a, fa⟩ := a
  obtain ⟨b, fb⟩ := b
  simp only at z1 z2 z3
  simp only [oB]
  rw [if_neg (by simp)]
  by_cases c1 : fo.code = 0
  ·have := z1 c1; subst this
   rw [if_neg (by simp)]
   simp only [oB]
   by_cases c2 : fa.code = 0
   ·have := z2 c2; subst this
    rw [if_neg (by simp)]
    simp only [oB]
    by_cases c3 : fb.code = 0
    ·have := z3 c3; subst this
     rw [if_neg (by simp)]
     by_cases c4 : o = 1000000000
     ·rw [if_pos c4]
      simp [c4, at_eq]
     ·rw [if_neg c4]
      simp only [rise_eq]
      have hr : ∀ x, ∃ y, M4 x o = some y := fun x => by unfold M4; split <;> exact ⟨_, rfl⟩
      obtain ⟨y, hy⟩ := hr a
      obtain ⟨z, hz⟩ := hr b
      simp [c4, hy, hz]
    ·rw [if_pos (by simp [c3])]
     simp [c3]
   ·rw [if_pos (by simp [c2])]
    simp [c2]
  ·rw [if_pos (by simp [c1])]
   simp [c1]
 ·rw [if_pos (by simp [hc])]
  simp [hc]
end Ab
end
