/-
  Texts that the proof stands on.
-/
import Derived.Test.YtpccoiobnjnciaaKRwConOccurs5
set_option linter.all false
section
namespace Ab
open Go
abbrev En := c8
def Hp (L : List Int) (E : List En) : Prop := ∀ i h, ix L i = some h → ∃ e, ix E h = some e ∧ e.fat = i
structure Sme (L : List Int) (E : List En) (L' : List Int) (E' : List En) : Prop where
 len : L'.length = L.length
 mem : ∀ h, h ∈ L' ↔ h ∈ L
 elen : E'.length = E.length
 e : ∀ h a, ix E h = some a → ∃ a', ix E' h = some a' ∧ a'.item = a.item ∧ a'.key = a.key
theorem Sme.refl (L : List Int) (E : List En) : Sme L E L E := ⟨rfl, fun _ => Iff.rfl, rfl, fun h a ha => ⟨a, ha, rfl, rfl⟩⟩
theorem Sme.trans {L L' L'' : List Int} {E E' E'' : List En} (h : Sme L E L' E') (g : Sme L' E' L'' E'') : Sme L E L'' E'' := by
 refine ⟨g.len.trans h.len, fun x => (g.mem x).trans (h.mem x), g.elen.trans h.elen, fun x a ha => ?_⟩
 obtain ⟨b, b1, b2, b3⟩ := h.e x a ha
 obtain ⟨c, c1, c2, c3⟩ := g.e x b b1
 exact ⟨c, c1, c2.trans b2, c3.trans b3⟩
theorem Hp.inj {L : List Int} {E : List En} (h : Hp L E) {i j x : Int} (h1 : ix L i = some x) (h2 : ix L j = some x) : i = j := by
 obtain ⟨e, e1, e2⟩ := h i x h1
 obtain ⟨f, f1, f2⟩ := h j x h2
 rw [e1] at f1; cases f1; rw [← e2, ← f2]
theorem mem_ixI {α : Type} {l : List α} {x : α} : x ∈ l ↔ ∃ i : Int, ix l i = some x := by
 constructor
 ·intro h
  obtain ⟨k, hk⟩ := List.getElem?_of_mem h
  exact ⟨k, by rw [X5]; exact hk⟩
 ·rintro ⟨i, h⟩; exact y6 h
theorem less_ok {L : List Int} {E : List En} (h : Hp L E) {i k : Int} (hi : 0 ≤ i) (hi' : i < L.length) (hk : 0 ≤ k) (hk' : k < L.length) : ∃ b, j9 i k L E = some b := by
 obtain ⟨x, x1, _⟩ := p8 hi hi'
 obtain ⟨y, y1, _⟩ := p8 hk hk'
 obtain ⟨e, e1, _⟩ := h i x x1
 obtain ⟨f, f1, _⟩ := h k y y1
 exact ⟨_, by simp only [j9, x1, y1, e1, f1, oB]; rfl⟩
theorem swap_ok {L : List Int} {E : List En} (h : Hp L E) {i k : Int} (hi : 0 ≤ i) (hi' : i < L.length) (hk : 0 ≤ k) (hk' : k < L.length) :
  ∃ L' E', k6 i k L E = some (L', E') ∧ Hp L' E' ∧ Sme L E L' E' ∧ (∀ x, ix L i = some x → ix L' k = some x) := by
 obtain ⟨x, x1, _⟩ := p8 hi hi'
 obtain ⟨y, y1, _⟩ := p8 hk hk'
 obtain ⟨e, e1, e2⟩ := h i x x1
 obtain ⟨f, f1, f2⟩ := h k y y1
 obtain ⟨ex0, ex1, _⟩ := x6 e1
 obtain ⟨ey0, ey1, _⟩ := x6 f1
 have hL : ∀ j, ix ((L.set i.toNat y).set k.toNat x) j = if j = k then some x else if j = i then some y else ix L j := by
  intro j
  by_cases hj : 0 ≤ j
  ·rw [Y0 hk (by simp; omega) hj]
   split
   ·rfl
   ·rw [Y0 hi hi' hj]
  ·rw [H3 (by omega), H3 (by omega), if_neg (by omega), if_neg (by omega)]
 have q1 : ix ((L.set i.toNat y).set k.toNat x) i = some y := by
  rw [hL]
  by_cases c : i = k
  ·subst c; rw [x1] at y1; cases y1; simp
  ·rw [if_neg c, if_pos rfl]
 have q2 : ix ((L.set i.toNat y).set k.toNat x) k = some x := by rw [hL, if_pos rfl]
 have hE : ∀ j, ix (E.set y.toNat (⟨f.item, f.key, f.time, i⟩ : En)) j = if j = y then some ⟨f.item, f.key, f.time, i⟩ else ix E j := by
  intro j
  by_cases hj : 0 ≤ j
  ·rw [Y0 ey0 ey1 hj]
  ·rw [H3 (by omega), H3 (by omega), if_neg (by omega)]
 obtain ⟨g, g1, g2, g3⟩ : ∃ g, ix (E.set y.toNat (⟨f.item, f.key, f.time, i⟩ : En)) x = some g ∧ g.item = e.item ∧ g.key = e.key := by
  rw [hE]
  by_cases c : x = y
  ·subst c; rw [e1] at f1; cases f1; exact ⟨_, if_pos rfl, rfl, rfl⟩
  ·exact ⟨e, by rw [if_neg c, e1], rfl, rfl⟩
 have hE2 : ∀ j, ix ((E.set y.toNat (⟨f.item, f.key, f.time, i⟩ : En)).set x.toNat (⟨g.item, g.key, g.time, k⟩ : En)) j = if j = x then some ⟨g.item, g.key, g.time, k⟩ else if j = y then some ⟨f.item, f.key, f.time, i⟩ else ix E j := by
  intro j
  by_cases hj : 0 ≤ j
  ·rw [Y0 ex0 (by simp; omega) hj, hE]
  ·rw [H3 (by omega), H3 (by omega), if_neg (by omega), if_neg (by omega)]
 refine ⟨_, _, by simp only [k6, x1, y1, q1, q2, f1, g1, oB]; rfl, ?_, ⟨by simp, fun z => ?_, by simp, fun z a ha => ?_⟩, ?_⟩
 ·intro j z hz
  rw [hL] at hz
  by_cases c : j = k
  ·rw [if_pos c] at hz; cases hz
   exact ⟨_, by rw [hE2, if_pos rfl], c.symm⟩
  ·rw [if_neg c] at hz
   by_cases d : j = i
   ·rw [if_pos d] at hz; cases hz
    have : y ≠ x := fun q => by subst q; exact c (d.trans (h.inj x1 y1))
    exact ⟨_, by rw [hE2, if_neg this, if_pos rfl], d.symm⟩
   ·rw [if_neg d] at hz
    obtain ⟨a, a1, a2⟩ := h j z hz
    refine ⟨a, ?_, a2⟩
    rw [hE2, if_neg (fun q => by subst q; exact d (h.inj hz x1)), if_neg (fun q => by subst q; exact c (h.inj hz y1)), a1]
 ·rw [mem_ixI, mem_ixI]
  constructor
  ·rintro ⟨j, hj⟩
   rw [hL] at hj
   split at hj
   ·cases hj; exact ⟨i, x1⟩
   ·split at hj
    ·cases hj; exact ⟨k, y1⟩
    ·exact ⟨j, hj⟩
  ·rintro ⟨j, hj⟩
   by_cases c : j = k
   ·subst c; rw [y1] at hj; cases hj; exact ⟨i, q1⟩
   ·by_cases d : j = i
    ·subst d; rw [x1] at hj; cases hj; exact ⟨k, q2⟩
    ·exact ⟨j, by rw [hL, if_neg c, if_neg d, hj]⟩
 ·rw [hE2]
  by_cases c : z = x
  ·subst c; rw [e1] at ha; cases ha; exact ⟨_, if_pos rfl, g2, g3⟩
  ·rw [if_neg c]
   by_cases d : z = y
   ·subst d; rw [f1] at ha; cases ha; exact ⟨_, if_pos rfl, rfl, rfl⟩
   ·exact ⟨a, by rw [if_neg d, ha], rfl, rfl⟩
 ·intro z hz; rw [x1] at hz; cases hz; exact q2
theorem same_swap : q7 = k6 := rfl
theorem same_down : B6 = u6 := rfl
structure Kp (nv : Int) (L : List Int) (E : List En) (l : List Int) (e : List En) : Prop where
 hp : Hp l e
 sm : Sme L E l e
 hi : ∀ j, nv ≤ j → ix l j = ix L j
theorem ix_sw {L L' : List Int} {E E' : List En} {i k : Int} (h : k6 i k L E = some (L', E')) (hk0 : 0 ≤ k) (hi0 : 0 ≤ i) (hi1 : i < L.length) (hk1 : k < L.length) {j : Int} (h1 : j ≠ i) (h2 : j ≠ k) : ix L' j = ix L j := by
 unfold k6 at h
 simp only [Option.bind_eq_some_iff] at h
 obtain ⟨a, _, b, _, c, _, d, _, e, _, f, _, g⟩ := h
 cases g
 by_cases hj : 0 ≤ j
 ·rw [Y0 hk0 (by simp; omega) hj, if_neg h2, Y0 hi0 hi1 hj, if_neg h1]
 ·rw [H3 (by omega), H3 (by omega)]
theorem down_body {nv i : Int} {L l : List Int} {E e : List En} (g : Kp nv L E l e) (hn : nv ≤ L.length) (hb : L.length ≤ 1000000) {c : Int} (hc : 0 ≤ c) (hc' : c < L.length) :
  (∃ l' e' c', q9 nv (l, e, c) = some (.inl (l', e', c')) ∧ Kp nv L E l' e' ∧ c < c' ∧ c' < nv) ∨ q9 nv (l, e, c) = some (.inr (l, e, c)) := by
 have hl := g.sm.len
 unfold q9
 have e1 : w64 (w64 (2 * c) + 1) = 2 * c + 1 := by rw [A8 (n := 2 * c) (by omega) (by omega), A8 (by omega) (by omega)]
 simp only [e1]
 by_cases c1 : nv ≤ 2 * c + 1
 ·rw [if_pos (by simp [c1])]; exact .inr rfl
 rw [if_neg (by simp; omega)]
 have e2 : w64 (2 * c + 1 + 1) = 2 * c + 2 := by rw [A8 (by omega) (by omega)]; omega
 simp only [e2]
 obtain ⟨j, j1, j2, j3⟩ : ∃ j, (Option.bind (if 2 * c + 2 < nv then Option.bind (j9 (2 * c + 2) (2 * c + 1) l e) fun a32 => some a32 else some false) fun t69 => if t69 = true then some (2 * c + 2) else some (2 * c + 1)) = some j ∧ c < j ∧ j < nv := by
  by_cases c2 : 2 * c + 2 < nv
  ·obtain ⟨b, hb'⟩ := less_ok g.hp (i := 2 * c + 2) (k := 2 * c + 1) (by omega) (by omega) (by omega) (by omega)
   rw [if_pos c2, hb']
   cases b
   ·exact ⟨2 * c + 1, rfl, by omega, by omega⟩
   ·exact ⟨2 * c + 2, rfl, by omega, by omega⟩
  ·rw [if_neg c2]
   exact ⟨2 * c + 1, rfl, by omega, by omega⟩
 rw [j1, Option.bind_some]
 obtain ⟨b, hb'⟩ := less_ok g.hp (i := j) (k := c) (by omega) (by omega) (by omega) (by omega)
 rw [hb', Option.bind_some]
 cases b
 ·exact .inr rfl
 ·obtain ⟨l', e', s1, s2, s3, _⟩ := swap_ok g.hp (i := c) (k := j) (by omega) (by omega) (by omega) (by omega)
  simp only [s1, oB, U1, s3.len]
  refine .inl ⟨l', e', j, rfl, ⟨s2, g.sm.trans s3, fun q hq => ?_⟩, j2, j3⟩
  rw [ix_sw s1 (by omega) (by omega) (by omega) (by omega) (by omega) (by omega), g.hi q hq]
theorem down_ok {nv t0 : Int} {L : List Int} {M : List (Int × Int)} {E : List En} (h : Hp L E) {i : Int} (hi : 0 ≤ i) (hi' : i < L.length) (hn : nv ≤ L.length) (hb : L.length ≤ 1000000) :
  ∃ L' E' b, u6 i nv t0 L M E = some (L', E', b) ∧ Kp nv L E L' E' := by
 unfold u6
 obtain ⟨o, o1, o2⟩ := Q8 (body := q9 nv) (s := (L, E, i))
  (fun s => Kp nv L E s.1 s.2.1 ∧ 0 ≤ s.2.2 ∧ s.2.2 < L.length) (fun o => Kp nv L E o.1 o.2.1) (fun s => (nv - s.2.2).toNat)
  ⟨⟨h, .refl _ _, fun _ _ => rfl⟩, hi, hi'⟩ (by
   rintro ⟨l, e, c⟩ ⟨g1, g2, g3⟩
   simp only at g1 g2 g3
   rcases down_body (i := i) g1 hn hb g2 g3 with ⟨l', e', c', q1, q2, q3, q4⟩ | q
   ·exact .inl ⟨_, q1, ⟨q2, by change 0 ≤ c'; omega, by change c' < _; omega⟩, by change (nv - c').toNat < (nv - c).toNat; omega⟩
   ·exact .inr ⟨_, q, g1⟩)
 obtain ⟨a, b, c⟩ := o
 exact ⟨a, b, _, by rw [o1]; rfl, o2⟩
theorem up_ok {t0 : Int} {L : List Int} {M : List (Int × Int)} {E : List En} (h : Hp L E) {i : Int} (hi : 0 ≤ i) (hi' : i < L.length) (hb : L.length ≤ 1000000) :
  ∃ L' E', x8 i t0 L M E = some (L', E') ∧ Hp L' E' ∧ Sme L E L' E' := by
 unfold x8
 obtain ⟨o, o1, o2⟩ := Q8 (body := B5) (s := (L, E, i))
  (fun s => (Hp s.1 s.2.1 ∧ Sme L E s.1 s.2.1) ∧ 0 ≤ s.2.2 ∧ s.2.2 < L.length) (fun o => Hp o.1 o.2 ∧ Sme L E o.1 o.2) (fun s => s.2.2.toNat)
  ⟨⟨h, .refl _ _⟩, hi, hi'⟩ (by
   rintro ⟨l, e, c⟩ ⟨⟨g1, g4⟩, g2, g3⟩
   simp only at g1 g2 g3 g4
   have hl := g4.len
   unfold B5
   have e1 : w64 (c - 1) = c - 1 := A8 (by omega) (by omega)
   have e3 : (c - 1).tdiv 2 = if c = 0 then 0 else (c - 1) / 2 := by
    split
    ·rename_i q; subst q; rfl
    ·rw [Int.tdiv_eq_ediv_of_nonneg (by omega)]
   have e2 : w64 ((c - 1).tdiv 2) = if c = 0 then 0 else (c - 1) / 2 := by
    rw [e3]; split
    ·rfl
    ·exact A8 (by omega) (by omega)
   simp only [e1, e2, chkN, show ((2 : Int) = 0) = False by simp, if_false, oB]
   by_cases c0 : c = 0
   ·subst c0
    rw [if_pos (by simp)]
    exact .inr ⟨_, rfl, g1, g4⟩
   ·simp only [if_neg c0]
    rw [if_neg (by omega)]
    obtain ⟨b, hb'⟩ := less_ok g1 (i := c) (k := (c - 1) / 2) (by omega) (by omega) (by omega) (by omega)
    rw [hb']
    cases b
    ·exact .inr ⟨_, rfl, g1, g4⟩
    ·obtain ⟨l', e', s1, s2, s3, _⟩ := swap_ok g1 (i := (c - 1) / 2) (k := c) (by omega) (by omega) (by omega) (by omega)
     simp only [oB, Bool.not_true, Bool.false_eq_true, if_false, s1, U1, s3.len, if_true]
     exact .inl ⟨_, rfl, ⟨⟨s2, g4.trans s3⟩, by simp only; omega, by simp only; omega⟩, by simp only; omega⟩)
 exact ⟨o.1, o.2, by rw [o1]; rfl, o2⟩
theorem fix_ok {t0 : Int} {L : List Int} {M : List (Int × Int)} {E : List En} (h : Hp L E) {i : Int} (hi : 0 ≤ i) (hi' : i < L.length) (hb : L.length ≤ 1000000) :
  ∃ L' E', w8 i t0 L M E = some (L', E') ∧ Hp L' E' ∧ Sme L E L' E' := by
 unfold w8
 obtain ⟨L', E', b, h1, h2⟩ := down_ok (nv := L.length) (t0 := t0) (M := M) h hi hi' (by omega) hb
 simp only [m4, h1, oB]
 cases b
 ·obtain ⟨L2, E2, k1, k2, k3⟩ := up_ok (t0 := t0) (M := M) h2.hp hi (by rw [h2.sm.len]; exact hi') (by rw [h2.sm.len]; exact hb)
  exact ⟨L2, E2, by simp [k1], k2, h2.sm.trans k3⟩
 ·exact ⟨L', E', by simp, h2.hp, h2.sm⟩
theorem push_ok {t0 : Int} {L : List Int} {M : List (Int × Int)} {E : List En} (h : Hp L E) {x : Int} {e : En} (hx : ix E x = some e) (hn : x ∉ L) (hb : L.length ≤ 999999) :
  ∃ L' E', u5 x t0 E L M = some (E', L') ∧ Hp L' E' ∧ Sme (L ++ [x]) E L' E' := by
 unfold u5 u8
 obtain ⟨x0, x1, _⟩ := x6 hx
 have ha : app 8 L [x] = some (L ++ [x]) := by unfold app; rw [if_pos (by simp; omega)]
 have hE : ∀ j, ix (E.set x.toNat (⟨e.item, e.key, e.time, (L.length : Int)⟩ : En)) j = if j = x then some ⟨e.item, e.key, e.time, (L.length : Int)⟩ else ix E j := by
  intro j
  by_cases hj : 0 ≤ j
  ·rw [Y0 x0 x1 hj]
  ·rw [H3 (by omega), H3 (by omega), if_neg (by omega)]
 simp only [hx, ha, oB, m4]
 have e1 : w64 (((L ++ [x]).length : Int) - 1) = (L.length : Int) := by rw [show (((L ++ [x]).length : Int) - 1) = (L.length : Int) by simp]; exact A8 (by omega) (by omega)
 have hh : Hp (L ++ [x]) (E.set x.toNat (⟨e.item, e.key, e.time, (L.length : Int)⟩ : En)) := by
  intro i z hz
  rw [aa5] at hz
  by_cases c : i = L.length
  ·rw [if_pos c] at hz; cases hz
   exact ⟨_, by rw [hE, if_pos rfl], c.symm⟩
  ·rw [if_neg c] at hz
   obtain ⟨a, a1, a2⟩ := h i z hz
   exact ⟨a, by rw [hE, if_neg (fun q => by subst q; exact hn (y6 hz)), a1], a2⟩
 obtain ⟨L', E', k1, k2, k3⟩ := up_ok (t0 := t0) (M := M) hh (i := L.length) (by omega) (by simp; omega) (by simp; omega)
 refine ⟨L', E', by rw [e1, k1]; rfl, k2, Sme.trans ⟨rfl, fun _ => Iff.rfl, by simp, fun z a hz => ?_⟩ k3⟩
 rw [hE]
 by_cases c : z = x
 ·subst c; rw [hx] at hz; cases hz; exact ⟨_, if_pos rfl, rfl, rfl⟩
 ·exact ⟨a, by rw [if_neg c, hz], rfl, rfl⟩
theorem pop_ok {t0 : Int} {L : List Int} {M : List (Int × Int)} {E : List En} (h : Hp L E) (hl : 0 < L.length) (hb : L.length ≤ 1000000) :
  ∃ L' E' x, y8 t0 L M E = some (E', L', x) ∧ Hp L' E' ∧ Sme L E (L' ++ [x]) E' ∧ x ∉ L' := by
 unfold y8
 have e1 : w64 ((L.length : Int) - 1) = (L.length : Int) - 1 := A8 (by omega) (by omega)
 obtain ⟨l, e, s1, s2, s3, _⟩ := swap_ok h (i := 0) (k := (L.length : Int) - 1) (by omega) (by omega) (by omega) (by omega)
 have hl' := s3.len
 obtain ⟨L1, E1, b, d1, d2⟩ := down_ok (nv := (L.length : Int) - 1) (t0 := t0) (M := M) s2 (i := 0) (by omega) (by omega) (by omega) (by omega)
 have hs := s3.trans d2.sm
 have hl1 := hs.len
 obtain ⟨x, x1, _⟩ := p8 (l := L1) (i := (L.length : Int) - 1) (by omega) (by omega)
 have hcut : subL L1 0 ((L1.length : Int) - 1) = some L1.dropLast := by
  unfold subL
  rw [if_pos (by omega)]
  simp only [Int.toNat_zero, List.drop_zero, List.dropLast_eq_take]
  rw [show ((L1.length : Int) - 1).toNat = L1.length - 1 by omega]
 have hsnoc : L1.dropLast ++ [x] = L1 := by
  have hne : L1 ≠ [] := by intro q; rw [q] at hl1; simp at hl1; omega
  have := (x6 x1).2.2
  rw [show ((L.length : Int) - 1).toNat = L1.length - 1 by omega] at this
  have hlast : L1.getLast hne = x := by
   rw [List.getLast_eq_getElem]
   have := List.getElem?_eq_some_iff.1 this
   exact this.2
  rw [← hlast]; exact List.dropLast_concat_getLast hne
 have hd : Hp L1.dropLast E1 := fun i z hz => d2.hp i z (by
  have := ad8 (x := x) hz; rwa [hsnoc] at this)
 refine ⟨L1.dropLast, E1, x, ?_, hd, by rw [hsnoc]; exact hs, fun hx => ?_⟩
 ·rw [same_swap, same_down]
  simp only [m4, e1, s1, oB, U1, hl', if_true, d1, w6, hcut]
  rw [show (L1.length : Int) - 1 = (L.length : Int) - 1 by omega, x1]; rfl
 ·obtain ⟨i, hi⟩ := mem_ixI.1 hx
  have h2 := ad8 (x := x) hi
  rw [hsnoc] at h2
  have := d2.hp.inj h2 x1
  have h3 := (x6 hi).2.1
  simp at h3; omega
end Ab
end
section
namespace Ab
open Go
theorem mset_nodup {k v : Int} {m : List (Int × Int)} (h : (m.map (·.1)).Nodup) : ((mset m k v).map (·.1)).Nodup := by
 by_cases c : mget m k = none
 ·rw [M7 c, List.map_append]
  refine List.nodup_append.2 ⟨h, by simp, fun a ha b hb e => ?_⟩
  simp at hb; subst hb; subst e; exact mget_none c ha
 ·rw [mset_keys c]; exact h
theorem mget_of_mem {k v : Int} : ∀ {m : List (Int × Int)}, (m.map (·.1)).Nodup → (k, v) ∈ m → mget m k = some v
 | [], _, h => by simp at h
 | p :: r, hn, h => by
  simp only [List.map_cons, List.nodup_cons] at hn
  simp only [mget]
  rcases List.mem_cons.1 h with e | h
  ·subst e; simp
  ·rw [if_neg (fun e => hn.1 (by rw [← e]; exact List.mem_map.2 ⟨_, h, rfl⟩))]
   exact mget_of_mem hn.2 h
theorem mdel_sub {k : Int} : ∀ {m : List (Int × Int)}, (mdel m k).Sublist m
 | [] => List.Sublist.slnil
 | p :: r => by
  simp only [mdel]
  split
  ·exact List.sublist_cons_self _ _
  ·exact mdel_sub.cons_cons _
theorem mget_mdel {k : Int} : ∀ {m : List (Int × Int)}, (m.map (·.1)).Nodup → ∀ x, mget (mdel m k) x = if x = k then none else mget m x
 | [], _, x => by simp [mdel, mget]
 | p :: r, hn, x => by
  simp only [List.map_cons, List.nodup_cons] at hn
  simp only [mdel]
  by_cases c : k = p.1
  ·rw [if_pos c]
   by_cases d : x = k
   ·rw [if_pos d]
    cases e : mget r x with
    | none => rfl
    | some v => exact absurd (List.mem_map.2 ⟨_, mget_mem e, rfl⟩) (by rw [d, c]; exact hn.1)
   ·rw [if_neg d]
    simp only [mget]
    rw [if_neg (fun e => d (e.trans c.symm))]
  ·rw [if_neg c]
   simp only [mget, mget_mdel hn.2]
   by_cases d : x = k
   ·rw [if_pos d, if_pos d, if_neg (by rw [d]; exact c)]
   ·rw [if_neg d, if_neg d]
structure Qu (M : List (Int × Int)) (L : List Int) (E : List En) : Prop where
 hp : Hp L E
 keys : (M.map (·.1)).Nodup
 mem : ∀ x h, mget M x = some h ↔ h ∈ L ∧ ∃ e, ix E h = some e ∧ e.item = x
def qkey (M : List (Int × Int)) (E : List En) (x : Int) : Option Int := (mget M x).bind fun h => (ix E h).map (·.key)
theorem Sme.item {L L' : List Int} {E E' : List En} (h : Sme L E L' E') (x y : Int) : (∃ e, ix E' x = some e ∧ e.item = y) ↔ ∃ e, ix E x = some e ∧ e.item = y := by
 constructor
 ·rintro ⟨e, e1, e2⟩
  obtain ⟨a, b, _⟩ := x6 e1
  obtain ⟨f, f1, _⟩ := p8 (l := E) a (by rw [← h.elen]; exact b)
  obtain ⟨g, g1, g2, _⟩ := h.e x f f1
  rw [e1] at g1; cases g1
  exact ⟨f, f1, g2.symm.trans e2⟩
 ·rintro ⟨e, e1, e2⟩
  obtain ⟨g, g1, g2, _⟩ := h.e x e e1
  exact ⟨g, g1, g2.trans e2⟩
theorem Sme.key {L L' : List Int} {E E' : List En} (h : Sme L E L' E') (x : Int) : (ix E' x).map (·.key) = (ix E x).map (·.key) := by
 cases e1 : ix E x with
 | some e =>
  obtain ⟨g, g1, _, g3⟩ := h.e x e e1
  rw [g1]; simp [g3]
 | none =>
  cases e2 : ix E' x with
  | none => rfl
  | some e =>
   obtain ⟨a, b, _⟩ := x6 e2
   obtain ⟨f, f1, _⟩ := p8 (l := E) a (by rw [← h.elen]; exact b)
   rw [e1] at f1; cases f1
theorem Qu.sme {M : List (Int × Int)} {L L' : List Int} {E E' : List En} (h : Qu M L E) (hp : Hp L' E') (hs : Sme L E L' E') : Qu M L' E' ∧ ∀ x, qkey M E' x = qkey M E x := by
 refine ⟨⟨hp, h.keys, fun x y => ?_⟩, fun x => ?_⟩
 ·rw [h.mem, hs.mem, hs.item]
 ·unfold qkey
  cases mget M x with
  | none => rfl
  | some y => simp [hs.key]
theorem Qu.nil : Qu [] [] [] := ⟨fun i h e => by simp [ix] at e, by simp, fun x h => by simp [mget]⟩
theorem Qu.val {M : List (Int × Int)} {L : List Int} {E : List En} (h : Qu M L E) {z : Int} (hz : z ∈ L) : z.toNat < E.length := by
 obtain ⟨i, _, _, hi⟩ := A9 hz
 obtain ⟨e, e1, _⟩ := h.hp i z hi
 exact e8 e1
theorem Qu.chk1 {M : List (Int × Int)} {L : List Int} {E : List En} (h : Qu M L E) : chkH E.length L = some () := by
 unfold chkH; rw [if_pos (fun z hz => h.val hz)]
theorem Qu.chk2 {M : List (Int × Int)} {L : List Int} {E : List En} (h : Qu M L E) : chkH E.length (M.map (·.2)) = some () := by
 unfold chkH
 rw [if_pos]
 intro z hz
 obtain ⟨p, hp, rfl⟩ := List.mem_map.1 hz
 exact h.val ((h.mem p.1 p.2).1 (mget_of_mem h.keys hp)).1
theorem Qu.item_inj {M : List (Int × Int)} {L : List Int} {E : List En} (h : Qu M L E) {a b : Int} {e f : En} (ha : a ∈ L) (hb : b ∈ L) (he : ix E a = some e) (hf : ix E b = some f) (hi : e.item = f.item) : a = b := by
 have h1 := (h.mem e.item a).2 ⟨ha, e, he, rfl⟩
 have h2 := (h.mem e.item b).2 ⟨hb, f, hf, hi.symm⟩
 rw [h1] at h2; exact Option.some.inj h2
theorem Hp.nodup {L : List Int} {E : List En} (h : Hp L E) : L.Nodup := by
 refine List.pairwise_iff_getElem.2 fun i j hi hj hij e => ?_
 have h1 : ix L (j : Int) = some L[j] := ix_ltN hj
 have h2 : ix L (i : Int) = some L[j] := by rw [← e]; exact ix_ltN hi
 have := h.inj h1 h2
 omega
theorem Qu.le {M : List (Int × Int)} {L : List Int} {E : List En} (h : Qu M L E) {vs : List Int} (hv : ∀ x, qkey M E x ≠ none → x ∈ vs) : L.length ≤ vs.length := by
 have h1 : (L.map fun z => ((ix E z).map (·.item)).getD 0).Nodup := by
  refine List.pairwise_map.2 ?_
  have := h.hp.nodup
  refine List.Pairwise.imp_of_mem (R := (· ≠ ·)) (fun {a b} ha hb hab e => hab ?_) this
  obtain ⟨i, _, _, hi⟩ := A9 ha
  obtain ⟨j, _, _, hj⟩ := A9 hb
  obtain ⟨x, x1, _⟩ := h.hp i a hi
  obtain ⟨y, y1, _⟩ := h.hp j b hj
  refine h.item_inj ha hb x1 y1 ?_
  simpa [x1, y1] using e
 have := S2 h1 (S := vs) (fun x hx => by
  obtain ⟨a, ha, rfl⟩ := List.mem_map.1 hx
  obtain ⟨i, _, _, hi⟩ := A9 ha
  obtain ⟨e, e1, _⟩ := h.hp i a hi
  refine hv _ ?_
  have := (h.mem e.item a).2 ⟨ha, e, e1, rfl⟩
  simp [e1, qkey, this])
 simpa using this
theorem set_ok {M : List (Int × Int)} {L : List Int} {E : List En} (h : Qu M L E) (hb : L.length ≤ 999999) (item key t0 : Int) :
  ∃ M' L' E', m9 item key t0 L M E = some (M', L', E') ∧ Qu M' L' E' ∧ ∀ x, qkey M' E' x = if x = item then some key else qkey M E x := by
 unfold m9
 cases hm : mget M item with
 | some z =>
  simp only [Option.isSome_some, if_true, oB]
  obtain ⟨hz, e, e1, e2⟩ := (h.mem item z).1 hm
  obtain ⟨z0, z1, _⟩ := x6 e1
  obtain ⟨i, i0, i1, hi⟩ := A9 hz
  have hf : e.fat = i := by
   obtain ⟨f, f1, f2⟩ := h.hp i z hi
   rw [e1] at f1; cases f1; exact f2
  simp only [e1, oB, List.set_set]
  have hE : ∀ j, ix (E.set z.toNat (⟨e.item, key, w64 (t0 + 1), e.fat⟩ : En)) j = if j = z then some ⟨e.item, key, w64 (t0 + 1), e.fat⟩ else ix E j := by
   intro j
   by_cases hj : 0 ≤ j
   ·rw [Y0 z0 z1 hj]
   ·rw [H3 (by omega), H3 (by omega), if_neg (by omega)]
  have h1 : Hp L (E.set z.toNat (⟨e.item, key, w64 (t0 + 1), e.fat⟩ : En)) := by
   intro j y hy
   rw [hE]
   by_cases c : y = z
   ·subst c; exact ⟨_, if_pos rfl, hf.trans (h.hp.inj hi hy)⟩
   ·rw [if_neg c]; exact h.hp j y hy
  obtain ⟨L', E', k1, k2, k3⟩ := fix_ok (t0 := w64 (t0 + 1)) (M := M) h1 (i := e.fat) (by omega) (by omega) (by omega)
  have hq : Qu M L (E.set z.toNat (⟨e.item, key, w64 (t0 + 1), e.fat⟩ : En)) := ⟨h1, h.keys, fun x y => by
   rw [h.mem, hE]
   by_cases c : y = z
   ·subst c
    simp [e1]
   ·rw [if_neg c]⟩
  obtain ⟨q1, q2⟩ := hq.sme k2 k3
  refine ⟨M, L', E', by rw [k1]; rfl, q1, fun x => ?_⟩
  rw [q2]
  unfold qkey
  by_cases c : x = item
  ·subst c; rw [if_pos rfl, hm]; simp [hE]
  ·rw [if_neg c]
   cases hx : mget M x with
   | none => rfl
   | some y =>
    have : y ≠ z := fun q => by
     subst q
     obtain ⟨_, f, f1, f2⟩ := (h.mem x y).1 hx
     rw [e1] at f1; cases f1; exact c (f2.symm.trans e2)
    simp [hE, if_neg this]
 | none =>
  simp only [Option.isSome_none, Bool.false_eq_true, if_false, h.chk1, h.chk2, oB]
  have hn : (E.length : Int) ∉ L := fun q => by have := h.val q; simp at this
  have h1 : Hp L (E ++ [(⟨item, key, w64 (t0 + 1), 0⟩ : En)]) := fun i z hz => by
   obtain ⟨e, e1, e2⟩ := h.hp i z hz
   exact ⟨e, ad8 e1, e2⟩
  obtain ⟨L', E', k1, k2, k3⟩ := push_ok (t0 := w64 (t0 + 1)) (M := mset M item (E.length : Int)) h1 (x := (E.length : Int)) ix_snoc_new hn hb
  refine ⟨_, L', E', by rw [k1]; rfl, ⟨k2, mset_nodup h.keys, fun x y => ?_⟩, fun x => ?_⟩
  ·rw [B9, k3.mem, k3.item, List.mem_append, List.mem_singleton, aa5]
   by_cases c : x = item
   ·subst c
    rw [if_pos rfl]
    by_cases d : y = (E.length : Int)
    ·rw [if_pos d]; simp [d]
    ·rw [if_neg d]
     constructor
     ·intro q; exact absurd (Option.some.inj q).symm d
     ·rintro ⟨a | a, b⟩
      ·exact absurd ((h.mem x y).2 ⟨a, b⟩) (by rw [hm]; simp)
      ·exact absurd a d
   ·rw [if_neg c, h.mem]
    by_cases d : y = (E.length : Int)
    ·rw [if_pos d]; subst d
     constructor
     ·rintro ⟨q, _⟩; exact absurd q hn
     ·rintro ⟨_, e, e1, e2⟩; cases e1; exact absurd e2.symm c
    ·rw [if_neg d]; simp [d]
  ·unfold qkey
   rw [B9]
   by_cases c : x = item
   ·rw [if_pos c, if_pos c]
    simp [k3.key, aa5]
   ·rw [if_neg c, if_neg c]
    cases hx : mget M x with
    | none => rfl
    | some y =>
     have : y ≠ (E.length : Int) := fun q => hn (by rw [← q]; exact ((h.mem x y).1 hx).1)
     simp [k3.key, aa5, if_neg this]
theorem take_ok {M : List (Int × Int)} {L : List Int} {E : List En} (h : Qu M L E) (hl : 0 < L.length) (hb : L.length ≤ 1000000) (t0 : Int) :
  ∃ M' L' E' it k, p9 t0 L M E = some (M', E', L', it, k, true) ∧ Qu M' L' E' ∧ qkey M E it = some k ∧ (∀ x, qkey M' E' x = if x = it then none else qkey M E x) ∧ L'.length + 1 = L.length := by
 unfold p9
 rw [if_neg (by omega)]
 obtain ⟨L', E', z, k1, k2, k3, k4⟩ := pop_ok (t0 := t0) (M := M) h.hp hl hb
 have hz : z ∈ L := (k3.mem z).1 (by simp)
 obtain ⟨i, _, _, hi⟩ := A9 hz
 obtain ⟨e, e1, e2⟩ := h.hp i z hi
 obtain ⟨f, f1, f2, f3⟩ := k3.e z e e1
 have hm := (h.mem e.item z).2 ⟨hz, e, e1, rfl⟩
 refine ⟨mdel M f.item, L', E', f.item, f.key, by simp only [k1, oB, f1], ⟨k2, List.Nodup.sublist (mdel_sub.map _) h.keys, fun x y => ?_⟩, ?_, fun x => ?_, ?_⟩
 ·rw [mget_mdel h.keys]
  by_cases c : x = f.item
  ·rw [if_pos c]
   constructor
   ·intro q; cases q
   ·rintro ⟨a, b⟩
    have := (h.mem x y).2 ⟨(k3.mem y).1 (by simp [a]), (k3.item y x).1 b⟩
    rw [c, f2, hm] at this
    cases this; exact absurd a k4
  ·rw [if_neg c, h.mem, ← k3.mem, k3.item, List.mem_append, List.mem_singleton]
   constructor
   ·rintro ⟨a | a, b⟩
    ·exact ⟨a, b⟩
    ·subst a
     obtain ⟨g, g1, g2⟩ := b
     rw [e1] at g1; cases g1
     exact absurd (g2.symm.trans f2.symm) c
   ·rintro ⟨a, b⟩; exact ⟨.inl a, b⟩
 ·unfold qkey; rw [f2, hm]; simp [e1, f3]
 ·unfold qkey
  rw [mget_mdel h.keys]
  by_cases c : x = f.item
  ·rw [if_pos c, if_pos c]; rfl
  ·rw [if_neg c, if_neg c]
   cases mget M x with
   | none => rfl
   | some y => simp [k3.key]
 ·have := k3.len; simpa using this
theorem same_set : w3 = m9 := rfl
end Ab
end
section
namespace Ab
open Go
abbrev MpI := List (Int × Int)
def G9 (g x : Int) : Prop := Go.bits .and .u32 x g = g
def cst (c : MpI) (x : Int) : Int := (mget c x).getD 0
inductive PthW (vs : List Int) (ms : List Mk) (g : Int) : Int → Int → Prop
 | goal {x : Int} (h : x ∈ vs) (hg : G9 g x) : PthW vs ms g x 0
 | step {x k : Int} {m : Mk} (h : x ∈ vs) (hm : m ∈ ms) (hc : canW m x) (hp : PthW vs ms g (tgtW m x) k) : PthW vs ms g x (k + m.cost)
structure Gr (vs : List Int) (ms : List Mk) : Prop where
 cl : ∀ x ∈ vs, ∀ m ∈ ms, canW m x → tgtW m x ∈ vs
 co : ∀ m ∈ ms, 0 ≤ m.cost ∧ m.cost ≤ 100
 ml : ms.length ≤ 40
 vl : vs.length ≤ 2000
structure Cd (vs : List Int) (ms : List Mk) (g : Int) (c : MpI) : Prop where
 dom : ∀ x ∈ vs, ∃ k, mget c x = some k ∧ 0 ≤ k ∧ k ≤ 1000000000 ∧ (k = 1000000000 ∨ PthW vs ms g x k)
 goal : ∀ x ∈ vs, G9 g x → mget c x = some 0
structure Iv (vs : List Int) (ms : List Mk) (g : Int) (c M : MpI) (L : List Int) (E : List En) (exc : Int → Prop) : Prop where
 cd : Cd vs ms g c
 qu : Qu M L E
 qk : ∀ x k, qkey M E x = some k → x ∈ vs ∧ mget c x = some k
 arc : ∀ x ∈ vs, ∀ m ∈ ms, canW m x → ¬ exc (tgtW m x) → qkey M E (tgtW m x) = none → cst c x ≤ cst c (tgtW m x) + m.cost
theorem Iv.len {vs : List Int} {ms : List Mk} {g : Int} {c M : MpI} {L : List Int} {E : List En} {exc : Int → Prop} (h : Iv vs ms g c M L E exc) : L.length ≤ vs.length :=
 h.qu.le fun x hx => by
  cases e : qkey M E x with
  | none => exact absurd e hx
  | some k => exact (h.qk x k e).1
def sm (vs : List Int) (c : MpI) : Nat := (vs.map fun x => (cst c x).toNat).sum
theorem sum_le {α : Type} {f g : α → Nat} : ∀ {l : List α}, (∀ x ∈ l, f x ≤ g x) → (l.map f).sum ≤ (l.map g).sum
 | [], _ => by simp
 | x :: l, h => by
  have h1 := h x (by simp)
  have h2 := sum_le (l := l) fun y hy => h y (List.mem_cons_of_mem _ hy)
  simp only [List.map_cons, List.sum_cons]; omega
theorem sum_lt {α : Type} {f g : α → Nat} : ∀ {l : List α}, (∀ x ∈ l, f x ≤ g x) → (∃ x ∈ l, f x < g x) → (l.map f).sum < (l.map g).sum
 | [], _, h => by simp at h
 | x :: l, h, ⟨y, hy, hlt⟩ => by
  have h1 := h x (by simp)
  have h2 := sum_le (l := l) fun y hy => h y (List.mem_cons_of_mem _ hy)
  simp only [List.map_cons, List.sum_cons]
  rcases List.mem_cons.1 hy with rfl | hy
  ·omega
  ·have := sum_lt (l := l) (fun y hy => h y (List.mem_cons_of_mem _ hy)) ⟨y, hy, hlt⟩
   omega
theorem ac0 {c : MpI} {x v : Int} (z : Int) : cst (mset c x v) z = if z = x then v else cst c z := by
 unfold cst; rw [B9]; split <;> rfl
theorem sm_lt {vs : List Int} {c : MpI} {x v : Int} (hx : x ∈ vs) (h0 : 0 ≤ v) (hv : v < cst c x) : sm vs (mset c x v) < sm vs c := by
 refine sum_lt (fun z _ => ?_) ⟨x, hx, ?_⟩
 ·rw [ac0]
  split
  ·rename_i e; subst e; omega
  ·exact Nat.le_refl _
 ·rw [ac0, if_pos rfl]; omega
theorem relax_ok {vs : List Int} {ms : List Mk} {g : Int} {c M : MpI} {L : List Int} {E : List En} {exc : Int → Prop} (hg : Gr vs ms) (h : Iv vs ms g c M L E exc) {x v : Int} (hx : x ∈ vs) (h0 : 0 ≤ v) (hv : v < cst c x) (hp : PthW vs ms g x v) (t0 : Int) :
  ∃ M' L' E', m9 x v t0 L M E = some (M', L', E') ∧ Iv vs ms g (mset c x v) M' L' E' exc ∧ ∀ z, qkey M' E' z = if z = x then some v else qkey M E z := by
 have hlen := h.len
 have hvl := hg.vl
 obtain ⟨M', L', E', k1, k2, k3⟩ := set_ok h.qu (by omega) x v t0
 refine ⟨M', L', E', k1, ⟨⟨fun z hz => ?_, fun z hz hgz => ?_⟩, k2, fun z k hk => ?_, fun z hz m hm hc he hq => ?_⟩, k3⟩
 ·rw [B9]
  by_cases e : z = x
  ·subst e
   obtain ⟨k, q1, q2, q3, _⟩ := h.cd.dom z hz
   have : cst c z = k := by unfold cst; rw [q1]; rfl
   exact ⟨v, if_pos rfl, h0, by omega, .inr hp⟩
  ·rw [if_neg e]; exact h.cd.dom z hz
 ·rw [B9]
  by_cases e : z = x
  ·subst e
   have : cst c z = 0 := by unfold cst; rw [h.cd.goal z hz hgz]; rfl
   omega
  ·rw [if_neg e]; exact h.cd.goal z hz hgz
 ·rw [k3] at hk
  rw [B9]
  by_cases e : z = x
  ·rw [if_pos e] at hk ⊢; cases hk; exact ⟨by rw [e]; exact hx, rfl⟩
  ·rw [if_neg e] at hk ⊢; exact h.qk z k hk
 ·rw [k3] at hq
  by_cases e : tgtW m z = x
  ·rw [if_pos e] at hq; cases hq
  ·rw [if_neg e] at hq
   have := h.arc z hz m hm hc he hq
   rw [ac0, ac0, if_neg e]
   by_cases f : z = x
   ·rw [if_pos f]; subst f; omega
   ·rw [if_neg f]; exact this
abbrev Bkm := List (Int × List o8)
def BkOk (vs : List Int) (ms : List Mk) (b : Bkm) : Prop := ∀ y a, a ∈ rowM b y ↔ ∃ x ∈ vs, ∃ m ∈ ms, canW m x ∧ tgtW m x = y ∧ a = ⟨x, m.cost⟩
abbrev St5 := MpI × MpI × List En × Int × List Int
theorem relax_all {vs : List Int} {ms : List Mk} {g : Int} {b : Bkm} {c M : MpI} {L : List Int} {E : List En} {y k : Int} (hg : Gr vs ms) (hb : BkOk vs ms b) (h : Iv vs ms g c M L E (· = y)) (hy : y ∈ vs) (hk : mget c y = some k) (hq : qkey M E y = none) (t0 : Int) (bb : Bool) :
  ∃ s : St5, forR 0 ((rowM b y).length : Int) (E4 b (M, E, L, y, k, bb)) (c, M, E, t0, L) = some s ∧ Iv vs ms g s.1 s.2.1 s.2.2.2.2 s.2.2.1 (fun _ => False) ∧ ((sm vs s.1 = sm vs c ∧ s.2.2.2.2 = L) ∨ sm vs s.1 < sm vs c) := by
 obtain ⟨s, h1, h2, h3, h4, h5, h6⟩ := J6 (body := E4 b (M, E, L, y, k, bb)) (n := ((rowM b y).length : Int)) (s := ((c, M, E, t0, L) : St5))
  (fun j s => Iv vs ms g s.1 s.2.1 s.2.2.2.2 s.2.2.1 (· = y) ∧ mget s.1 y = some k ∧ qkey s.2.1 s.2.2.1 y = none ∧ (∀ i a, i < j → ix (rowM b y) i = some a → cst s.1 a.ffrom ≤ k + a.cost) ∧ ((sm vs s.1 = sm vs c ∧ s.2.2.2.2 = L) ∨ sm vs s.1 < sm vs c)) (by omega)
  ⟨h, hk, hq, fun i a hi ha => by have := (x6 ha).1; omega, .inl ⟨rfl, rfl⟩⟩ (fun j s j0 j1 hP => by
   obtain ⟨c', M', E', t', L'⟩ := s
   obtain ⟨p1, p2, p3, p4, p5⟩ := hP
   simp only at p1 p2 p3 p4 p5
   obtain ⟨a, ha, _⟩ := p8 (l := rowM b y) j0 j1
   obtain ⟨x, hx, m, hm, hc, hty, rfl⟩ := (hb y a).1 (y6 ha)
   have hco := hg.co m hm
   obtain ⟨k', q1, q2, q3, q4⟩ := p1.cd.dom y hy
   rw [p2] at q1; cases q1
   have hw : w64 (k + m.cost) = k + m.cost := A8 (by omega) (by omega)
   unfold E4
   simp only [ha, oB, hw]
   have hcx : Option.getD (mget c' x) 0 = cst c' x := rfl
   rw [hcx]
   by_cases cc : k + m.cost < cst c' x
   ·rw [if_pos cc]
    have hpy : PthW vs ms g y k := by
     rcases q4 with q4 | q4
     ·obtain ⟨k2, r1, r2, r3, _⟩ := p1.cd.dom x hx
      have : cst c' x = k2 := by unfold cst; rw [r1]; rfl
      omega
     ·exact q4
    have hxy : x ≠ y := fun e => by
     subst e
     have : cst c' x = k := by unfold cst; rw [p2]; rfl
     omega
    obtain ⟨M2, L2, E2, k1, k2, k3⟩ := relax_ok hg p1 hx (by omega) cc (.step hx hm hc (by rw [hty]; exact hpy)) t'
    rw [same_set, k1]
    have hsm := sm_lt (vs := vs) (c := c') hx (by omega) cc
    refine ⟨_, rfl, k2, ?_, ?_, fun i a' hi ha' => ?_, .inr (by simp only; rcases p5 with p5 | p5 <;> omega)⟩
    ·simp only [B9]; rw [if_neg (Ne.symm hxy)]; exact p2
    ·simp only [k3]; rw [if_neg (Ne.symm hxy)]; exact p3
    ·simp only [ac0]
     by_cases e : i = j
     ·subst e; rw [ha] at ha'; cases ha'; simp
     ·have := p4 i a' (by omega) ha'
      split
      ·rename_i f; rw [f] at this; omega
      ·exact this
   ·rw [if_neg cc]
    refine ⟨_, rfl, p1, p2, p3, fun i a' hi ha' => ?_, p5⟩
    by_cases e : i = j
    ·subst e; rw [ha] at ha'; cases ha'; simp only; omega
    ·exact p4 i a' (by omega) ha')
 refine ⟨s, h1, ⟨h2.cd, h2.qu, h2.qk, fun x hx m hm hc _ hqn => ?_⟩, h6⟩
 by_cases e : tgtW m x = y
 ·have hmem := (hb y ⟨x, m.cost⟩).2 ⟨x, hx, m, hm, hc, e, rfl⟩
  obtain ⟨i, i0, i1, hi⟩ := A9 hmem
  have := h5 i _ i1 hi
  change cst s.1 x ≤ k + m.cost at this
  rw [e]
  have e2 : cst s.1 y = k := by unfold cst; rw [h3]; rfl
  omega
 ·exact h2.arc x hx m hm hc e hqn
structure Best (vs : List Int) (ms : List Mk) (g : Int) (c : MpI) : Prop where
 cd : Cd vs ms g c
 least : ∀ x k, PthW vs ms g x k → cst c x ≤ k
theorem main_ok {vs : List Int} {ms : List Mk} {g : Int} {b : Bkm} {c M : MpI} {L : List Int} {E : List En} (hg : Gr vs ms) (hb : BkOk vs ms b) (h : Iv vs ms g c M L E fun _ => False) (t0 : Int) :
  ∃ r, Loop (E3 b) (c, M, E, t0, L) = some r ∧ Best vs ms g r := by
 have hvl := hg.vl
 refine Q8 (body := E3 b) (s := ((c, M, E, t0, L) : St5)) (fun s : St5 => Iv vs ms g s.1 s.2.1 s.2.2.2.2 s.2.2.1 fun _ => False) (fun r => Best vs ms g r)
  (fun s => sm vs s.1 * 2001 + s.2.2.2.2.length) h ?_
 rintro ⟨c, M, E, t, L⟩ p
 simp only at p
 have hlen := p.len
 unfold E3
 simp only [x5, oB]
 by_cases cl : 0 < L.length
 ·rw [if_pos (by omega)]
  obtain ⟨M', L', E', y, k, k1, k2, k3, k4, k5⟩ := take_ok p.qu cl (by omega) t
  obtain ⟨hy, hk⟩ := p.qk y k k3
  have h' : Iv vs ms g c M' L' E' (· = y) := ⟨p.cd, k2, fun x k hx => by
    rw [k4] at hx
    by_cases e : x = y
    ·rw [if_pos e] at hx; cases hx
    ·rw [if_neg e] at hx; exact p.qk x k hx, fun x hx m hm hc he hq => by
    rw [k4, if_neg he] at hq
    exact p.arc x hx m hm hc (fun q => q) hq⟩
  obtain ⟨s, s1, s2, s3⟩ := relax_all hg hb h' hy hk (by rw [k4, if_pos rfl]) t true
  have hl2 := s2.len
  simp only [k1, oB, s1]
  refine .inl ⟨s, rfl, s2, ?_⟩
  change sm vs s.1 * 2001 + s.2.2.2.2.length < sm vs c * 2001 + L.length
  rcases s3 with ⟨s3, s4⟩ | s3
  ·rw [s3, s4]; omega
  ·omega
 ·rw [if_neg (by omega)]
  refine .inr ⟨c, rfl, p.cd, ?_⟩
  have hL : L = [] := List.eq_nil_of_length_eq_zero (by omega)
  have hq : ∀ x, qkey M E x = none := fun x => by
   unfold qkey
   cases e : mget M x with
   | none => rfl
   | some z => have := ((p.qu.mem x z).1 e).1; rw [hL] at this; cases this
  intro x k hp
  induction hp with
  | goal hx hgx => unfold cst; rw [p.cd.goal _ hx hgx]; simp
  | step hx hm hc hp ih =>
   have := p.arc _ hx _ hm hc (fun q => q) (hq _)
   omega
theorem rowM_mset {b : Bkm} {k : Int} {v : List o8} (y : Int) : rowM (mset b k v) y = if y = k then v else rowM b y := by
 unfold rowM; rw [B9]; split <;> rfl
theorem back_ok {ms : List Mk} {b : Bkm} {x : Int} (hml : ms.length ≤ 40) {B : Nat} (hB : ∀ y, (rowM b y).length ≤ B) (hB' : B ≤ 1000000) :
  ∃ b', I4 ms b x = some b' ∧ (∀ y, (rowM b' y).length ≤ B + 40) ∧ ∀ y a, a ∈ rowM b' y ↔ a ∈ rowM b y ∨ ∃ m ∈ ms, canW m x ∧ tgtW m x = y ∧ a = ⟨x, m.cost⟩ := by
 unfold I4
 obtain ⟨b', h1, h2, h3⟩ := J6 (body := I5 ms x) (n := (ms.length : Int)) (s := b)
  (fun j c => (∀ y, ((rowM c y).length : Int) ≤ B + j) ∧ ∀ y a, a ∈ rowM c y ↔ a ∈ rowM b y ∨ ∃ i m, i < j ∧ ix ms i = some m ∧ canW m x ∧ tgtW m x = y ∧ a = ⟨x, m.cost⟩) (by omega)
  ⟨fun y => by have := hB y; omega, fun y a => ⟨.inl, fun q => by
   rcases q with q | ⟨i, m, hi, hm, _⟩
   ·exact q
   ·have := (x6 hm).1; omega⟩⟩ (fun j c j0 j1 hP => by
   obtain ⟨p1, p2⟩ := hP
   obtain ⟨m, hm, _⟩ := p8 j0 j1
   unfold I5
   simp only [hm, oB]
   by_cases c1 : Go.bits .and .u32 x m.pre = m.pre
   ·rw [if_pos c1]
    have ee : Go.bits .or .u32 (Go.bits .andNot .u32 x m.del) m.add = tgtW m x := rfl
    rw [ee]
    have hl := p1 (tgtW m x)
    have ha : app 16 (rowM c (tgtW m x)) [(⟨x, m.cost⟩ : o8)] = some (rowM c (tgtW m x) ++ [⟨x, m.cost⟩]) := by unfold app; rw [if_pos (by simp; omega)]
    simp only [ha, oB]
    refine ⟨_, rfl, fun y => ?_, fun y a => ?_⟩
    ·rw [rowM_mset]
     split
     ·simp; omega
     ·have := p1 y; omega
    ·rw [rowM_mset]
     have key : (∃ i m', i < j + 1 ∧ ix ms i = some m' ∧ canW m' x ∧ tgtW m' x = y ∧ a = ⟨x, m'.cost⟩) ↔ (∃ i m', i < j ∧ ix ms i = some m' ∧ canW m' x ∧ tgtW m' x = y ∧ a = ⟨x, m'.cost⟩) ∨ (tgtW m x = y ∧ a = ⟨x, m.cost⟩) := by
      constructor
      ·rintro ⟨i, m', q1, q2, q3, q4, q5⟩
       by_cases e : i = j
       ·subst e; rw [hm] at q2; cases q2; exact .inr ⟨q4, q5⟩
       ·exact .inl ⟨i, m', by omega, q2, q3, q4, q5⟩
      ·rintro (⟨i, m', q1, q2⟩ | ⟨q1, q2⟩)
       ·exact ⟨i, m', by omega, q2⟩
       ·exact ⟨j, m, by omega, hm, c1, q1, q2⟩
     rw [key]
     by_cases e : y = tgtW m x
     ·rw [if_pos e, List.mem_append, List.mem_singleton, ← e, p2]
      simp [or_assoc]
     ·rw [if_neg e, p2]
      have : ¬ tgtW m x = y := fun q => e q.symm
      simp [this]
   ·rw [if_neg c1]
    refine ⟨_, rfl, fun y => by have := p1 y; omega, fun y a => ?_⟩
    rw [p2]
    refine or_congr_right ⟨?_, ?_⟩
    ·rintro ⟨i, m', q1, q2⟩; exact ⟨i, m', by omega, q2⟩
    ·rintro ⟨i, m', q1, q2, q3, q4⟩
     by_cases e : i = j
     ·subst e; rw [hm] at q2; cases q2; exact absurd q3 c1
     ·exact ⟨i, m', by omega, q2, q3, q4⟩)
 refine ⟨b', by rw [h1]; rfl, fun y => by have := h2 y; omega, fun y a => ?_⟩
 rw [h3]
 refine or_congr_right ⟨?_, ?_⟩
 ·rintro ⟨i, m, _, q2, q3⟩; exact ⟨m, y6 q2, q3⟩
 ·rintro ⟨m, q2, q3⟩
  obtain ⟨i, _, i1, hi⟩ := A9 q2
  exact ⟨i, m, i1, hi, q3⟩
abbrev St6 := Bkm × MpI × MpI × List En × Int × List Int
theorem first_ok {vs : List Int} {ms : List Mk} (start g : Int) (hg : Gr vs ms) :
  ∃ s : St6, forR 0 (vs.length : Int) (D9 vs start g ms) ([], [], [], [], 0, []) = some s ∧ BkOk vs ms s.1 ∧ Iv vs ms g s.2.1 s.2.2.1 s.2.2.2.2.2 s.2.2.2.1 fun _ => False := by
 have hvl := hg.vl
 have hml := hg.ml
 obtain ⟨s, h1, h2, h3, h4, h5, h6⟩ := J6 (body := D9 vs start g ms) (n := (vs.length : Int)) (s := (([], [], [], [], 0, []) : St6))
  (fun j s => (∀ y a, a ∈ rowM s.1 y ↔ ∃ x ∈ vs.take j.toNat, ∃ m ∈ ms, canW m x ∧ tgtW m x = y ∧ a = ⟨x, m.cost⟩) ∧ (∀ y, (rowM s.1 y).length ≤ j.toNat * 40) ∧
   (∀ x, x ∈ vs.take j.toNat → mget s.2.1 x = some (if dec (G9 g x) = true then 0 else 1000000000)) ∧ Qu s.2.2.1 s.2.2.2.2.2 s.2.2.2.1 ∧ ∀ x, qkey s.2.2.1 s.2.2.2.1 x = if dec (x ∈ vs.take j.toNat ∧ G9 g x) = true then some 0 else none) (by omega)
  ⟨fun y a => by simp [rowM, mget], fun y => by simp [rowM, mget], by simp, Qu.nil, fun x => by simp [qkey, mget, dec]⟩ (fun j s j0 j1 hP => by
   obtain ⟨b, c, M, E, t, L⟩ := s
   obtain ⟨p1, p2, p3, p4, p5⟩ := hP
   simp only at p1 p2 p3 p4 p5
   obtain ⟨x, hx, gx⟩ := p8 j0 j1
   have hj : (j + 1).toNat = j.toNat + 1 := by omega
   have htk : vs.take (j + 1).toNat = vs.take j.toNat ++ [x] := by rw [hj, List.take_add_one, gx]; rfl
   have hlen : L.length ≤ vs.length := p4.le fun z hz => by
    rw [p5] at hz
    by_cases e : z ∈ vs.take j.toNat ∧ G9 g z
    ·exact List.mem_of_mem_take e.1
    ·rw [if_neg (by rw [x9 e]; simp)] at hz; exact absurd rfl hz
   obtain ⟨b', b1, b2, b3⟩ := back_ok (x := x) hml (B := j.toNat * 40) p2 (by omega)
   have hback : ∀ y a, a ∈ rowM b' y ↔ ∃ x ∈ vs.take (j + 1).toNat, ∃ m ∈ ms, canW m x ∧ tgtW m x = y ∧ a = ⟨x, m.cost⟩ := fun y a => by
    rw [b3, p1, htk]
    simp only [List.mem_append, List.mem_singleton, or_and_right, exists_or, exists_eq_left]
   have hrow : ∀ y, (rowM b' y).length ≤ (j + 1).toNat * 40 := fun y => by have := b2 y; omega
   unfold D9
   simp only [hx, oB, G4, x7]
   by_cases cg : Go.bits .and .u32 x g = g
   ·rw [if_pos cg]
    have cg' : G9 g x := cg
    obtain ⟨M', L', E', k1, k2, k3⟩ := set_ok p4 (by omega) x 0 t
    simp only [k1, oB, b1]
    refine ⟨_, rfl, hback, hrow, fun z hz => ?_, k2, fun z => ?_⟩
    ·simp only [B9]
     by_cases e : z = x
     ·subst e; rw [if_pos rfl, if_pos (l8 cg')]
     ·rw [if_neg e, if_neg e]
      refine p3 z ?_
      rw [htk] at hz; simp [e] at hz; exact hz
    ·simp only [k3, p5, htk]
     by_cases e : z = x
     ·subst e; rw [if_pos rfl, if_pos (l8 ⟨by simp, cg'⟩)]
     ·rw [if_neg e]
      have : (z ∈ vs.take j.toNat ++ [x] ∧ G9 g z) ↔ (z ∈ vs.take j.toNat ∧ G9 g z) := by simp [e]
      rw [H6 this]
   ·rw [if_neg cg]
    have cg' : ¬ G9 g x := cg
    simp only [oB, b1]
    refine ⟨_, rfl, hback, hrow, fun z hz => ?_, p4, fun z => ?_⟩
    ·simp only [B9]
     by_cases e : z = x
     ·subst e; rw [if_pos rfl, if_neg (by rw [x9 cg']; simp)]
     ·rw [if_neg e]
      refine p3 z ?_
      rw [htk] at hz; simp [e] at hz; exact hz
    ·simp only [p5, htk]
     have : (z ∈ vs.take j.toNat ++ [x] ∧ G9 g z) ↔ (z ∈ vs.take j.toNat ∧ G9 g z) := by
      constructor
      ·rintro ⟨q1, q2⟩
       rcases List.mem_append.1 q1 with q1 | q1
       ·exact ⟨q1, q2⟩
       ·simp at q1; subst q1; exact absurd q2 cg'
      ·rintro ⟨q1, q2⟩; exact ⟨List.mem_append_left _ q1, q2⟩
     rw [H6 this])
 have ht : vs.take (vs.length : Int).toNat = vs := by rw [Int.toNat_natCast, List.take_length]
 rw [ht] at h2 h4 h6
 have hc : ∀ x ∈ vs, ¬ G9 g x → mget s.2.1 x = some 1000000000 := fun x hx hn => by rw [h4 x hx, if_neg (by rw [x9 hn]; simp)]
 have hc0 : ∀ x ∈ vs, G9 g x → mget s.2.1 x = some 0 := fun x hx hn => by rw [h4 x hx, if_pos (l8 hn)]
 refine ⟨s, h1, h2, ⟨fun x hx => ?_, hc0⟩, h5, fun x k hk => ?_, fun x hx m hm hcan _ hq => ?_⟩
 ·by_cases e : G9 g x
  ·exact ⟨0, hc0 x hx e, by omega, by omega, .inr (.goal hx e)⟩
  ·exact ⟨1000000000, hc x hx e, by omega, by omega, .inl rfl⟩
 ·rw [h6] at hk
  by_cases e : x ∈ vs ∧ G9 g x
  ·rw [if_pos (l8 e)] at hk; cases hk; exact ⟨e.1, hc0 x e.1 e.2⟩
  ·rw [if_neg (by rw [x9 e]; simp)] at hk; cases hk
 ·have hy := hg.cl x hx m hm hcan
  rw [h6] at hq
  have hn : ¬ G9 g (tgtW m x) := fun q => by rw [if_pos (l8 ⟨hy, q⟩)] at hq; cases hq
  have h0 := (hg.co m hm).1
  unfold cst
  rw [hc _ hy hn, h4 x hx]
  simp only [Option.getD_some]
  split <;> omega
theorem costs_ok {vs : List Int} {ms : List Mk} (start g : Int) (hg : Gr vs ms) : ∃ c, J0 vs start g ms = some c ∧ Best vs ms g c := by
 unfold J0
 obtain ⟨s, s1, s2, s3⟩ := first_ok start g hg
 obtain ⟨r, r1, r2⟩ := main_ok hg s2 s3 s.2.2.2.2.1
 refine ⟨r, ?_, r2⟩
 obtain ⟨a, b, c, d, e, f⟩ := s
 simp only [C7, oB, s1]
 rw [r1]; rfl
end Ab
end
section
namespace Ab
open Go
def Val (t : d7) (plan : List Int) : Prop := ∀ x ∈ plan, (0 : Int) ≤ x ∧ x < t.operators.length
def B4 (t : d7) : List Int → Int
 | [] => 0
 | op :: r => B4 t r + (opAt t op).cost
def Few (t : d7) : Prop := ∃ l : List (List Int), l.Nodup ∧ l.length ≤ 2000 ∧ ∀ s, s ∈ l ↔ Rt t s
theorem ah7 {t : d7} (ht : i5 t) : ∀ {plan : List Int}, Val t plan → 0 ≤ B4 t plan
 | [], _ => by simp [B4]
 | op :: r, h => by
  have h1 := ah7 ht (plan := r) fun x hx => h x (List.mem_cons_of_mem _ hx)
  have h2 := h op (by simp)
  have h3 := (Q6 ht h2.1 h2.2).2.1
  simp only [B4]; omega
section
variable {t : d7} {vs : List Int}
theorem pth_of (ht : i5 t) (hv : ∀ x, x ∈ vs ↔ Rwd t x) : ∀ {plan s : List Int}, Rt t s → Val t plan → I7 t s plan → PthW vs (mks t) (wd t.goal) (wd s) (B4 t plan)
 | [], s, hs, _, ⟨e, h1, h2⟩ => by
  simp only [ends, Option.some.injEq] at h1; subst h1
  exact .goal ((hv _).2 ⟨s, hs, rfl⟩) ((sub_word (hs.setN ht) ht.goal ht.n1).2 h2)
 | op :: r, s, hs, hp, ⟨e, h1, h2⟩ => by
  have h3 := hp op (by simp)
  simp only [ends] at h1
  split at h1
  ·rename_i hc
   have hc := k7.1 hc
   have ih := pth_of ht hv (plan := r) (hs.step h3.1 h3.2 hc) (fun x hx => hp x (List.mem_cons_of_mem _ hx)) ⟨e, h1, h2⟩
   rw [← tgtW_eq ht (hs.setN ht) h3.1 h3.2] at ih
   exact .step ((hv _).2 ⟨s, hs, rfl⟩) (mks_of h3.1 h3.2) ((ag2 ht (hs.setN ht) h3.1 h3.2).2 hc) ih
  ·cases h1
theorem plan_of (ht : i5 t) {x k : Int} (h : PthW vs (mks t) (wd t.goal) x k) : ∀ {s : List Int}, Rt t s → x = wd s → ∃ plan, Val t plan ∧ I7 t s plan ∧ B4 t plan = k := by
 induction h with
 | goal hx hg =>
  intro s hs e; subst e
  exact ⟨[], by simp [Val], ⟨s, rfl, (sub_word (hs.setN ht) ht.goal ht.n1).1 hg⟩, rfl⟩
 | step hx hm hc hp ih =>
  intro s hs e; subst e
  obtain ⟨op, h0, h1, rfl⟩ := mks_mem hm
  have hcan := (ag2 ht (hs.setN ht) h0 h1).1 hc
  obtain ⟨plan, p1, ⟨e, p2, p3⟩, p4⟩ := ih (hs.step h0 h1 hcan) (tgtW_eq ht (hs.setN ht) h0 h1)
  refine ⟨op :: plan, fun y hy => ?_, ⟨e, ?_, p3⟩, by simp [B4, p4, mkOf]⟩
  ·rcases List.mem_cons.1 hy with rfl | hy
   ·exact ⟨h0, h1⟩
   ·exact p1 y hy
  ·simp only [ends]; rw [if_pos (l8 hcan)]; exact p2
end
/-! ### A way that is not long -/
inductive Hop (vs : List Int) (ms : List Mk) (g : Int) : Nat → Int → Prop
 | goal {x : Int} (h : x ∈ vs) (hg : G9 g x) : Hop vs ms g 0 x
 | step {x : Int} {n : Nat} {m : Mk} (h : x ∈ vs) (hm : m ∈ ms) (hc : canW m x) (hp : Hop vs ms g n (tgtW m x)) : Hop vs ms g (n + 1) x
section
variable {vs : List Int} {ms : List Mk} {g : Int}
theorem Hop.of {x k : Int} (h : PthW vs ms g x k) : ∃ n, Hop vs ms g n x := by
 induction h with
 | goal hx hg => exact ⟨0, .goal hx hg⟩
 | step hx hm hc _ ih => obtain ⟨n, hn⟩ := ih; exact ⟨n + 1, .step hx hm hc hn⟩
theorem Hop.mem {n : Nat} {x : Int} (h : Hop vs ms g n x) : x ∈ vs := by cases h <;> assumption
theorem Hop.cost (hg : Gr vs ms) {n : Nat} {x : Int} (h : Hop vs ms g n x) : ∃ k, PthW vs ms g x k ∧ k ≤ 100 * n := by
 induction h with
 | goal hx hgx => exact ⟨0, .goal hx hgx, by omega⟩
 | step hx hm hc _ ih =>
  obtain ⟨k, k1, k2⟩ := ih
  have := hg.co _ hm
  exact ⟨_, .step hx hm hc k1, by push_cast; omega⟩
def MHop (vs : List Int) (ms : List Mk) (g : Int) (n : Nat) (x : Int) : Prop := Hop vs ms g n x ∧ ∀ m, m < n → ¬ Hop vs ms g m x
theorem MHop.of : ∀ {n : Nat} {x : Int}, Hop vs ms g n x → ∃ m, m ≤ n ∧ MHop vs ms g m x := by
 intro n
 induction n using Nat.strongRecOn with
 | _ n ih =>
  intro x h
  by_cases c : ∃ m, m < n ∧ Hop vs ms g m x
  ·obtain ⟨m, m1, m2⟩ := c
   obtain ⟨q, q1, q2⟩ := ih m m1 m2
   exact ⟨q, by omega, q2⟩
  ·exact ⟨n, Nat.le_refl _, h, fun m hm hh => c ⟨m, hm, hh⟩⟩
theorem MHop.chain : ∀ {n : Nat} {x : Int}, MHop vs ms g n x → ∃ l : List Int, l.length = n + 1 ∧ l.Nodup ∧ ∀ y ∈ l, y ∈ vs ∧ ∃ m, m ≤ n ∧ MHop vs ms g m y
 | 0, x, h => ⟨[x], rfl, by simp, fun y hy => by simp at hy; subst hy; exact ⟨h.1.mem, 0, Nat.le_refl _, h⟩⟩
 | n + 1, x, h => by
  cases h.1 with
  | @step _ _ m hx hm hc hp =>
   have h' : MHop vs ms g n (tgtW m x) := ⟨hp, fun q hq hh => h.2 (q + 1) (by omega) (.step hx hm hc hh)⟩
   obtain ⟨l, l1, l2, l3⟩ := MHop.chain h'
   refine ⟨x :: l, by simp [l1], List.nodup_cons.2 ⟨fun hxl => ?_, l2⟩, fun y hy => ?_⟩
   ·obtain ⟨_, q, q1, q2⟩ := l3 x hxl
    exact h.2 q (by omega) q2.1
   ·rcases List.mem_cons.1 hy with rfl | hy
    ·exact ⟨hx, n + 1, Nat.le_refl _, h⟩
    ·obtain ⟨y1, q, q1, q2⟩ := l3 y hy
     exact ⟨y1, q, by omega, q2⟩
theorem pth_small (hg : Gr vs ms) {x k : Int} (h : PthW vs ms g x k) : ∃ k', PthW vs ms g x k' ∧ k' ≤ 199900 := by
 obtain ⟨n, hn⟩ := Hop.of h
 obtain ⟨m, _, hm⟩ := MHop.of hn
 obtain ⟨l, l1, l2, l3⟩ := hm.chain
 have := S2 l2 (S := vs) fun y hy => (l3 y hy).1
 have hv := hg.vl
 obtain ⟨k', k1, k2⟩ := hm.1.cost hg
 exact ⟨k', k1, by omega⟩
end
theorem words_of {t : d7} (ht : i5 t) {vs : List Int} (hl : vs.length ≤ 2000) (hv : ∀ x, x ∈ vs ↔ Rwd t x) : Gr vs (mks t) := ⟨fun x hx m hm hc => (hv _).2 (((hv x).1 hx).next ht hm hc), fun m hm => by
 obtain ⟨op, h0, h1, rfl⟩ := mks_mem hm
 exact (Q6 ht h0 h1).2, by simp [mks]; exact ht.ops, hl⟩
theorem few_of {t : d7} (ht : i5 t) {vs : List Int} (hn : vs.Nodup) (hl : vs.length ≤ 2000) (hv : ∀ x, x ∈ vs ↔ Rwd t x) : Few t := by
 obtain ⟨ss, h1, h2⟩ := states_of (t := t) (l := vs) fun x hx => (hv x).1 hx
 refine ⟨ss, ab3 (f := wd) (by rw [h1]; exact hn), ?_, fun s => ⟨h2 s, fun hs => ?_⟩⟩
 ·have := congrArg List.length h1
  simp only [List.length_map] at this; omega
 ·have : wd s ∈ ss.map wd := by rw [h1]; exact (hv _).2 ⟨s, hs, rfl⟩
  obtain ⟨s', s1, s2⟩ := List.mem_map.1 this
  rw [wd_inj ht (hs.setN ht) ((h2 s' s1).setN ht) s2.symm]; exact s1
theorem checked_spec (t : d7) : (¬ i5 t ∧ ∃ f, o4 t = some f ∧ f.code ≠ 0 ∧ z7 t = some (.inl (f.code, f.index))) ∨ (i5 t ∧ Many t ∧ z7 t = some (.inl (10, -7))) ∨
  (i5 t ∧ Few t ∧ ∃ vs : List Int, vs.Nodup ∧ vs.length ≤ 2000 ∧ (∀ x, x ∈ vs ↔ Rwd t x) ∧ z7 t = some (.inr (wd t.init, wd t.goal, mks t, vs))) := by
 obtain ⟨f, h1, _, h3⟩ := W8 t
 unfold z7
 rw [h1]
 simp only [oB]
 rcases h3 with ⟨rfl, ht⟩ | ⟨hc, hn⟩
 ·rw [if_neg (by simp), of_eq ht]
  obtain ⟨l, b, a1, a2, a3⟩ := all_spec ht (wd t.goal)
  simp only [oB, a1]
  cases b with
  | false => exact .inr (.inl ⟨ht, a2 rfl, rfl⟩)
  | true =>
   obtain ⟨q1, q2, q3⟩ := a3 rfl
   obtain ⟨vs, v1, v2⟩ := sortW (l := l) (by omega) (fun x hx => by
    obtain ⟨s, s1, rfl⟩ := (q3 x).1 hx
    exact wd_u32 ht (s1.setN ht))
   have hv : ∀ x, x ∈ vs ↔ Rwd t x := fun x => v2.mem_iff.trans (q3 x)
   have hvn : vs.Nodup := v2.nodup_iff.2 q1
   have hvl : vs.length ≤ 2000 := by rw [v2.length_eq]; exact q2
   exact .inr (.inr ⟨ht, few_of ht hvn hvl hv, vs, hvn, hvl, hv, by simp [v1]⟩)
 ·rw [if_pos (by simp [hc])]
  exact .inl ⟨hn, f, rfl, hc, rfl⟩
inductive OptR (t : d7) : Int × f4 → Prop
 | bad {f : f4} (h : ¬ i5 t) (hf : o4 t = some f) (hc : f.code ≠ 0) : OptR t (0, f)
 | many (h : i5 t) (hm : Many t) : OptR t (0, ⟨10, -7⟩)
 | none (h : i5 t) (hf : Few t) (hn : ∀ plan, Val t plan → ¬ I7 t t.init plan) : OptR t (1000000000, ⟨0, 0⟩)
 | some {k : Int} {plan : List Int} (h : i5 t) (hf : Few t) (h0 : 0 ≤ k) (h1 : k ≤ 199900) (hv : Val t plan) (hw : I7 t t.init plan) (hk : B4 t plan = k) (hl : ∀ p, Val t p → I7 t t.init p → k ≤ B4 t p) : OptR t (k, ⟨0, 0⟩)
theorem U2 (t : d7) : ∃ r, y4 t = some r ∧ OptR t r := by
 unfold y4
 rcases checked_spec t with ⟨h, f, h1, h2, h3⟩ | ⟨h, h1, h2⟩ | ⟨ht, h1, vs, v1, v2, v3, h2⟩
 ·rw [h3]
  simp only [oB]
  rw [if_pos (by simp [h2])]
  exact ⟨_, rfl, .bad h h1 h2⟩
 ·rw [h2]
  simp only [oB]
  rw [if_pos (by simp)]
  exact ⟨_, rfl, .many h h1⟩
 ·rw [h2]
  simp only [oB]
  rw [if_neg (by simp)]
  have hg := words_of ht v2 v3
  obtain ⟨c, c1, c2⟩ := costs_ok (wd t.init) (wd t.goal) hg
  simp only [c1, oB, t1]
  have hi : wd t.init ∈ vs := (v3 _).2 ⟨_, .init, rfl⟩
  obtain ⟨k, k1, k2, k3, k4⟩ := c2.cd.dom _ hi
  have hck : cst c (wd t.init) = k := by unfold cst; rw [k1]; rfl
  refine ⟨_, rfl, ?_⟩
  rw [k1]
  simp only [Option.getD_some]
  by_cases e : ∃ k', PthW vs (mks t) (wd t.goal) (wd t.init) k'
  ·obtain ⟨k0, e⟩ := e
   obtain ⟨k', e1, e2⟩ := pth_small hg e
   have hle := c2.least _ _ e1
   rcases k4 with k4 | k4
   ·omega
   ·obtain ⟨plan, p1, p2, p3⟩ := plan_of ht k4 .init rfl
    refine .some ht h1 k2 (by omega) p1 p2 p3 fun p q1 q2 => ?_
    have := c2.least _ _ (pth_of ht v3 .init q1 q2)
    omega
  ·rcases k4 with rfl | k4
   ·exact .none ht h1 fun p q1 q2 => e ⟨_, pth_of ht v3 .init q1 q2⟩
   ·exact absurd ⟨_, k4⟩ e
end Ab
end
section
namespace Ab
open Go
def reqT (t : d7) (op : Int) : d7 := ⟨t.facts + 1, t.init, t.goal ++ [t.facts], t.operators.set op.toNat ⟨(opAt t op).pre, (opAt t op).add ++ [t.facts], (opAt t op).del, (opAt t op).cost⟩⟩
def forT (t : d7) (op : Int) : d7 := ⟨t.facts, t.init, t.goal, t.operators.take op.toNat ++ t.operators.drop (op.toNat + 1)⟩
theorem X2 {l : List Int} (h : l.length ≤ 1000000) : i9 l = some l := by
 unfold i9 app
 rw [if_pos (by simp; omega)]; rfl
theorem SetN.len24 {l : List Int} {n : Int} (h : SetN l n) (hn : n ≤ 24) : l.length ≤ 24 := by have := h.len; omega
theorem cclone_body {t : d7} (ht : i5 t) {j : Int} (j0 : 0 ≤ j) (j1 : j < t.operators.length) : C2 t j (t.operators.take j.toNat) = some (t.operators.take (j + 1).toNat) := by
 have ho := Q6 ht j0 j1
 have hx := ix_op j0 j1
 have ga := (x6 hx).2.2
 have hl := ht.ops
 have htk : t.operators.take (j + 1).toNat = t.operators.take j.toNat ++ [opAt t j] := by rw [show (j + 1).toNat = j.toNat + 1 by omega, List.take_add_one, ga]; rfl
 have h1 := ho.1.1.len24 ht.n1
 have h2 := ho.1.2.1.len24 ht.n1
 have h3 := ho.1.2.2.1.len24 ht.n1
 unfold C2
 simp only [hx, oB, X2 (show (opAt t j).pre.length ≤ 1000000 by omega), X2 (show (opAt t j).add.length ≤ 1000000 by omega), X2 (show (opAt t j).del.length ≤ 1000000 by omega)]
 rw [app, if_pos (by simp; omega), htk]; rfl
theorem cclone_eq {t : d7} (ht : i5 t) : D0 t = some (t.init, t.goal, t.operators) := by
 unfold D0
 have h1 := ht.init.len24 ht.n1
 have h2 := ht.goal.len24 ht.n1
 simp only [X2 (show t.init.length ≤ 1000000 by omega), X2 (show t.goal.length ≤ 1000000 by omega), oB]
 obtain ⟨r, r1, rfl⟩ := J6 (body := C2 t) (n := (t.operators.length : Int)) (s := []) (fun j c => c = t.operators.take j.toNat) (by omega) (by simp) (fun j c j0 j1 hP => ⟨_, by rw [hP]; exact cclone_body ht j0 j1, rfl⟩)
 rw [r1, Int.toNat_natCast, List.take_length]; rfl
theorem clone_same : J8 = D0 := rfl
end Ab
end
section
namespace Ab
open Go
def up (n : Int) (s : List Int) (b : Bool) : List Int := s ++ if b = true then [n] else []
theorem U8 {n x : Int} {s : List Int} {b : Bool} : x ∈ up n s b ↔ x ∈ s ∨ b = true ∧ x = n := by
 unfold up; cases b <;> simp
theorem setN_up {n : Int} {s : List Int} {b : Bool} (h0 : 0 ≤ n) (h : SetN s n) : SetN (up n s b) (n + 1) := by
 refine ⟨?_, fun x hx => ?_⟩
 ·unfold up
  refine List.pairwise_append.2 ⟨h.1, by cases b <;> simp, fun a ha c hc => ?_⟩
  have := h.2 a ha
  cases b
  ·simp at hc
  ·simp at hc; omega
 ·rcases U8.1 hx with hx | ⟨_, rfl⟩
  ·have := h.2 x hx; omega
  ·omega
section
variable {t : d7} {op : Int}
theorem req_len : (reqT t op).operators.length = t.operators.length := by simp [reqT]
theorem ac1 (h0 : 0 ≤ op) (h1 : op < t.operators.length) {q : Int} (q0 : 0 ≤ q) : opAt (reqT t op) q = if q = op then ⟨(opAt t op).pre, (opAt t op).add ++ [t.facts], (opAt t op).del, (opAt t op).cost⟩ else opAt t q := by
 show ((t.operators.set op.toNat _)[q.toNat]?).getD noOp = _
 rw [List.getElem?_set]
 by_cases e : q = op
 ·subst e; rw [if_pos rfl, if_pos rfl, if_pos (by omega)]; rfl
 ·rw [if_neg e, if_neg (by omega)]; rfl
theorem pre_req (h0 : 0 ≤ op) (h1 : op < t.operators.length) {q : Int} (q0 : 0 ≤ q) : (opAt (reqT t op) q).pre = (opAt t q).pre := by
 rw [ac1 h0 h1 q0]; split
 ·rename_i e; rw [e]
 ·rfl
theorem del_req (h0 : 0 ≤ op) (h1 : op < t.operators.length) {q : Int} (q0 : 0 ≤ q) : (opAt (reqT t op) q).del = (opAt t q).del := by
 rw [ac1 h0 h1 q0]; split
 ·rename_i e; rw [e]
 ·rfl
theorem cost_req (h0 : 0 ≤ op) (h1 : op < t.operators.length) {q : Int} (q0 : 0 ≤ q) : (opAt (reqT t op) q).cost = (opAt t q).cost := by
 rw [ac1 h0 h1 q0]; split
 ·rename_i e; rw [e]
 ·rfl
theorem add_req (h0 : 0 ≤ op) (h1 : op < t.operators.length) {q x : Int} (q0 : 0 ≤ q) : x ∈ (opAt (reqT t op) q).add ↔ x ∈ (opAt t q).add ∨ q = op ∧ x = t.facts := by
 rw [ac1 h0 h1 q0]; split
 ·rename_i e; subst e; simp
 ·rename_i e; simp [e]
theorem can_req (ht : i5 t) (h0 : 0 ≤ op) (h1 : op < t.operators.length) {q : Int} (q0 : 0 ≤ q) (q1 : q < t.operators.length) {s : List Int} {b : Bool} : can (reqT t op) (up t.facts s b) q ↔ can t s q := by
 unfold can
 rw [pre_req h0 h1 q0]
 have hp := (Q6 ht q0 q1).1.1
 refine ⟨fun h x hx => ?_, fun h x hx => U8.2 (.inl (h x hx))⟩
 rcases U8.1 (h x hx) with k | ⟨_, rfl⟩
 ·exact k
 ·have := hp.2 _ hx; omega
theorem aft_req (ht : i5 t) (h0 : 0 ≤ op) (h1 : op < t.operators.length) {q : Int} (q0 : 0 ≤ q) (q1 : q < t.operators.length) {s : List Int} {b : Bool} (hs : SetN s t.facts) : aft (reqT t op) (up t.facts s b) q = up t.facts (aft t s q) (b || decide (q = op)) := by
 obtain ⟨k1, k2, k3, k4⟩ := (Q6 ht q0 q1).1
 refine ((setN_up ht.n0 (ab0 t s q)).eq_of fun x x0 x1 => ?_).symm
 rw [add_req h0 h1 q0, del_req h0 h1 q0, U8, U8]
 unfold aft
 rw [F1]
 have d1 : t.facts ∉ (opAt t q).del := fun h => by have := k3.2 _ h; omega
 have d2 : t.facts ∉ (opAt t q).add := fun h => by have := k2.2 _ h; omega
 have d3 : t.facts ∉ s := fun h => by have := hs.2 _ h; omega
 by_cases e : x = t.facts
 ·subst e; simp [d1, d2, d3, or_comm]
 ·have : x < t.facts := by change x < t.facts + 1 at x1; omega
  simp [e, x0, this]
theorem ends_req (ht : i5 t) (h0 : 0 ≤ op) (h1 : op < t.operators.length) : ∀ {p s : List Int} {b : Bool}, SetN s t.facts → Val t p → ends (reqT t op) (up t.facts s b) p = (ends t s p).map fun e => up t.facts e (b || decide (op ∈ p))
 | [], s, b, _, _ => by simp [ends]
 | q :: p, s, b, hs, hv => by
  have hq := hv q (by simp)
  simp only [ends]
  rw [H6 (can_req ht h0 h1 hq.1 hq.2)]
  split
  ·rw [aft_req ht h0 h1 hq.1 hq.2 hs, ends_req ht h0 h1 (ab0 t s q) (fun x hx => hv x (List.mem_cons_of_mem _ hx))]
   have : (b || decide (q = op) || decide (op ∈ p)) = (b || decide (op ∈ q :: p)) := by
    rw [Bool.or_assoc]; congr 1
    rw [← Bool.decide_or]; apply decide_eq_decide.2
    rw [List.mem_cons, eq_comm]
   rw [this]
  ·rfl
theorem works_req (ht : i5 t) (h0 : 0 ≤ op) (h1 : op < t.operators.length) {p s : List Int} {b : Bool} (hs : SetN s t.facts) (hv : Val t p) : I7 (reqT t op) (up t.facts s b) p ↔ I7 t s p ∧ (b = true ∨ op ∈ p) := by
 unfold I7
 rw [ends_req ht h0 h1 hs hv]
 have hg : ∀ x ∈ t.goal, x < t.facts := fun x hx => (ht.goal.2 x hx).2
 constructor
 ·rintro ⟨e, e1, e2⟩
  cases e' : ends t s p with
  | none => rw [e'] at e1; cases e1
  | some u =>
   rw [e'] at e1
   simp only [Option.map_some, Option.some.injEq] at e1
   subst e1
   have hu := ends_setN hs e'
   refine ⟨⟨u, rfl, fun x hx => ?_⟩, ?_⟩
   ·rcases U8.1 (e2 x (List.mem_append_left _ hx)) with k | ⟨_, rfl⟩
    ·exact k
    ·have := hg _ hx; omega
   ·rcases U8.1 (e2 t.facts (List.mem_append_right _ (by simp))) with k | ⟨k, _⟩
    ·have := hu.2 _ k; omega
    ·simpa using k
 ·rintro ⟨⟨u, u1, u2⟩, k⟩
  rw [u1]
  refine ⟨_, rfl, fun x hx => ?_⟩
  rcases List.mem_append.1 hx with hx | hx
  ·exact U8.2 (.inl (u2 x hx))
  ·exact U8.2 (.inr ⟨by simpa using k, by simpa using hx⟩)
theorem val_req {p : List Int} : Val (reqT t op) p ↔ Val t p := by unfold Val; rw [req_len]
theorem pcost_req (h0 : 0 ≤ op) (h1 : op < t.operators.length) : ∀ {p : List Int}, Val t p → B4 (reqT t op) p = B4 t p
 | [], _ => rfl
 | q :: p, hv => by
  simp only [B4]
  rw [cost_req h0 h1 (hv q (by simp)).1, pcost_req h0 h1 fun x hx => hv x (List.mem_cons_of_mem _ hx)]
theorem works_req0 (ht : i5 t) (h0 : 0 ≤ op) (h1 : op < t.operators.length) {p : List Int} (hv : Val t p) : I7 (reqT t op) (reqT t op).init p ↔ I7 t t.init p ∧ op ∈ p := by
 have := works_req ht h0 h1 (b := false) ht.init hv
 have e : up t.facts t.init false = (reqT t op).init := by simp [up, reqT]
 rw [e] at this; rw [this]; simp
theorem SetN.weak {l : List Int} {n m : Int} (h : SetN l n) (hm : n ≤ m) : SetN l m := ⟨h.1, fun x hx => by have := h.2 x hx; omega⟩
theorem req_ok (ht : i5 t) (h0 : 0 ≤ op) (h1 : op < t.operators.length) (hf : t.facts < 24) : i5 (reqT t op) where
 n0 := by have := ht.n0; show 0 ≤ t.facts + 1; omega
 n1 := by show t.facts + 1 ≤ 24; omega
 init := ht.init.weak (by show t.facts ≤ t.facts + 1; omega)
 goal := by
  have := setN_up (b := true) ht.n0 ht.goal
  simpa [up, reqT] using this
 ops := by rw [req_len]; exact ht.ops
 op := fun o ho => by
  obtain ⟨q, q0, q1, q2⟩ := A9 ho
  rw [req_len] at q1
  rw [ix_op q0 (by rw [req_len]; exact q1)] at q2
  cases q2
  obtain ⟨⟨k1, k2, k3, k4⟩, k5⟩ := Q6 ht q0 q1
  have hle : t.facts ≤ (reqT t op).facts := by show t.facts ≤ t.facts + 1; omega
  refine ⟨⟨by rw [pre_req h0 h1 q0]; exact k1.weak hle, ?_, by rw [del_req h0 h1 q0]; exact k3.weak hle, fun x hx => ?_⟩, by unfold P8; rw [cost_req h0 h1 q0]; exact k5⟩
  ·rw [ac1 h0 h1 q0]
   split
   ·rename_i e; subst e
    have := setN_up (b := true) ht.n0 k2
    simpa [up, reqT] using this
   ·exact k2.weak hle
  ·rw [del_req h0 h1 q0]
   rcases (add_req h0 h1 q0).1 hx with hx | ⟨_, rfl⟩
   ·exact k4 x hx
   ·exact fun h => by have := k3.2 _ h; omega
theorem rt_req (ht : i5 t) (h0 : 0 ≤ op) (h1 : op < t.operators.length) {s : List Int} (h : Rt (reqT t op) s) : ∃ u b, Rt t u ∧ s = up t.facts u b := by
 induction h with
 | init => exact ⟨t.init, false, .init, by simp [up, reqT]⟩
 | @step s q h q0 q1 hc ih =>
  obtain ⟨u, b, hu, rfl⟩ := ih
  rw [req_len] at q1
  exact ⟨_, _, hu.step q0 q1 ((can_req ht h0 h1 q0 q1).1 hc), aft_req ht h0 h1 q0 q1 (hu.setN ht)⟩
theorem many_req (ht : i5 t) (h0 : 0 ≤ op) (h1 : op < t.operators.length) {l : List (List Int)} (hl : l.length ≤ 1000) (hm : ∀ s, Rt t s → s ∈ l) : ¬ Many (reqT t op) := by
 rintro ⟨m, m1, m2, m3⟩
 have := S2 m1 (S := l.map (up t.facts · false) ++ l.map (up t.facts · true)) fun s hs => by
  obtain ⟨u, b, hu, rfl⟩ := rt_req ht h0 h1 (m3 s hs)
  cases b
  ·exact List.mem_append_left _ (List.mem_map.2 ⟨u, hm u hu, rfl⟩)
  ·exact List.mem_append_right _ (List.mem_map.2 ⟨u, hm u hu, rfl⟩)
 simp at this
 omega
/-! ### Without the operator -/
def re (op q : Int) : Int := if q < op then q else q + 1
theorem for_len (h0 : 0 ≤ op) (h1 : op < t.operators.length) : ((forT t op).operators.length : Int) = t.operators.length - 1 := by
 simp only [forT, List.length_append, List.length_take, List.length_drop]; omega
theorem ab4 (h0 : 0 ≤ op) (h1 : op < t.operators.length) {q : Int} (q0 : 0 ≤ q) : opAt (forT t op) q = opAt t (re op q) := by
 show ((t.operators.take op.toNat ++ t.operators.drop (op.toNat + 1))[q.toNat]?).getD noOp = _
 unfold re opAt
 by_cases e : q < op
 ·rw [if_pos e, List.getElem?_append_left (by rw [List.length_take]; omega), List.getElem?_take_of_lt (by omega)]
 ·rw [if_neg e, List.getElem?_append_right (by rw [List.length_take]; omega), List.getElem?_drop, List.length_take]
  congr 2; omega
theorem re_ok (h0 : 0 ≤ op) (h1 : op < t.operators.length) {q : Int} (q0 : 0 ≤ q) (q1 : q < (forT t op).operators.length) : 0 ≤ re op q ∧ re op q < t.operators.length ∧ re op q ≠ op := by
 have := for_len h0 h1
 unfold re; split <;> omega
theorem ends_for (h0 : 0 ≤ op) (h1 : op < t.operators.length) : ∀ {p s : List Int}, Val (forT t op) p → ends (forT t op) s p = ends t s (p.map (re op))
 | [], s, _ => rfl
 | q :: p, s, hv => by
  have hq := hv q (by simp)
  have e1 : can (forT t op) s q = can t s (re op q) := by unfold can; rw [ab4 h0 h1 hq.1]
  have e2 : aft (forT t op) s q = aft t s (re op q) := by unfold aft; rw [ab4 h0 h1 hq.1]; rfl
  simp only [List.map_cons, ends, e1, e2]
  rw [ends_for h0 h1 fun x hx => hv x (List.mem_cons_of_mem _ hx)]
theorem works_for (h0 : 0 ≤ op) (h1 : op < t.operators.length) {p s : List Int} (hv : Val (forT t op) p) : I7 (forT t op) s p ↔ I7 t s (p.map (re op)) := by
 unfold I7; rw [ends_for h0 h1 hv]; rfl
theorem val_for (h0 : 0 ≤ op) (h1 : op < t.operators.length) {p : List Int} (hv : Val (forT t op) p) : Val t (p.map (re op)) ∧ op ∉ p.map (re op) := by
 refine ⟨fun x hx => ?_, fun hx => ?_⟩
 ·obtain ⟨q, hq, rfl⟩ := List.mem_map.1 hx
  have := re_ok h0 h1 (hv q hq).1 (hv q hq).2
  exact ⟨this.1, this.2.1⟩
 ·obtain ⟨q, hq, e⟩ := List.mem_map.1 hx
  exact (re_ok h0 h1 (hv q hq).1 (hv q hq).2).2.2 e
theorem of_for (h0 : 0 ≤ op) (h1 : op < t.operators.length) {p : List Int} (hv : Val t p) (hn : op ∉ p) : ∃ p', Val (forT t op) p' ∧ p'.map (re op) = p := by
 have hl := for_len h0 h1
 refine ⟨p.map fun q => if q < op then q else q - 1, fun x hx => ?_, ?_⟩
 ·obtain ⟨q, hq, rfl⟩ := List.mem_map.1 hx
  have := hv q hq
  have : q ≠ op := fun e => hn (e ▸ hq)
  split <;> omega
 ·rw [List.map_map]
  refine (List.map_congr_left fun q hq => ?_).trans (List.map_id p)
  have : q ≠ op := fun e => hn (e ▸ hq)
  simp only [Function.comp, re, id]
  by_cases c : q < op
  ·rw [if_pos c, if_pos c]
  ·rw [if_neg c, if_neg (by omega)]; omega
theorem pcost_for (h0 : 0 ≤ op) (h1 : op < t.operators.length) : ∀ {p : List Int}, Val (forT t op) p → B4 (forT t op) p = B4 t (p.map (re op))
 | [], _ => rfl
 | q :: p, hv => by
  simp only [List.map_cons, B4]
  rw [ab4 h0 h1 (hv q (by simp)).1, pcost_for h0 h1 fun x hx => hv x (List.mem_cons_of_mem _ hx)]
theorem for_ok (ht : i5 t) (h0 : 0 ≤ op) (h1 : op < t.operators.length) : i5 (forT t op) where
 n0 := ht.n0
 n1 := ht.n1
 init := ht.init
 goal := ht.goal
 ops := by have := for_len h0 h1; have := ht.ops; omega
 op := fun o ho => ht.op o (by
  rcases List.mem_append.1 ho with ho | ho
  ·exact List.mem_of_mem_take ho
  ·exact List.mem_of_mem_drop ho)
theorem rt_for (h0 : 0 ≤ op) (h1 : op < t.operators.length) {s : List Int} (h : Rt (forT t op) s) : Rt t s := by
 induction h with
 | init => exact .init
 | @step s q h q0 q1 hc ih =>
  have e1 : can (forT t op) s q = can t s (re op q) := by unfold can; rw [ab4 h0 h1 q0]
  have e2 : aft (forT t op) s q = aft t s (re op q) := by unfold aft; rw [ab4 h0 h1 q0]; rfl
  have := re_ok h0 h1 q0 q1
  rw [e2]
  exact ih.step this.1 this.2.1 (by rw [← e1]; exact hc)
theorem many_for (h0 : 0 ≤ op) (h1 : op < t.operators.length) (h : Many (forT t op)) : Many t := by
 obtain ⟨m, m1, m2, m3⟩ := h
 exact ⟨m, m1, m2, fun s hs => rt_for h0 h1 (m3 s hs)⟩
theorem few_many (hf : Few t) : ¬ Many t := by
 rintro ⟨m, m1, m2, m3⟩
 obtain ⟨l, l1, l2, l3⟩ := hf
 have := S2 m1 (S := l) fun s hs => (l3 s).2 (m3 s hs)
 omega
end
end Ab
end
section
namespace Ab
open Go
def LC (t : d7) (P : List Int → Prop) (k : Int) : Prop := (∀ p, P p → k ≤ B4 t p) ∧ 0 ≤ k ∧ ((k = 1000000000 ∧ ∀ p, ¬ P p) ∨ (k < 1000000000 ∧ ∃ p, P p ∧ B4 t p = k))
def Sol (t : d7) (s p : List Int) : Prop := Val t p ∧ I7 t s p
theorem LC.eq {t : d7} {P : List Int → Prop} {k k' : Int} (h : LC t P k) (h' : LC t P k') : k = k' := by
 obtain ⟨a1, a2, a3⟩ := h
 obtain ⟨b1, b2, b3⟩ := h'
 rcases a3 with ⟨a3, a4⟩ | ⟨a3, p, a4, a5⟩
 ·rcases b3 with ⟨b3, b4⟩ | ⟨b3, q, b4, b5⟩
  ·omega
  ·exact absurd b4 (a4 q)
 ·rcases b3 with ⟨b3, b4⟩ | ⟨b3, q, b4, b5⟩
  ·exact absurd a4 (b4 p)
  ·have := a1 q b4; have := b1 p a4; omega
theorem LC.fin {t : d7} {P : List Int → Prop} {k : Int} (h : LC t P k) : k < 1000000000 ↔ ∃ p, P p := by
 obtain ⟨a1, a2, ⟨a3, a4⟩ | ⟨a3, p, a4, a5⟩⟩ := h
 ·exact ⟨fun g => by omega, fun ⟨p, hp⟩ => absurd hp (a4 p)⟩
 ·exact ⟨fun _ => ⟨p, a4⟩, fun _ => a3⟩
theorem LC.inf {t : d7} {P : List Int → Prop} {k : Int} (h : LC t P k) : k = 1000000000 ↔ ∀ p, ¬ P p := by
 obtain ⟨a1, a2, ⟨a3, a4⟩ | ⟨a3, p, a4, a5⟩⟩ := h
 ·exact ⟨fun _ => a4, fun _ => a3⟩
 ·exact ⟨fun g => by omega, fun g => absurd a4 (g p)⟩
theorem LC.le {t : d7} {P : List Int → Prop} {k : Int} (h : LC t P k) : k ≤ 1000000000 := by
 obtain ⟨a1, a2, ⟨a3, a4⟩ | ⟨a3, p, a4, a5⟩⟩ := h <;> omega
theorem OptR.lc {t : d7} {r : Int × f4} (h : OptR t r) (hc : r.2.code = 0) : LC t (Sol t t.init) r.1 := by
 cases h with
 | bad _ _ hc' => exact absurd hc hc'
 | many => simp at hc
 | none h hf hn => exact ⟨fun p hp => absurd hp.2 (hn p hp.1), by simp, .inl ⟨rfl, fun p hp => hn p hp.1 hp.2⟩⟩
 | some h hf h0 h1 hv hw hk hl => exact ⟨fun p hp => hl p hp.1 hp.2, h0, .inr ⟨by simp only; omega, _, ⟨hv, hw⟩, hk⟩⟩
theorem OptR.mny {t : d7} {r : Int × f4} (h : OptR t r) (ht : i5 t) (hc : r.2.code ≠ 0) : Many t ∧ r = (0, ⟨10, -7⟩) := by
 cases h with
 | bad h => exact absurd ht h
 | many _ hm => exact ⟨hm, rfl⟩
 | none => simp at hc
 | some => simp at hc
theorem OptR.idx {t : d7} {r : Int × f4} (h : OptR t r) (hc : r.2.code = 0) : r.2 = ⟨0, 0⟩ := by
 cases h with
 | bad _ _ hc' => exact absurd hc hc'
 | many => simp at hc
 | none => rfl
 | some => rfl
section
variable {t : d7} {op : Int}
theorem lc_req (ht : i5 t) (h0 : 0 ≤ op) (h1 : op < t.operators.length) {k : Int} (h : LC (reqT t op) (Sol (reqT t op) (reqT t op).init) k) : LC t (fun p => Sol t t.init p ∧ op ∈ p) k := by
 have key : ∀ p, Sol (reqT t op) (reqT t op).init p ↔ Sol t t.init p ∧ op ∈ p := fun p => by
  unfold Sol
  constructor
  ·rintro ⟨a, b⟩
   have a := val_req.1 a
   have := (works_req0 ht h0 h1 a).1 b
   exact ⟨⟨a, this.1⟩, this.2⟩
  ·rintro ⟨⟨a, b⟩, c⟩
   exact ⟨val_req.2 a, (works_req0 ht h0 h1 a).2 ⟨b, c⟩⟩
 obtain ⟨a1, a2, a3⟩ := h
 refine ⟨fun p hp => ?_, a2, a3.imp (fun ⟨a, b⟩ => ⟨a, fun p hp => b p ((key p).2 hp)⟩) (fun ⟨a, p, b, c⟩ => ?_)⟩
 ·rw [← pcost_req h0 h1 hp.1.1]; exact a1 p ((key p).2 hp)
 ·have := (key p).1 b
  exact ⟨a, p, this, by rw [← pcost_req h0 h1 this.1.1]; exact c⟩
theorem lc_for (h0 : 0 ≤ op) (h1 : op < t.operators.length) {k : Int} (h : LC (forT t op) (Sol (forT t op) (forT t op).init) k) : LC t (fun p => Sol t t.init p ∧ op ∉ p) k := by
 have to : ∀ p, Sol (forT t op) (forT t op).init p → Sol t t.init (p.map (re op)) ∧ op ∉ p.map (re op) := fun p hp =>
  ⟨⟨(val_for h0 h1 hp.1).1, (works_for h0 h1 hp.1).1 hp.2⟩, (val_for h0 h1 hp.1).2⟩
 have fro : ∀ p, Sol t t.init p → op ∉ p → ∃ q, Sol (forT t op) (forT t op).init q ∧ q.map (re op) = p := fun p hp hn => by
  obtain ⟨q, q1, q2⟩ := of_for h0 h1 hp.1 hn
  exact ⟨q, ⟨q1, (works_for h0 h1 q1).2 (by rw [q2]; exact hp.2)⟩, q2⟩
 obtain ⟨a1, a2, a3⟩ := h
 refine ⟨fun p hp => ?_, a2, a3.imp (fun ⟨a, b⟩ => ⟨a, fun p hp => ?_⟩) (fun ⟨a, p, b, c⟩ => ⟨a, _, to p b, by rw [← pcost_for h0 h1 b.1]; exact c⟩)⟩
 ·obtain ⟨q, q1, rfl⟩ := fro p hp.1 hp.2
  rw [← pcost_for h0 h1 q1.1]; exact a1 q q1
 ·obtain ⟨q, q1, _⟩ := fro p hp.1 hp.2
  exact b q q1
/-! ### With and Without -/
theorem ab8 (t : d7) (op : Int) : ∃ f, B1 t op = some f ∧ w4 t op = some f ∧ T9 t op = some f ∧ ((f = ⟨0, 0⟩ ∧ i5 t ∧ 0 ≤ op ∧ op < t.operators.length) ∨ (f.code ≠ 0 ∧ ¬ (i5 t ∧ 0 ≤ op ∧ op < t.operators.length))) := by
 obtain ⟨f, h1, h2, h3⟩ := W8 t
 unfold B1 w4 T9
 rw [h1, h2]
 simp only [oB, in_eq, at_eq]
 rcases h3 with ⟨rfl, ht⟩ | ⟨hc, hn⟩
 ·by_cases c : 0 ≤ op ∧ op < t.operators.length
  ·refine ⟨⟨0, 0⟩, ?_, ?_, ?_, .inl ⟨rfl, ht, c⟩⟩
   ·rw [if_neg (by simp), if_neg (by simp; omega)]
   ·rw [if_neg (by simp), if_neg (by simp; omega)]
   ·simp only [if_true, oB]
    rw [l8 (by omega)]; rfl
  ·refine ⟨⟨3, -6⟩, ?_, ?_, ?_, .inr ⟨by simp, fun h => c h.2⟩⟩
   ·rw [if_neg (by simp), if_pos (by simp; omega)]
   ·rw [if_neg (by simp), if_pos (by simp; omega)]
   ·simp only [if_true, oB]
    rw [x9 (by omega)]; rfl
 ·refine ⟨f, ?_, ?_, ?_, .inr ⟨hc, fun h => hn h.1⟩⟩
  ·rw [if_pos (by simp [hc])]
  ·rw [if_pos (by simp [hc])]
  ·rw [if_neg hc]; rfl
theorem require_eq (ht : i5 t) (h0 : 0 ≤ op) (h1 : op < t.operators.length) (hf : t.facts ≠ 24) : D4 t op = some (reqT t op, ⟨0, 0⟩) := by
 obtain ⟨f, _, k2, _, k4⟩ := ab8 t op
 rcases k4 with ⟨rfl, _⟩ | ⟨_, k4⟩
 ·have n0 := ht.n0; have n1 := ht.n1
  have l1 := ht.goal.len24 ht.n1
  have l2 := (Q6 ht h0 h1).1.2.1.len24 ht.n1
  unfold D4
  rw [k2]
  simp only [oB]
  have a1 : app 8 t.goal [t.facts] = some (t.goal ++ [t.facts]) := by unfold app; rw [if_pos (by simp; omega)]
  have a2 : app 8 (opAt t op).add [t.facts] = some ((opAt t op).add ++ [t.facts]) := by unfold app; rw [if_pos (by simp; omega)]
  rw [if_neg (by simp), if_neg hf, cclone_eq ht]
  simp only [oB, ix_op h0 h1, a1, a2, A8 (show -9223372036854775808 ≤ t.facts + 1 by omega) (by omega)]
  rfl
 ·exact absurd ⟨ht, h0, h1⟩ k4
theorem forbid_eq (ht : i5 t) (h0 : 0 ≤ op) (h1 : op < t.operators.length) : I9 t op = some (forT t op, ⟨0, 0⟩) := by
 obtain ⟨f, _, k2, _, k4⟩ := ab8 t op
 rcases k4 with ⟨rfl, _⟩ | ⟨_, k4⟩
 ·have hl := ht.ops
  unfold I9
  rw [k2]
  simp only [oB]
  rw [if_neg (by simp), clone_same, cclone_eq ht]
  have hd : delL t.operators op (op + 1) = some (t.operators.take op.toNat ++ t.operators.drop (op.toNat + 1)) := by unfold delL; rw [if_pos ⟨h0, h1, rfl⟩]
  simp only [oB, A8 (show -9223372036854775808 ≤ op + 1 by omega) (by omega), hd]
  rfl
 ·exact absurd ⟨ht, h0, h1⟩ k4
inductive WithR (t : d7) (op : Int) : Int × f4 → Prop
 | bad {f : f4} (h : ¬ (i5 t ∧ 0 ≤ op ∧ op < t.operators.length)) (hc : f.code ≠ 0) (hf : T9 t op = some f) : WithR t op (0, f)
 | big (h : i5 t) (h0 : 0 ≤ op) (h1 : op < t.operators.length) (hf : t.facts = 24) : WithR t op (0, ⟨10, -8⟩)
 | opt {r : Int × f4} (h : i5 t) (h0 : 0 ≤ op) (h1 : op < t.operators.length) (hf : t.facts < 24) (hr : OptR (reqT t op) r) : WithR t op r
inductive OutR (t : d7) (op : Int) : Int × f4 → Prop
 | bad {f : f4} (h : ¬ (i5 t ∧ 0 ≤ op ∧ op < t.operators.length)) (hc : f.code ≠ 0) (hf : T9 t op = some f) : OutR t op (0, f)
 | opt {r : Int × f4} (h : i5 t) (h0 : 0 ≤ op) (h1 : op < t.operators.length) (hr : OptR (forT t op) r) : OutR t op r
theorem with_spec (t : d7) (op : Int) : ∃ r, D7 t op = some r ∧ WithR t op r := by
 obtain ⟨f, k1, k2, k3, k4⟩ := ab8 t op
 unfold D7
 rw [k1]
 simp only [oB]
 rcases k4 with ⟨rfl, ht, h0, h1⟩ | ⟨hc, hn⟩
 ·rw [if_neg (by simp)]
  by_cases e : t.facts = 24
  ·unfold D4
   rw [k2]
   simp only [oB]
   rw [if_neg (by simp), if_pos e]
   simp only [oB]
   rw [if_pos (by simp)]
   exact ⟨_, rfl, .big ht h0 h1 e⟩
  ·rw [require_eq ht h0 h1 e]
   obtain ⟨r, r1, r2⟩ := U2 (reqT t op)
   simp only [oB]
   rw [if_neg (by simp), r1]
   exact ⟨r, rfl, .opt ht h0 h1 (by have := ht.n1; omega) r2⟩
 ·rw [if_pos (by simp [hc])]
  exact ⟨_, rfl, .bad hn hc k3⟩
theorem ah6 (t : d7) (op : Int) : ∃ r, u9 t op = some r ∧ OutR t op r := by
 obtain ⟨f, k1, k2, k3, k4⟩ := ab8 t op
 unfold u9
 rw [k1]
 simp only [oB]
 rcases k4 with ⟨rfl, ht, h0, h1⟩ | ⟨hc, hn⟩
 ·rw [if_neg (by simp), forbid_eq ht h0 h1]
  obtain ⟨r, r1, r2⟩ := U2 (forT t op)
  simp only [oB]
  rw [if_neg (by simp), r1]
  exact ⟨r, rfl, .opt ht h0 h1 r2⟩
 ·rw [if_pos (by simp [hc])]
  exact ⟨_, rfl, .bad hn hc k3⟩
theorem WithR.lc {r : Int × f4} (h : WithR t op r) (hc : r.2.code = 0) : (i5 t ∧ 0 ≤ op ∧ op < t.operators.length) ∧ r.2 = ⟨0, 0⟩ ∧ LC t (fun p => Sol t t.init p ∧ op ∈ p) r.1 := by
 cases h with
 | bad _ hc' => exact absurd hc hc'
 | big => simp at hc
 | opt ht h0 h1 hf hr => exact ⟨⟨ht, h0, h1⟩, hr.idx hc, lc_req ht h0 h1 (hr.lc hc)⟩
theorem OutR.lc {r : Int × f4} (h : OutR t op r) (hc : r.2.code = 0) : (i5 t ∧ 0 ≤ op ∧ op < t.operators.length) ∧ r.2 = ⟨0, 0⟩ ∧ LC t (fun p => Sol t t.init p ∧ op ∉ p) r.1 := by
 cases h with
 | bad _ hc' => exact absurd hc hc'
 | opt ht h0 h1 hr => exact ⟨⟨ht, h0, h1⟩, hr.idx hc, lc_for h0 h1 (hr.lc hc)⟩
end
/-! ### The fixed task -/
theorem ag3 {t : d7} (ht : i5 t) {op : Int} : ∀ {p : List Int}, Val t p → op ∈ p → (opAt t op).cost ≤ B4 t p
 | [], _, h => by simp at h
 | q :: p, hv, h => by
  have h1 := ah7 ht (plan := p) fun x hx => hv x (List.mem_cons_of_mem _ hx)
  have h2 := hv q (by simp)
  have h3 := (Q6 ht h2.1 h2.2).2.1
  simp only [B4]
  rcases List.mem_cons.1 h with rfl | h
  ·omega
  ·have := ag3 ht (p := p) (fun x hx => hv x (List.mem_cons_of_mem _ hx)) h
   omega
theorem step_few (s : List Int) (h : Rt n7 s) : s ∈ [[], [0], [1], [0, 1]] := by
 have hs := h.setN O3
 have e : s = D3 (· ∈ s) 2 := hs.eq
 by_cases a : (0 : Int) ∈ s
 ·by_cases b : (1 : Int) ∈ s
  ·rw [(setN_nil 2 |>.1 |> fun _ => hs.1.ext (m := [0, 1]) (by simp) fun x => ?_)]
   ·simp
   ·have := hs.2 x
    constructor
    ·intro hx; have := this hx; simp only [n7] at this; simp; omega
    ·intro hx; simp at hx; rcases hx with rfl | rfl <;> assumption
  ·rw [hs.1.ext (m := [0]) (by simp) fun x => ?_]
   ·simp
   ·have := hs.2 x
    constructor
    ·intro hx
     have := this hx; simp only [n7] at this
     have : x ≠ 1 := fun e => b (e ▸ hx)
     simp; omega
    ·intro hx; simp at hx; rw [hx]; exact a
 ·by_cases b : (1 : Int) ∈ s
  ·rw [hs.1.ext (m := [1]) (by simp) fun x => ?_]
   ·simp
   ·have := hs.2 x
    constructor
    ·intro hx
     have := this hx; simp only [n7] at this
     have : x ≠ 0 := fun e => a (e ▸ hx)
     simp; omega
    ·intro hx; simp at hx; rw [hx]; exact b
  ·rw [hs.1.ext (m := []) (by simp) fun x => ?_]
   ·simp
   ·have := hs.2 x
    constructor
    ·intro hx
     have := this hx; simp only [n7] at this
     have : x ≠ 0 := fun e => a (e ▸ hx)
     have : x ≠ 1 := fun e => b (e ▸ hx)
     omega
    ·intro hx; simp at hx
theorem step_many : ¬ Many n7 := by
 rintro ⟨m, m1, m2, m3⟩
 have := S2 m1 (S := [[], [0], [1], [0, 1]]) fun s hs => step_few s (m3 s hs)
 simp at this; omega
theorem af1 {op : Int} (h : op = 0 ∨ op = 1) : Sol n7 n7.init [op] := by
 refine ⟨fun x hx => ?_, aft n7 n7.init op, ?_, fun x hx => ?_⟩
 ·simp at hx; subst hx; simp only [n7, List.length_cons, List.length_nil]; omega
 ·simp only [ends]
  rw [if_pos (l8 (show can n7 n7.init op from fun x hx => by
   rcases h with rfl | rfl
   ·simpa [opAt, n7] using hx
   ·simp [opAt, n7] at hx))]
 ·refine F1.2 ?_
  simp [n7] at hx; subst hx
  rcases h with rfl | rfl <;> simp [n7, opAt]
theorem step_ne {p : List Int} (h : Sol n7 n7.init p) : ∃ q, q ∈ p ∧ (q = 0 ∨ q = 1) := by
 cases p with
 | nil =>
  obtain ⟨_, e, h1, h2⟩ := h
  simp only [ends, Option.some.injEq] at h1; subst h1
  have := h2 1 (by simp [n7])
  simp [n7] at this
 | cons q p =>
  refine ⟨q, by simp, ?_⟩
  have := h.1 q (by simp)
  simp only [n7, List.length_cons, List.length_nil] at this
  omega
theorem step_cost0 : (opAt n7 0).cost = 1 := rfl
theorem af9 : (opAt n7 1).cost = 3 := rfl
theorem lc_of {t : d7} {P : List Int → Prop} {k : Int} {p : List Int} (h0 : 0 ≤ k) (h1 : k < 1000000000) (hp : P p) (hk : B4 t p = k) (hl : ∀ q, P q → k ≤ B4 t q) : LC t P k := ⟨hl, h0, .inr ⟨h1, p, hp, hk⟩⟩
theorem step_opt : y4 n7 = some (1, ⟨0, 0⟩) := by
 obtain ⟨r, r1, r2⟩ := U2 n7
 have hc : r.2.code = 0 := Classical.byContradiction fun hc => step_many (r2.mny O3 hc).1
 have := (r2.lc hc).eq (lc_of (p := [0]) (k := 1) (by decide) (by decide) (af1 (.inl rfl)) rfl fun q hq => by
  obtain ⟨x, hx, e⟩ := step_ne hq
  have := ag3 O3 hq.1 hx
  rcases e with rfl | rfl
  ·rw [step_cost0] at this; exact this
  ·rw [af9] at this; omega)
 rw [r1, ← r2.idx hc, ← this]
theorem step_with {op : Int} (h : op = 0 ∨ op = 1) : D7 n7 op = some (if op = 0 then 1 else 3, ⟨0, 0⟩) := by
 obtain ⟨r, r1, r2⟩ := with_spec n7 op
 have h01 : 0 ≤ op ∧ op < n7.operators.length := by simp only [n7, List.length_cons, List.length_nil]; omega
 have hc : r.2.code = 0 := Classical.byContradiction fun hc => by
  cases r2 with
  | bad hn => exact hn ⟨O3, h01⟩
  | big _ _ _ hf => simp [n7] at hf
  | opt ht h0 h1 hf hr => exact many_req O3 h01.1 h01.2 (l := [[], [0], [1], [0, 1]]) (by simp) step_few (hr.mny (req_ok ht h0 h1 hf) hc).1
 obtain ⟨_, k1, k2⟩ := r2.lc hc
 have hv := af1 h
 have := k2.eq (lc_of (p := [op]) (k := if op = 0 then 1 else 3) (by split <;> omega) (by split <;> omega) ⟨hv, by simp⟩ (by rcases h with rfl | rfl <;> rfl) fun q hq => by
  have := ag3 O3 hq.1.1 hq.2
  rcases h with rfl | rfl
  ·rw [step_cost0] at this; simpa using this
  ·rw [af9] at this; simpa using this)
 rw [r1, ← k1, ← this]
theorem step_without : u9 n7 0 = some (3, ⟨0, 0⟩) := by
 obtain ⟨r, r1, r2⟩ := ah6 n7 0
 have h01 : (0 : Int) ≤ 0 ∧ (0 : Int) < n7.operators.length := by simp [n7]
 have hc : r.2.code = 0 := Classical.byContradiction fun hc => by
  cases r2 with
  | bad hn => exact hn ⟨O3, h01⟩
  | opt ht h0 h1 hr => exact step_many (many_for h01.1 h01.2 (hr.mny (for_ok ht h0 h1) hc).1)
 obtain ⟨_, k1, k2⟩ := r2.lc hc
 have := k2.eq (lc_of (p := [1]) (k := 3) (by decide) (by decide) ⟨af1 (.inr rfl), by simp⟩ rfl fun q hq => by
  obtain ⟨x, hx, e⟩ := step_ne hq.1
  have hm := ag3 O3 hq.1.1 hx
  rcases e with rfl | rfl
  ·exact absurd hx hq.2
  ·rw [af9] at hm; exact hm)
 rw [r1, ← k1, ← this]
theorem priced_true : I3 = some true := by
 unfold I3
 rw [show S3 = some n7 from rfl]
 simp only [oB]
 unfold O0
 obtain ⟨f, k1, k2, k3, k4⟩ := ab8 n7 0
 rcases k4 with ⟨rfl, _⟩ | ⟨_, k4⟩
 ·rw [step_with (.inr rfl), step_with (.inl rfl), step_without, step_opt, k1]
  rfl
 ·exact absurd ⟨O3, by simp [n7], by simp [n7]⟩ k4
end Ab
end
section
namespace Ab
open Go
theorem setOf_succ {q : Int → Prop} {j : Int} (h0 : 0 ≤ j) : D3 q (j + 1) = D3 q j ++ if dec (q j) = true then [j] else [] := by
 refine (ad5 q (j + 1)).ext ?_ fun x => ?_
 ·refine List.pairwise_append.2 ⟨ad5 _ _, by split <;> simp, fun a ha b hb => ?_⟩
  have := F1.1 ha
  split at hb
  ·simp at hb; omega
  ·cases hb
 ·rw [List.mem_append, F1, F1]
  by_cases hq : q j
  ·rw [if_pos (l8 hq)]
   simp only [List.mem_singleton]
   refine ⟨fun h => ?_, fun h => ?_⟩
   ·by_cases e : x = j
    ·exact .inr e
    ·exact .inl ⟨h.1, by omega, h.2.2⟩
   ·rcases h with h | rfl
    ·exact ⟨h.1, by omega, h.2.2⟩
    ·exact ⟨h0, by omega, hq⟩
  ·rw [if_neg (by simpa using hq)]
   simp only [List.not_mem_nil, or_false]
   refine ⟨fun h => ⟨h.1, ?_, h.2.2⟩, fun h => ⟨h.1, by omega, h.2.2⟩⟩
   rcases Int.lt_or_eq_of_le (Int.le_of_lt_add_one h.2.1) with e | e
   ·exact e
   ·rw [e] at h; exact absurd h.2.2 hq
theorem necessary_spec (t : d7) : ∃ l f, C4 t = some (l, f) ∧ ((¬ i5 t ∧ o4 t = some f ∧ f.code ≠ 0 ∧ l = []) ∨ (i5 t ∧ Many t ∧ f = ⟨10, -7⟩ ∧ l = []) ∨
  (i5 t ∧ Few t ∧ (∀ p, ¬ Sol t t.init p) ∧ f = ⟨15, -1⟩ ∧ l = []) ∨ (i5 t ∧ Few t ∧ (∃ p, Sol t t.init p) ∧ f = ⟨0, 0⟩ ∧ l = D3 (fun op => ∀ p, Sol t t.init p → op ∈ p) t.operators.length)) := by
 obtain ⟨f, h1, _, h3⟩ := W8 t
 unfold C4
 rw [h1]
 simp only [oB]
 rcases h3 with ⟨rfl, ht⟩ | ⟨hc, hn⟩
 ·rw [if_neg (by simp)]
  obtain ⟨o, o1, o2⟩ := U2 t
  rw [o1]
  simp only [oB]
  by_cases c : o.2.code = 0
  ·have hl := o2.lc c
   have hf : Few t := by
    cases o2 with
    | bad h => exact absurd ht h
    | many => simp at c
    | none _ hf => exact hf
    | some _ hf => exact hf
   rw [o2.idx c, if_neg (by simp)]
   by_cases e : o.1 = 1000000000
   ·rw [if_pos e]
    exact ⟨_, _, rfl, .inr (.inr (.inl ⟨ht, hf, hl.inf.1 e, rfl, rfl⟩))⟩
   ·rw [if_neg e]
    have hle := hl.le
    have hops := ht.ops
    rcases af3 (body := C8 t) (n := (t.operators.length : Int)) (s := []) (fun j c => c = D3 (fun op => ∀ p, Sol t t.init p → op ∈ p) j) (fun _ => False) (by omega) (by simp [D3, nums]) (fun j c j0 j1 hP => by
     obtain ⟨b, b1, b2⟩ := ah6 t j
     have hcb : b.2.code = 0 := Classical.byContradiction fun hc => by
      cases b2 with
      | bad hn => exact hn ⟨ht, j0, j1⟩
      | opt _ h0 h1 hr => exact few_many hf (many_for h0 h1 (hr.mny (for_ok ht h0 h1) hc).1)
     obtain ⟨_, k1, k2⟩ := b2.lc hcb
     unfold C8
     rw [b1]
     simp only [oB]
     rw [k1, if_neg (by simp)]
     have key : b.1 = 1000000000 ↔ ∀ p, Sol t t.init p → j ∈ p := by
      rw [k2.inf]
      exact ⟨fun h p hp => Classical.byContradiction fun hn => h p ⟨hp, hn⟩, fun h p hp => hp.2 (h p hp.1)⟩
     have hlen : c.length ≤ 40 := by rw [hP]; have := (ag6 (fun op => ∀ p, Sol t t.init p → op ∈ p) j).len; omega
     rw [setOf_succ j0]
     by_cases q : b.1 = 1000000000
     ·rw [if_pos q, if_pos (l8 (key.1 q))]
      have : app 8 c [j] = some (c ++ [j]) := by unfold app; rw [if_pos (by simp; omega)]
      rw [this]
      exact .inl ⟨_, rfl, by rw [hP]⟩
     ·rw [if_neg q, if_neg (by rw [x9 fun h => q (key.2 h)]; simp)]
      exact .inl ⟨_, rfl, by rw [hP, List.append_nil]⟩) with ⟨s', r1, r2⟩ | ⟨_, _, r2⟩
    ·rw [r1]
     exact ⟨_, _, rfl, .inr (.inr (.inr ⟨ht, hf, hl.fin.1 (by omega), rfl, r2⟩))⟩
    ·exact r2.elim
  ·obtain ⟨hm, e⟩ := o2.mny ht c
   rw [if_pos (by simp [c]), e]
   exact ⟨_, _, rfl, .inr (.inl ⟨ht, hm, rfl, rfl⟩)⟩
 ·rw [if_pos (by simp [hc])]
  exact ⟨_, _, rfl, .inl ⟨hn, rfl, hc, rfl⟩⟩
theorem W5 (t : d7) (plan : List Int) : w7 t plan = some true := by
 unfold w7
 simp only [priced_true, subset_eq]
 obtain ⟨ok, f, s1, _, s2⟩ := solves_eq t plan
 obtain ⟨l, g, g1, g2⟩ := necessary_spec t
 rw [s1, g1]
 simp only [oB]
 by_cases hc : f.code = 0 ∧ ok = true
 ·obtain ⟨c1, rfl⟩ := hc
  rw [if_neg (by simp [c1])]
  rcases s2 with ⟨_, ht, hp, hw⟩ | ⟨h, _⟩
  ·have hs : Sol t t.init plan := ⟨hp.2, k7.1 hw.symm⟩
   rcases g2 with ⟨hn, _⟩ | ⟨_, _, rfl, rfl⟩ | ⟨_, _, hn, _⟩ | ⟨_, _, _, rfl, rfl⟩
   ·exact absurd ht hn
   ·simp
   ·exact absurd hs (hn plan)
   ·rw [if_pos rfl, l8 fun x hx => (show ∀ p, Sol t t.init p → x ∈ p from (F1.1 hx).2.2) plan hs]
    rfl
  ·exact absurd c1 h
 ·rw [if_pos]
  simp only [Bool.or_eq_true, Bool.not_eq_true', decide_eq_false_iff_not]
  cases ok
  ·simp
  ·simp only [and_true] at hc; exact .inl hc
end Ab
end
