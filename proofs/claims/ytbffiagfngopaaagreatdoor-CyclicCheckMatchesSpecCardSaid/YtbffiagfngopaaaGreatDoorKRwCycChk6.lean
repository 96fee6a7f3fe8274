/-
  Texts that the proof stands on.
-/
import Derived.Test.YtbffiagfngopaaaGreatDoorKRwCycChk5
set_option linter.all false
section
namespace Ab
open Go
section
variable {t : b8}
def DsC (t : b8) (S : List Int → Prop) : Nat → List Int → Prop
 | 0, s => i9 t s
 | k + 1, s => i9 t s ∨ (S s ∧ ∃ op : Int, (0 ≤ op ∧ op < t.operators.length) ∧ oCan t s op ∧ (∀ y ∈ sc t s op, S y) ∧ ∃ y ∈ sc t s op, DsC t S k y)
variable {S T : List Int → Prop}
theorem DsC.goal {k : Nat} {s : List Int} (h : i9 t s) : DsC t S k s := by
 cases k with
 | zero => exact h
 | succ k => exact .inl h
theorem DsC.succ : ∀ {k : Nat} {s : List Int}, DsC t S k s → DsC t S (k + 1) s
 | 0, s, h => .inl h
 | k + 1, s, h => by
  rcases h with h | ⟨h0, op, h1, h2, h3, y, hy, h4⟩
  ·exact .inl h
  ·exact .inr ⟨h0, op, h1, h2, h3, y, hy, h4.succ⟩
theorem DsC.mono {k m : Nat} {s : List Int} (h : DsC t S k s) (hm : k ≤ m) : DsC t S m s := by
 induction hm with
 | refl => exact h
 | step _ ih => exact ih.succ
theorem DsC.sub (hST : ∀ s, S s → T s) : ∀ {k : Nat} {s : List Int}, DsC t S k s → DsC t T k s
 | 0, s, h => h
 | k + 1, s, h => by
  rcases h with h | ⟨h0, op, h1, h2, h3, y, hy, h4⟩
  ·exact .inl h
  ·exact .inr ⟨hST s h0, op, h1, h2, fun z hz => hST z (h3 z hz), y, hy, h4.sub hST⟩
def HtD (t : b8) (S : List Int → Prop) (k : Nat) (s : List Int) : Prop := DsC t S k s ∧ ∀ j, j < k → ¬ DsC t S j s
theorem HtD.unique {k m : Nat} {s : List Int} (h : HtD t S k s) (h' : HtD t S m s) : k = m := by
 rcases Nat.lt_trichotomy k m with c | c | c
 ·exact absurd h.1 (h'.2 k c)
 ·exact c
 ·exact absurd h'.1 (h.2 m c)
theorem HtD.of_dn : ∀ {k : Nat} {s : List Int}, DsC t S k s → ∃ m, m ≤ k ∧ HtD t S m s
 | 0, s, h => ⟨0, Nat.le_refl _, h, fun j hj => by omega⟩
 | k + 1, s, h => by
  by_cases c : DsC t S k s
  ·obtain ⟨m, h1, h2⟩ := HtD.of_dn c
   exact ⟨m, by omega, h2⟩
  ·exact ⟨k + 1, Nat.le_refl _, h, fun j hj hd => c (hd.mono (by omega))⟩
theorem HtD.of_not {k : Nat} {s : List Int} (h : DsC t S (k + 1) s) (hn : ¬ DsC t S k s) : HtD t S (k + 1) s := ⟨h, fun j hj hd => hn (hd.mono (by omega))⟩
theorem HtD.step {k : Nat} {s : List Int} (h : HtD t S (k + 1) s) : ¬ i9 t s ∧ S s ∧ ∃ op : Int, (0 ≤ op ∧ op < t.operators.length) ∧ oCan t s op ∧ (∀ y ∈ sc t s op, S y) ∧ ∃ y ∈ sc t s op, HtD t S k y := by
 have hg : ¬ i9 t s := fun g => h.2 0 (by omega) g
 rcases h.1 with g | ⟨h0, op, h1, h2, h3, y, hy, h4⟩
 ·exact absurd g hg
 ·refine ⟨hg, h0, op, h1, h2, h3, y, hy, h4, fun j hj hd => ?_⟩
  exact h.2 (j + 1) (by omega) (.inr ⟨h0, op, h1, h2, h3, y, hy, hd⟩)
theorem HtD.chain {all : LL} (hc : ClO t all) : ∀ {k : Nat} {s : List Int}, s ∈ all → HtD t S k s → ∃ c : LL, c.length = k + 1 ∧ c.Nodup ∧ ∀ x ∈ c, x ∈ all ∧ ∃ j, j ≤ k ∧ HtD t S j x
 | 0, s, hs, h => ⟨[s], rfl, by simp, fun x hx => by rw [List.mem_singleton.1 hx]; exact ⟨hs, 0, Nat.le_refl _, h⟩⟩
 | k + 1, s, hs, h => by
  obtain ⟨_, _, op, h1, h2, _, y, hy, h4⟩ := h.step
  obtain ⟨c, c1, c2, c3⟩ := HtD.chain hc (hc.sc hs h1 h2 hy) h4
  refine ⟨s :: c, by simp [c1], List.nodup_cons.2 ⟨fun hm => ?_, c2⟩, fun x hx => ?_⟩
  ·obtain ⟨_, j, j1, j2⟩ := c3 s hm
   have := j2.unique h; omega
  ·rcases List.mem_cons.1 hx with rfl | hx
   ·exact ⟨hs, k + 1, Nat.le_refl _, h⟩
   ·obtain ⟨q0, j, q1, q2⟩ := c3 x hx
    exact ⟨q0, j, by omega, q2⟩
theorem HtD.lt {all : LL} (hc : ClO t all) {k : Nat} {s : List Int} (hs : s ∈ all) (h : HtD t S k s) : k < all.length := by
 obtain ⟨c, c1, c2, c3⟩ := h.chain hc hs
 have := V5 c2 fun x hx => (c3 x hx).1
 omega
/-! ### Lists of numbers -/
theorem aj6 {l : List Int} {f : Int → Option Bool} {p : Int → Prop} (h : ∀ x ∈ l, f x = some (dec (p x))) : l7 l f = some (dec (∃ x ∈ l, p x)) := by
 unfold l7 x7
 rcases s9 (body := o8 l f) (n := (l.length : Int)) (fun j => if dec (∃ x, ix l j = some x ∧ p x) = true then some j else none) (by omega) (fun j h0 h1 _ => by
  obtain ⟨x, hx, _⟩ := i7 (l := l) h0 h1
  unfold o8
  simp only [hx, ob, h x (j3 hx)]
  by_cases e : p x
  ·rw [ifP e, ifP ⟨x, rfl, e⟩]
  ·rw [ifN e, ifN (by rintro ⟨z, hz, hp⟩; cases hz; exact e hp)]) with ⟨h1, h2⟩ | ⟨j, o, h0, h1, h2, h3, h4⟩
 ·rw [h1]
  simp only [ob]
  rw [o4]
  ·rfl
  ·rintro ⟨x, hx, hp⟩
   obtain ⟨i, i0, i1, hi⟩ := k9 hx
   have := h2 i i0 i1
   rw [ifP ⟨x, hi, hp⟩] at this
   cases this
 ·rw [h4]
  split at h2
  ·rename_i e
   cases h2
   simp only [ob]
   obtain ⟨x, hx, hp⟩ := k7.1 e
   rw [k8 ⟨x, j3 hx, hp⟩, decide_eq_true h0]
  ·cases h2
theorem containsFL_eq {l : LL} {f : List Int → Option Bool} {p : List Int → Prop} (h : ∀ x ∈ l, f x = some (dec (p x))) : m6 l f = some (dec (∃ x ∈ l, p x)) := by
 unfold m6 A5
 rcases s9 (body := q6 l f) (n := (l.length : Int)) (fun j => if dec (∃ x, ix l j = some x ∧ p x) = true then some j else none) (by omega) (fun j h0 h1 _ => by
  obtain ⟨x, hx, _⟩ := i7 (l := l) h0 h1
  unfold q6
  simp only [hx, ob, h x (j3 hx)]
  by_cases e : p x
  ·rw [ifP e, ifP ⟨x, rfl, e⟩]
  ·rw [ifN e, ifN (by rintro ⟨z, hz, hp⟩; cases hz; exact e hp)]) with ⟨h1, h2⟩ | ⟨j, o, h0, h1, h2, h3, h4⟩
 ·rw [h1]
  simp only [ob]
  rw [o4]
  ·rfl
  ·rintro ⟨x, hx, hp⟩
   obtain ⟨i, i0, i1, hi⟩ := k9 hx
   have := h2 i i0 i1
   rw [ifP ⟨x, hi, hp⟩] at this
   cases this
 ·rw [h4]
  split at h2
  ·rename_i e
   cases h2
   simp only [ob]
   obtain ⟨x, hx, hp⟩ := k7.1 e
   rw [k8 ⟨x, j3 hx, hp⟩, decide_eq_true h0]
  ·cases h2
/-! ### The numbers of the states after an operator -/
def ArcL (t : b8) (all : LL) (s : List Int) (op : Int) (l : List Int) : Prop := (oCan t s op ∧ ∀ k, k ∈ l ↔ ∃ y ∈ sc t s op, ix all k = some y) ∨ (¬ oCan t s op ∧ l = [])
structure ArcsOk (t : b8) (all : LL) (nx : List LL) : Prop where
 len : nx.length = all.length
 row : ∀ i s, ix all i = some s → ∃ r, ix nx i = some r ∧ r.length = t.operators.length ∧ ∀ op l, ix r op = some l → ArcL t all s op l
theorem ix_set_same {A : Type} {l : List A} {i : Int} {x y : A} (h : ix l i = some y) : ix (l.set i.toNat x) i = some x := by
 obtain ⟨i0, i1, _⟩ := j8 h
 rw [ix_put i0 i1 i0, if_pos rfl]
theorem arcs_eq (ht : l4 t) {all : LL} (hc : ClO t all) : ∃ nx, T4 t all = some nx ∧ ArcsOk t all nx := by
 have hlen := hc.len
 have hops := ht.ops
 unfold T4
 rw [show mkL 24 (all.length : Int) ([] : LL) = some (List.replicate all.length []) by rw [mkL, if_pos (by omega)]; simp]
 simp only [ob]
 obtain ⟨nx, h1, h2, h3⟩ := p9 (body := S5 t all) (n := (all.length : Int)) (s := List.replicate all.length ([] : LL)) (fun j nx => nx.length = all.length ∧ ∀ i s, i < j → ix all i = some s → ∃ r, ix nx i = some r ∧ r.length = t.operators.length ∧ ∀ op l, ix r op = some l → ArcL t all s op l) (by omega) ⟨by simp, fun i s hi hs => by have := (j8 hs).1; omega⟩ (fun j nx j0 j1 ⟨a1, a2⟩ => by
  obtain ⟨s, hs, _⟩ := i7 (l := all) j0 j1
  have hsm := j3 hs
  have hset := hc.set hsm
  obtain ⟨r0, hr0, _⟩ := i7 (l := nx) j0 (by omega)
  unfold S5
  rw [hs]
  simp only [ob]
  rw [show mkL 24 (t.operators.length : Int) ([] : List Int) = some (List.replicate t.operators.length []) by rw [mkL, if_pos (by omega)]; simp]
  simp only [ob, hr0]
  obtain ⟨r, r1, r2, r3⟩ := p9 (body := R3 t all s) (n := (t.operators.length : Int)) (s := List.replicate t.operators.length ([] : List Int)) (fun k r => r.length = t.operators.length ∧ (∀ op l, op < k → ix r op = some l → ArcL t all s op l) ∧ ∀ op l, k ≤ op → ix r op = some l → l = []) (by omega) ⟨by simp, fun op l h0 h => by have := (j8 h).1; omega, fun op l _ h => List.eq_of_mem_replicate (j3 h)⟩ (fun k r k0 k1 ⟨b1, b2, b3⟩ => by
   unfold R3
   rw [oCan_eq ht k0 k1 hset]
   simp only [ob, r7]
   by_cases cc : oCan t s k
   ·rw [ifNN cc]
    obtain ⟨st, ws, q1, _, q3, q4, _⟩ := z8 ht k0 k1 hset
    have hst : ∀ y, y ∈ st ↔ y ∈ sc t s k := fun y => by rw [q3, sc, List.mem_map]
    rw [q1]
    simp only [ob]
    obtain ⟨l0, hl0, _⟩ := i7 (l := r) k0 (by omega)
    have e0 : l0 = [] := b3 k l0 (Int.le_refl _) hl0
    subst e0
    obtain ⟨r', d1, d2, l', d3, d4, d5⟩ := p9 (body := R7 all k (st, ws)) (n := (st.length : Int)) (s := r) (fun m r' => r'.length = r.length ∧ ∃ l, r' = r.set k.toNat l ∧ (l.length : Int) ≤ m ∧ ∀ z, z ∈ l ↔ ∃ q y, 0 ≤ q ∧ q < m ∧ ix st q = some y ∧ ix all z = some y) (by omega) ⟨rfl, [], (by
     have := (j8 hl0).2.2
     refine (List.ext_getElem? fun i => ?_)
     rw [List.getElem?_set]
     split
     ·rename_i e; subst e; rw [if_pos (List.getElem?_eq_some_iff.1 this).1, this]
     ·rfl), by simp, fun z => ⟨fun h => by (cases h), fun ⟨q, y, q0, q1, _⟩ => by omega⟩⟩ (fun m r' m0 m1 ⟨e1, l, e2, e3, e4⟩ => by
     obtain ⟨y, hy, _⟩ := i7 (l := st) m0 m1
     have hya := hc.sc hsm ⟨k0, k1⟩ cc ((hst y).1 (j3 hy))
     obtain ⟨z, z0, z1, hz⟩ := k9 hya
     have hg : ix r' k = some l := by rw [e2]; exact ix_set_same hl0
     unfold R7
     dsimp only
     rw [hy]
     simp only [ob, hg, find_eq hc.ord (show all.length ≤ 500000 by omega) hz]
     rw [app, if_pos (by simp; omega)]
     simp only [ob]
     refine ⟨_, rfl, by rw [List.length_set]; exact e1, l ++ [z], by rw [e2, List.set_set], by simp; omega, fun z' => ?_⟩
     rw [List.mem_append, List.mem_singleton, e4]
     constructor
     ·rintro (⟨q, y', q0, q1, q2, q3⟩ | rfl)
      ·exact ⟨q, y', q0, by omega, q2, q3⟩
      ·exact ⟨m, y, m0, by omega, hy, hz⟩
     ·rintro ⟨q, y', q0, q1, q2, q3⟩
      by_cases e : q = m
      ·subst e; rw [hy] at q2; cases q2
       exact .inr (hc.ord.inj q3 hz)
      ·exact .inl ⟨q, y', q0, by omega, q2, q3⟩)
    rw [d1]
    simp only [ob]
    refine ⟨_, rfl, by omega, fun op l ho hl => ?_, fun op l ho hl => ?_⟩
    ·rw [d3] at hl
     rcases (by
      have := (j8 hl).1
      rw [ix_put k0 (by omega) this] at hl
      by_cases e : op = k
      ·rw [if_pos e] at hl; exact .inl ⟨e, Option.some.inj hl⟩
      ·rw [if_neg e] at hl; exact .inr ⟨e, hl⟩ : (op = k ∧ l' = l) ∨ (op ≠ k ∧ ix r op = some l)) with ⟨rfl, rfl⟩ | ⟨e, hl⟩
     ·refine .inl ⟨cc, fun z => ?_⟩
      rw [d5]
      constructor
      ·rintro ⟨q, y, _, _, q2, q3⟩; exact ⟨y, (hst y).1 (j3 q2), q3⟩
      ·rintro ⟨y, hy, hz⟩
       obtain ⟨q, q0, q1, hq⟩ := k9 ((hst y).2 hy)
       exact ⟨q, y, q0, q1, hq, hz⟩
     ·exact b2 op l (by omega) hl
    ·rw [d3, ix_put k0 (by omega) (by omega), if_neg (by omega)] at hl
     exact b3 op l (by omega) hl
   ·rw [ifP cc]
    refine ⟨_, rfl, b1, fun op l ho hl => ?_, fun op l ho hl => b3 op l (by omega) hl⟩
    by_cases e : op = k
    ·subst e; exact .inr ⟨cc, b3 op l (Int.le_refl _) hl⟩
    ·exact b2 op l (by omega) hl)
  rw [r1]
  simp only [ob]
  refine ⟨_, rfl, by rw [List.length_set]; exact a1, fun i z hi hz => ?_⟩
  by_cases e : i = j
  ·subst e
   rw [hs] at hz; cases hz
   exact ⟨r, ix_set_same hr0, r2, fun op l hl => r3.1 op l (by have := (j8 hl).2.1; omega) hl⟩
  ·obtain ⟨r', g1, g2⟩ := a2 i z (by omega) hz
   exact ⟨r', by rw [ix_put j0 (by omega) (j8 hz).1, if_neg e]; exact g1, g2⟩)
 rw [h1]
 exact ⟨nx, rfl, h2, fun i s hs => h3 i s (j8 hs).2.1 hs⟩
end
end Ab
end
section
namespace Ab
open Go
theorem sumN_le {l : List Int} {i : Nat} {x y : Int} (h : l[i]? = some y) (h0 : 0 ≤ x) (h1 : x ≤ y) : sumN (l.set i x) ≤ sumN l := by
 by_cases e : x = y
 ·subst e
  have : l.set i x = l := by
   refine List.ext_getElem? fun k => ?_
   rw [List.getElem?_set]
   split
   ·rename_i e; subst e; rw [if_pos (List.getElem?_eq_some_iff.1 h).1, h]
   ·rfl
  rw [this]; exact Nat.le_refl _
 ·exact Nat.le_of_lt (ah3 h h0 (by omega))
section
variable {t : b8} {S : List Int → Prop} {all : LL}
noncomputable def sfl (S : List Int → Prop) (s : List Int) : Int := if dec (S s) = true then 1 else 0
theorem N8 {s : List Int} (h : S s) : sfl S s = 1 := ifP h
theorem W2 {s : List Int} (h : ¬ S s) : sfl S s = 0 := ifN h
theorem measure1 {sv d : List Int} {f : List Int → Int} (hs : Rep all sv (sfl S)) (hd : Rep all d f) {layer : Int} (hl : 0 ≤ layer ∧ layer ≤ 1000000) {l : List Int} (hk : ∀ k ∈ l, ∃ s, ix all k = some s) :
  D4 l sv d layer = some (dec (l ≠ [] ∧ (∀ k ∈ l, ∀ s, ix all k = some s → S s) ∧ ∃ k ∈ l, ∃ s, ix all k = some s ∧ f s = layer - 1)) := by
 have e1 : N2 l sv = some (dec (l ≠ [] ∧ ∀ k ∈ l, ∀ s, ix all k = some s → S s)) := by
  unfold N2
  by_cases c : 0 < (l.length : Int)
  ·rw [if_pos c, aj6 (p := fun k => ∃ s, ix all k = some s ∧ ¬ S s) (fun k hk2 => by
    obtain ⟨s, hsk⟩ := hk k hk2
    unfold P0
    rw [hs.get hsk]
    simp only [ob]
    by_cases e : S s
    ·rw [N8 e, o4 (by rintro ⟨z, hz, hn⟩; rw [hsk] at hz; cases hz; exact hn e)]
     rfl
    ·rw [W2 e, k8 ⟨s, hsk, e⟩]
     rfl)]
   simp only [ob, r7]
   congr 1
   refine o6 ⟨fun h => ⟨fun e => by rw [e] at c; simp at c, fun k hk2 s hsk => Classical.byContradiction fun hn => h ⟨k, hk2, s, hsk, hn⟩⟩, fun h => ?_⟩
   rintro ⟨k, hk2, s, hsk, hn⟩
   exact hn (h.2 k hk2 s hsk)
  ·rw [if_neg c, o4]
   ·rfl
   ·exact fun h => h.1 (List.eq_nil_of_length_eq_zero (by omega))
 unfold D4
 rw [e1]
 simp only [ob]
 by_cases c : l ≠ [] ∧ ∀ k ∈ l, ∀ s, ix all k = some s → S s
 ·rw [ifP c, aj6 (p := fun k => ∃ s, ix all k = some s ∧ f s = layer - 1) (fun k hk2 => by
   obtain ⟨s, hsk⟩ := hk k hk2
   unfold I7
   rw [hd.get hsk, q9 (by omega) (by omega)]
   simp only [ob, B6]
   congr 1
   refine o6 ⟨fun e => ⟨s, hsk, e⟩, ?_⟩
   rintro ⟨z, hz, e⟩
   rw [hsk] at hz; cases hz; exact e)]
  simp only [ob]
  congr 1
  exact o6 ⟨fun h => ⟨c.1, c.2, h⟩, fun h => h.2.2⟩
 ·rw [ifN c]
  simp only [ob]
  rw [o4]
  exact fun h => c ⟨h.1, h.2.1⟩
def StepC (t : b8) (S : List Int → Prop) (f : List Int → Int) (s : List Int) (v : Int) : Prop := ∃ op : Int, (0 ≤ op ∧ op < t.operators.length) ∧ oCan t s op ∧ (∀ y ∈ sc t s op, S y) ∧ ∃ y ∈ sc t s op, f y = v
theorem measureR (ht : l4 t) (hc : ClO t all) {nx : List LL} (hn : ArcsOk t all nx) {sv d : List Int} {f : List Int → Int} (hs : Rep all sv (sfl S)) (hd : Rep all d f) {layer : Int} (hl : 0 ≤ layer ∧ layer ≤ 1000000) {i : Int} {s : List Int} (hi : ix all i = some s) :
  ∃ r, ix nx i = some r ∧ m6 r (fun y1 => D4 y1 sv d layer) = some (dec (StepC t S f s (layer - 1))) := by
 obtain ⟨r, r1, r2, r3⟩ := hn.row i s hi
 have hsm := j3 hi
 refine ⟨r, r1, ?_⟩
 have inr : ∀ x ∈ r, ∃ op, ix r op = some x ∧ (0 ≤ op ∧ op < t.operators.length) ∧ ArcL t all s op x := fun x hx => by
  obtain ⟨op, o0, o1, ho⟩ := k9 hx
  exact ⟨op, ho, ⟨o0, by omega⟩, r3 op x ho⟩
 rw [containsFL_eq (p := fun l => l ≠ [] ∧ (∀ k ∈ l, ∀ s, ix all k = some s → S s) ∧ ∃ k ∈ l, ∃ s, ix all k = some s ∧ f s = layer - 1) (fun x hx => by
  obtain ⟨op, _, ho, ha⟩ := inr x hx
  refine measure1 hs hd hl fun k hk => ?_
  rcases ha with ⟨_, ha⟩ | ⟨_, rfl⟩
  ·obtain ⟨y, _, hy⟩ := (ha k).1 hk
   exact ⟨y, hy⟩
  ·cases hk)]
 congr 1
 refine o6 ⟨?_, ?_⟩
 ·rintro ⟨x, hx, h1, h2, k, hk, z, hz, hf⟩
  obtain ⟨op, _, ho, ha⟩ := inr x hx
  rcases ha with ⟨hcan, ha⟩ | ⟨_, rfl⟩
  ·refine ⟨op, ho, hcan, fun y hy => ?_, z, ?_, hf⟩
   ·obtain ⟨q, _, _, hq⟩ := k9 (hc.sc hsm ho hcan hy)
    exact h2 q ((ha q).2 ⟨y, hy, hq⟩) y hq
   ·obtain ⟨y, hy, hyk⟩ := (ha k).1 hk
    rw [hz] at hyk; cases hyk; exact hy
  ·exact absurd rfl h1
 ·rintro ⟨op, ho, hcan, h1, y, hy, hf⟩
  obtain ⟨x, hx, _⟩ := i7 (l := r) ho.1 (by omega)
  rcases r3 op x hx with ⟨_, ha⟩ | ⟨hn2, _⟩
  ·obtain ⟨q, _, _, hq⟩ := k9 (hc.sc hsm ho hcan hy)
   have hqx := (ha q).2 ⟨y, hy, hq⟩
   refine ⟨x, j3 hx, ⟨fun e => (by rw [e] at hqx; cases hqx), fun k hk z hz => ?_, q, hqx, y, hq, hf⟩⟩
   obtain ⟨z', hz', hzk⟩ := (ha k).1 hk
   rw [hz] at hzk; cases hzk
   exact h1 z hz'
  ·exact absurd hcan hn2
def RankD (t : b8) (S : List Int → Prop) (all : LL) (f : List Int → Int) (L : Nat) : Prop := ∀ s ∈ all, (f s = -1 ∧ ¬ DsC t S L s) ∨ ∃ k : Nat, k ≤ L ∧ f s = k ∧ HtD t S k s
theorem RankD.fresh (hc : ClO t all) {f : List Int → Int} {L : Nat} (h : RankD t S all f L) {s : List Int} (hs : s ∈ all) : HtD t S (L + 1) s ↔ f s < 0 ∧ S s ∧ StepC t S f s L := by
 constructor
 ·intro hh
  have hn : ¬ DsC t S L s := hh.2 L (by omega)
  have hf : f s = -1 := by
   rcases h s hs with ⟨e, _⟩ | ⟨k, k1, _, k2⟩
   ·exact e
   ·exact absurd (k2.1.mono k1) hn
  obtain ⟨_, h0, op, h1, h2, h3, y, hy, h4⟩ := hh.step
  refine ⟨by omega, h0, op, h1, h2, h3, y, hy, ?_⟩
  rcases h y (hc.sc hs h1 h2 hy) with ⟨_, e⟩ | ⟨k, _, e, hk⟩
  ·exact absurd h4.1 e
  ·rw [e, hk.unique h4]
 ·rintro ⟨hf, h0, op, h1, h2, h3, y, hy, h4⟩
  have hn : ¬ DsC t S L s := by
   rcases h s hs with ⟨_, e⟩ | ⟨k, _, e, _⟩
   ·exact e
   ·omega
  refine HtD.of_not (.inr ⟨h0, op, h1, h2, h3, y, hy, ?_⟩) hn
  rcases h y (hc.sc hs h1 h2 hy) with ⟨e, _⟩ | ⟨k, _, e, hk⟩
  ·omega
  ·have : k = L := by omega
   subst this; exact hk.1
theorem measure_eq (ht : l4 t) (hc : ClO t all) {nx : List LL} (hn : ArcsOk t all nx) {sv : List Int} (hs : Rep all sv (sfl S)) :
  ∃ v f, M1 t all nx sv = some v ∧ Rep all v f ∧ ∀ s ∈ all, (f s = -1 ∧ ∀ k, ¬ DsC t S k s) ∨ ∃ k : Nat, f s = k ∧ HtD t S k s := by
 have hlen := hc.len
 have hn1 := ht.n1
 unfold M1
 rw [repeat_eq (-1) (List.length_pos_of_mem hc.cl.init) (by omega)]
 simp only [ob]
 obtain ⟨v0, a1, f0, a2, a3⟩ := p9 (body := K7 t all) (n := (all.length : Int)) (s := List.replicate all.length (-1)) (fun j v => ∃ f, Rep all v f ∧ ∀ i s, ix all i = some s → (i < j → (i9 t s → f s = 0) ∧ (¬ i9 t s → f s = -1)) ∧ (j ≤ i → f s = -1)) (by omega) ⟨_, Rep.repl (-1), fun i s hi => ⟨fun h => by have := (j8 hi).1; omega, fun _ => rfl⟩⟩ (fun j v j0 j1 ⟨f, h1, h2⟩ => by
  obtain ⟨s, hs, _⟩ := i7 (l := all) j0 j1
  have hset := hc.set (j3 hs)
  have hsl := hset.len
  unfold K7
  rw [hs]
  simp only [ob, T3 hset.1 ht.goal.1 (show s.length ≤ 1000000 by omega), h1.get hs]
  by_cases hg : i9 t s
  ·rw [ifP (p := ∀ x ∈ t.goal, x ∈ s) hg]
   refine ⟨_, rfl, _, h1.set hc.ord hs 0, fun i z hz => ?_⟩
   by_cases e : i = j
   ·subst e
    rw [hs] at hz; cases hz
    rw [C2]
    exact ⟨fun _ => ⟨fun _ => rfl, fun h => absurd hg h⟩, fun h => by omega⟩
   ·rw [I4 (fun hz' => e (hc.ord.inj hz (by rw [hz']; exact hs)))]
    exact ⟨fun h => (h2 i z hz).1 (by omega), fun h => (h2 i z hz).2 (by omega)⟩
  ·rw [ifN (p := ∀ x ∈ t.goal, x ∈ s) hg]
   refine ⟨_, rfl, _, h1, fun i z hz => ?_⟩
   by_cases e : i = j
   ·subst e
    rw [hs] at hz; cases hz
    exact ⟨fun _ => ⟨fun h => absurd h hg, fun _ => (h2 i s hs).2 (Int.le_refl _)⟩, fun h => by omega⟩
   ·exact ⟨fun h => (h2 i z hz).1 (by omega), fun h => (h2 i z hz).2 (by omega)⟩)
 rw [a1]
 simp only [ob]
 have r0 : RankD t S all f0 0 := fun s hs => by
  obtain ⟨i, _, i1, hi⟩ := k9 hs
  have := (a3 i s hi).1 i1
  by_cases hg : i9 t s
  ·exact .inr ⟨0, Nat.le_refl _, this.1 hg, hg, fun j hj => by omega⟩
  ·exact .inl ⟨this.2 hg, hg⟩
 obtain ⟨v, e1, f, L, e2, e3, e4⟩ := D5 (body := L3 all nx sv) (fun x => ∃ f L, Rep all x.1 f ∧ x.2 = ((L : Nat) : Int) + 1 ∧ RankD t S all f L ∧ L ≤ all.length) (fun v => ∃ f L, Rep all v f ∧ RankD t S all f L ∧ all.length ≤ L) (fun x => (all.length + 2 - x.2).toNat) (s := (v0, 1)) ⟨f0, 0, a2, by simp, r0, by omega⟩ (fun ⟨v, layer⟩ ⟨f, L, h1, h2, h3, h4⟩ => by
  dsimp only at h1 h2 ⊢
  subst h2
  unfold L3
  dsimp only
  by_cases c : ((L : Nat) : Int) + 1 ≤ all.length
  ·rw [if_pos c]
   obtain ⟨v', g1, f', g2, g3⟩ := p9 (body := K9 nx sv (((L : Nat) : Int) + 1)) (n := (all.length : Int)) (s := v) (fun j v' => ∃ f', Rep all v' f' ∧ ∀ i s, ix all i = some s → (i < j → (HtD t S (L + 1) s → f' s = ((L : Nat) : Int) + 1) ∧ (¬ HtD t S (L + 1) s → f' s = f s)) ∧ (j ≤ i → f' s = f s)) (by omega) ⟨f, h1, fun i s hi => ⟨fun h => by have := (j8 hi).1; omega, fun _ => rfl⟩⟩ (fun j v' j0 j1 ⟨f', q1, q2⟩ => by
    obtain ⟨s, hsj, _⟩ := i7 (l := all) j0 j1
    have hsm := j3 hsj
    have same : ∀ y ∈ all, f' y = (L : Int) ↔ f y = L := fun y hy => by
     obtain ⟨i, _, _, hi⟩ := k9 hy
     have b := q2 i y hi
     by_cases ci : i < j
     ·by_cases hh : HtD t S (L + 1) y
      ·have := (h3.fresh hc hy).1 hh
       rw [(b.1 ci).1 hh]; omega
      ·rw [(b.1 ci).2 hh]
     ·rw [b.2 (by omega)]
    have hfs : f' s = f s := (q2 j s hsj).2 (Int.le_refl _)
    obtain ⟨r, r1, r2⟩ := measureR ht hc hn hs q1 (layer := ((L : Nat) : Int) + 1) (by omega) hsj
    have hst : StepC t S f' s (((L : Nat) : Int) + 1 - 1) ↔ StepC t S f s L := by
     rw [show ((L : Nat) : Int) + 1 - 1 = L by omega]
     constructor
     ·rintro ⟨op, o1, o2, o3, y, hy, e⟩; exact ⟨op, o1, o2, o3, y, hy, (same y (hc.sc hsm o1 o2 hy)).1 e⟩
     ·rintro ⟨op, o1, o2, o3, y, hy, e⟩; exact ⟨op, o1, o2, o3, y, hy, (same y (hc.sc hsm o1 o2 hy)).2 e⟩
    unfold K9
    rw [q1.get hsj, hs.get hsj]
    simp only [ob]
    have key : (if 0 ≤ f' s then some true else some (decide (sfl S s = 0))) = some (dec (¬ (f s < 0 ∧ S s))) := by
     rw [hfs]
     by_cases c1 : 0 ≤ f s
     ·rw [if_pos c1, k8 (fun h => by omega)]
     ·rw [if_neg c1]
      by_cases c2 : S s
      ·rw [N8 c2, o4 (fun h => h ⟨by omega, c2⟩)]; rfl
      ·rw [W2 c2, k8 (fun h => c2 h.2)]; rfl
    rw [key]
    simp only [ob]
    have keep : ∀ f'' : List Int → Int, (∀ z ∈ all, z ≠ s → f'' z = f' z) → ((HtD t S (L + 1) s → f'' s = ((L : Nat) : Int) + 1) ∧ (¬ HtD t S (L + 1) s → f'' s = f s)) → ∀ i z, ix all i = some z → (i < j + 1 → (HtD t S (L + 1) z → f'' z = ((L : Nat) : Int) + 1) ∧ (¬ HtD t S (L + 1) z → f'' z = f z)) ∧ (j + 1 ≤ i → f'' z = f z) := fun f'' k1 k2 i z hz => by
     by_cases e : i = j
     ·subst e
      rw [hsj] at hz; cases hz
      exact ⟨fun _ => k2, fun h => by omega⟩
     ·have hne : z ≠ s := fun hz' => e (hc.ord.inj hz (by rw [hz']; exact hsj))
      rw [k1 z (j3 hz) hne]
      exact ⟨fun h => (q2 i z hz).1 (by omega), fun h => (q2 i z hz).2 (by omega)⟩
    by_cases cs : f s < 0 ∧ S s
    ·rw [ifNN cs, r1]
     simp only [ob, r2]
     rw [o6 hst]
     by_cases ch : StepC t S f s L
     ·rw [ifP ch]
      have hh := (h3.fresh hc hsm).2 ⟨cs.1, cs.2, ch⟩
      exact ⟨_, rfl, _, q1.set hc.ord hsj _, keep _ (fun z _ hne => I4 hne) ⟨fun _ => C2, fun h => absurd hh h⟩⟩
     ·rw [ifN ch]
      have hh : ¬ HtD t S (L + 1) s := fun h => ch ((h3.fresh hc hsm).1 h).2.2
      exact ⟨_, rfl, _, q1, keep _ (fun z _ _ => rfl) ⟨fun h => absurd h hh, fun _ => hfs⟩⟩
    ·rw [ifP cs]
     have hh : ¬ HtD t S (L + 1) s := fun h => cs ⟨((h3.fresh hc hsm).1 h).1, ((h3.fresh hc hsm).1 h).2.1⟩
     exact ⟨_, rfl, _, q1, keep _ (fun z _ _ => rfl) ⟨fun h => absurd h hh, fun _ => hfs⟩⟩)
   rw [g1]
   simp only [ob]
   rw [q9 (by omega) (by omega)]
   refine .inl ⟨_, rfl, ⟨f', L + 1, g2, by dsimp only; omega, fun s hsm => ?_, by omega⟩, by dsimp only; omega⟩
   obtain ⟨i, _, i1, hi⟩ := k9 hsm
   have b := (g3 i s hi).1 i1
   by_cases hh : HtD t S (L + 1) s
   ·exact .inr ⟨L + 1, Nat.le_refl _, by rw [b.1 hh]; omega, hh⟩
   ·rcases h3 s hsm with ⟨q1, q2⟩ | ⟨k, q0, q1, q2⟩
    ·exact .inl ⟨by rw [b.2 hh]; exact q1, fun hd => hh (.of_not hd q2)⟩
    ·exact .inr ⟨k, by omega, by rw [b.2 hh]; exact q1, q2⟩
  ·rw [if_neg c]
   exact .inr ⟨_, rfl, f, L, h1, h3, by omega⟩)
 rw [e1]
 refine ⟨v, f, rfl, e2, fun s hsm => ?_⟩
 rcases e3 s hsm with ⟨q1, q2⟩ | ⟨k, _, q1, q2⟩
 ·refine .inl ⟨q1, fun k hk => q2 ?_⟩
  obtain ⟨m, _, hm⟩ := HtD.of_dn hk
  have := hm.lt hc hsm
  exact hm.1.mono (by omega)
 ·exact .inr ⟨k, q1, q2⟩
def PostF (t : b8) (all : LL) (T : List Int → Prop) : Prop := ∀ s, T s → s ∈ all ∧ ∃ k, DsC t T k s
def Sd (all : LL) (f : List Int → Int) (s : List Int) : Prop := s ∈ all ∧ 0 ≤ f s
structure CertV (t : b8) (all : LL) (f : List Int → Int) : Prop where
 val : ∀ s ∈ all, (f s = -1 ∧ ∀ k, ¬ DsC t (Sd all f) k s) ∨ ∃ k : Nat, f s = k ∧ HtD t (Sd all f) k s
 gr : ∀ T, PostF t all T → ∀ s, T s → 0 ≤ f s
theorem CertV.post {f : List Int → Int} (h : CertV t all f) : PostF t all (Sd all f) := fun s hs => by
 refine ⟨hs.1, ?_⟩
 rcases h.val s hs.1 with ⟨e, _⟩ | ⟨k, _, hk⟩
 ·have := hs.2; omega
 ·exact ⟨k, hk.1⟩
theorem CertV.lt (hc : ClO t all) {f : List Int → Int} (h : CertV t all f) {s : List Int} (hs : s ∈ all) : f s < all.length := by
 rcases h.val s hs with ⟨e, _⟩ | ⟨k, e, hk⟩
 ·omega
 ·have := hk.lt hc hs; omega
theorem distances_eq (ht : l4 t) (hc : ClO t all) : ∃ v f, G8 t all = some v ∧ Rep all v f ∧ CertV t all f := by
 have hlen := hc.len
 unfold G8
 obtain ⟨nx, n1, n2⟩ := arcs_eq ht hc
 rw [n1]
 simp only [ob]
 rw [repeat_eq 1 (List.length_pos_of_mem hc.cl.init) (by omega)]
 simp only [ob]
 obtain ⟨v, e1, f, e2, e3⟩ := D5 (body := H5 t all nx) (fun x => ∃ S : List Int → Prop, (∀ s, S s → s ∈ all) ∧ Rep all x (sfl S) ∧ (∀ s ∈ all, i9 t s → S s) ∧ ∀ T, PostF t all T → ∀ s, T s → S s) (fun v => ∃ f, Rep all v f ∧ CertV t all f) sumN (s := List.replicate all.length 1) ⟨fun s => s ∈ all, fun s h => h, (Rep.repl 1).congr fun s hs => (N8 hs).symm, fun s hs _ => hs, fun T hT s hs => (hT s hs).1⟩ (fun sv ⟨S, s1, s2, s3, s4⟩ => by
  obtain ⟨d, f, d1, d2, d3⟩ := measure_eq ht hc n2 s2
  have sub : ∀ s ∈ all, 0 ≤ f s → S s := fun s hs hf => by
   rcases d3 s hs with ⟨e, _⟩ | ⟨k, _, hk⟩
   ·omega
   ·cases k with
    | zero => exact s3 s hs hk.1
    | succ k => exact hk.step.2.1
  unfold H5
  rw [d1]
  simp only [ob]
  rw [d2.len]
  obtain ⟨⟨sv', b⟩, g1, g2, g3, g4, g5⟩ := p9 (body := H6 d) (n := (all.length : Int)) (s := (sv, true)) (fun j x => x.1.length = all.length ∧ (∀ i s, ix all i = some s → ix x.1 i = some (if i < j then sfl (Sd all f) s else sfl S s)) ∧ (x.2 = dec (∀ i s, i < j → ix all i = some s → (0 ≤ f s ↔ S s))) ∧ sumN x.1 + (if x.2 = true then 0 else 1) ≤ sumN sv) (by omega) ⟨s2.len, fun i s hi => by rw [if_neg (by have := (j8 hi).1; omega)]; exact s2.get hi, (k8 fun i s hi h => by have := (j8 h).1; omega).symm, by simp⟩ (fun j ⟨x, bx⟩ j0 j1 ⟨q1, q2, q3, q4⟩ => by
   dsimp only at q1 q2 q3 q4 ⊢
   obtain ⟨s, hs, _⟩ := i7 (l := all) j0 j1
   have hsm := j3 hs
   have hfl : f s ≤ all.length ∧ -1 ≤ f s := by
    rcases d3 s hsm with ⟨e, _⟩ | ⟨k, e, hk⟩
    ·omega
    ·have := hk.lt hc hsm; omega
   have hx := q2 j s hs
   rw [if_neg (by omega)] at hx
   unfold H6
   dsimp only
   rw [d2.get hs, hx]
   simp only [ob]
   rw [q9 (by omega) (by omega)]
   have hmin : min 1 (f s + 1) = sfl (Sd all f) s := by
    by_cases c : 0 ≤ f s
    ·rw [N8 ⟨hsm, c⟩]; omega
    ·rw [W2 (fun h => c h.2)]; omega
   have key : (if bx = true then some (decide ((decide (0 ≤ f s)) = (decide (0 < sfl S s)))) else some false) = some (dec (∀ i s, i < j + 1 → ix all i = some s → (0 ≤ f s ↔ S s))) := by
    have h2 : (decide ((decide (0 ≤ f s)) = (decide (0 < sfl S s)))) = dec (0 ≤ f s ↔ S s) := by
     have : decide (0 < sfl S s) = dec (S s) := by
      by_cases c : S s
      ·rw [N8 c, k8 c]; rfl
      ·rw [W2 c, o4 c]; rfl
     rw [this, B6 (p := 0 ≤ f s), B6]
     exact o6 dec_inj
    by_cases cb : bx = true
    ·rw [if_pos cb, h2]
     congr 1
     rw [cb] at q3
     have h3 := k7.1 q3.symm
     refine o6 ⟨fun h i z hi hz => ?_, fun h => h j s (by omega) hs⟩
     by_cases e : i = j
     ·subst e; rw [hs] at hz; cases hz; exact h
     ·exact h3 i z (by omega) hz
    ·rw [if_neg cb, o4]
     intro h
     exact cb (by rw [q3]; exact k8 fun i z hi hz => h i z (by omega) hz)
   rw [key]
   simp only [ob]
   rw [hmin]
   refine ⟨_, rfl, by rw [List.length_set]; exact q1, fun i z hz => ?_, rfl, ?_⟩
   ·rw [ix_put j0 (by omega) (j8 hz).1]
    by_cases e : i = j
    ·subst e
     rw [hs] at hz; cases hz
     rw [if_pos rfl, if_pos (by omega)]
    ·rw [if_neg e, q2 i z hz]
     congr 1
     by_cases c : i < j
     ·rw [if_pos c, if_pos (by omega)]
     ·rw [if_neg c, if_neg (by omega)]
   ·dsimp only
    have hxg := (j8 hx).2.2
    by_cases ca : (∀ i s, i < j + 1 → ix all i = some s → (0 ≤ f s ↔ S s))
    ·rw [if_pos (k8 ca)]
     have hbx : bx = true := by rw [q3]; exact k8 fun i z hi hz => ca i z (by omega) hz
     rw [if_pos hbx] at q4
     have e : sfl (Sd all f) s = sfl S s := by
      have := ca j s (by omega) hs
      by_cases c : S s
      ·rw [N8 c, N8 ⟨hsm, this.2 c⟩]
      ·rw [W2 c, W2 (fun h => c (this.1 h.2))]
     rw [e]
     have := sumN_le (x := sfl S s) hxg (by unfold sfl; split <;> omega) (Int.le_refl _)
     omega
    ·rw [if_neg (by rw [o4 ca]; simp)]
     by_cases hbx : bx = true
     ·rw [if_pos hbx] at q4
      -- it is here that they differ
      have hd : ¬ (0 ≤ f s ↔ S s) := fun h => ca fun i z hi hz => by
       by_cases e : i = j
       ·subst e; rw [hs] at hz; cases hz; exact h
       ·exact k7.1 (q3.symm.trans hbx) i z (by omega) hz
      have h1 : ¬ 0 ≤ f s := fun h => hd ⟨fun _ => sub s hsm h, fun _ => h⟩
      have h2 : S s := Classical.byContradiction fun h => hd ⟨fun h' => absurd h' h1, fun h' => absurd h' h⟩
      have := ah3 (x := sfl (Sd all f) s) hxg (by unfold sfl; split <;> omega) (by rw [N8 h2, W2 (fun h => h1 h.2)]; omega)
      omega
     ·rw [if_neg hbx] at q4
      have := sumN_le (x := sfl (Sd all f) s) hxg (by unfold sfl; split <;> omega) (by
       by_cases c : 0 ≤ f s
       ·rw [N8 ⟨hsm, c⟩, N8 (sub s hsm c)]; exact Int.le_refl _
       ·rw [W2 (fun h => c h.2)]; unfold sfl; split <;> omega)
      omega)
  rw [g1]
  simp only [ob]
  dsimp only at g2 g3 g4 g5
  by_cases cb : b = true
  ·rw [if_pos cb]
   rw [cb] at g4
   have h4 := k7.1 g4.symm
   have e : S = Sd all f := funext fun s => propext ⟨fun h => by
    have hm := s1 s h
    obtain ⟨i, _, i1, hi⟩ := k9 hm
    exact ⟨hm, (h4 i s i1 hi).2 h⟩, fun h => by
    obtain ⟨i, _, i1, hi⟩ := k9 h.1
    exact (h4 i s i1 hi).1 h.2⟩
   refine .inr ⟨d, rfl, f, d2, ⟨by rw [e] at d3; exact d3, fun T hT s hs => ?_⟩⟩
   have := s4 T hT s hs
   rw [e] at this
   exact this.2
  ·rw [if_neg cb]
   rw [if_neg cb] at g5
   refine .inl ⟨sv', rfl, ⟨Sd all f, fun s h => h.1, ⟨g2, fun {i s} hi => by rw [g3 i s hi, if_pos (j8 hi).2.1]⟩, fun s hs hg => ⟨hs, ?_⟩, fun T hT s hs => ⟨(hT s hs).1, ?_⟩⟩, by omega⟩
   ·rcases d3 s hs with ⟨_, e⟩ | ⟨k, e, _⟩
    ·exact absurd (DsC.goal hg) (e 0)
    ·omega
   ·obtain ⟨hm, k, hk⟩ := hT s hs
    rcases d3 s hm with ⟨_, e⟩ | ⟨k, e, _⟩
    ·exact absurd (hk.sub (s4 T hT)) (e k)
    ·omega)
 rw [e1]
 exact ⟨v, f, rfl, e2, e3⟩
end
end Ab
end
section
namespace Ab
open Go
section
variable {t : b8} {all : LL}
def CycP (t : b8) (f : List Int → Int) (s : List Int) (op : Int) : Prop := ((0 ≤ op ∧ op < t.operators.length) ∧ oCan t s op) ∧ (∀ y ∈ sc t s op, 0 ≤ f y) ∧ ∃ y ∈ sc t s op, f y = f s - 1
def FirstC (t : b8) (f : List Int → Int) (s : List Int) (b : Int) : Prop := CycP t f s b ∧ ∀ op, 0 ≤ op → op < b → ¬ CycP t f s op
theorem cycChoice (ht : l4 t) (hc : ClO t all) {v : List Int} {f : List Int → Int} (hv : Rep all v f) (hb : ∀ s ∈ all, -1 ≤ f s ∧ f s ≤ 100000) {s : List Int} (hs : s ∈ all) :
  ∃ b, n5 s v all t = some b ∧ ((b = -1 ∧ ∀ op, ¬ CycP t f s op) ∨ FirstC t f s b) := by
 have hlen := hc.len
 have hset := hc.set hs
 obtain ⟨i, hi, hvi⟩ := hv.of hs
 have hbs := hb s hs
 unfold n5
 rw [find_eq hc.ord (by omega) hi]
 simp only [ob, hvi]
 have one : ∀ op : Int, 0 ≤ op → op < t.operators.length → E4 s v all t (f s) op () = some (match (if dec (CycP t f s op) = true then some op else none) with | none => .inl () | some o => .inr o) := fun op o0 o1 => by
  unfold E4
  rw [oCan_eq ht o0 o1 hset]
  simp only [ob, r7]
  unfold E1
  by_cases cc : oCan t s op
  ·rw [ifNN cc]
   obtain ⟨st, ws, q1, _, q3, _⟩ := z8 ht o0 o1 hset
   have hst : ∀ y, y ∈ st ↔ y ∈ sc t s op := fun y => by rw [q3, sc, List.mem_map]
   rw [q1]
   simp only [ob]
   obtain ⟨⟨sure, near⟩, g1, g2, g3⟩ := p9 (body := K2 v all (f s) (st, ws)) (n := (st.length : Int)) (s := (true, false)) (fun j x => x.1 = dec (∀ k y, k < j → ix st k = some y → 0 ≤ f y) ∧ x.2 = dec (∃ k y, k < j ∧ ix st k = some y ∧ f y = f s - 1)) (by omega) ⟨(k8 fun k y hk h => by have := (j8 h).1; omega).symm, (o4 (by rintro ⟨k, y, hk, h, _⟩; have := (j8 h).1; omega)).symm⟩ (fun j ⟨sure, near⟩ j0 j1 ⟨a1, a2⟩ => by
    dsimp only at a1 a2
    obtain ⟨y, hy, _⟩ := i7 (l := st) j0 j1
    obtain ⟨z, hz, hvz⟩ := hv.of (hc.sc hs ⟨o0, o1⟩ cc ((hst y).1 (j3 hy)))
    unfold K2
    dsimp only
    rw [hy]
    simp only [ob, find_eq hc.ord (show all.length ≤ 500000 by omega) hz, hvz]
    rw [q9 (by omega) (by omega)]
    have e1 : dec (∀ k y, k < j + 1 → ix st k = some y → 0 ≤ f y) = (sure && decide (0 ≤ f y)) := by
     rw [a1, B6, dec_and]
     refine o6 ⟨fun h => ⟨fun k z hk hz => h k z (by omega) hz, h j y (by omega) hy⟩, fun ⟨h1, h2⟩ k z hk hz => ?_⟩
     by_cases e : k = j
     ·subst e; rw [hy] at hz; cases hz; exact h2
     ·exact h1 k z (by omega) hz
    have e2 : dec (∃ k y, k < j + 1 ∧ ix st k = some y ∧ f y = f s - 1) = (near || decide (f y = f s - 1)) := by
     rw [a2, B6, dec_or]
     refine o6 ⟨fun ⟨k, z, hk, hz, e⟩ => ?_, ?_⟩
     ·by_cases ek : k = j
      ·subst ek; rw [hy] at hz; cases hz; exact .inr e
      ·exact .inl ⟨k, z, by omega, hz, e⟩
     ·rintro (⟨k, z, hk, hz, e⟩ | e)
      ·exact ⟨k, z, by omega, hz, e⟩
      ·exact ⟨j, y, by omega, hy, e⟩
    rw [e1, e2]
    cases sure <;> cases near <;> simp)
   rw [g1]
   simp only [ob]
   dsimp only at g2 g3
   have e : (sure && near) = dec (CycP t f s op) := by
    rw [g2, g3, dec_and]
    refine o6 ⟨fun ⟨h1, k, y, _, hy, e⟩ => ⟨⟨⟨o0, o1⟩, cc⟩, fun z hz => ?_, y, (hst y).1 (j3 hy), e⟩, fun ⟨_, h1, y, hy, e⟩ => ⟨fun k z _ hz => h1 z ((hst z).1 (j3 hz)), ?_⟩⟩
    ·obtain ⟨q, _, q1, hq⟩ := k9 ((hst z).2 hz)
     exact h1 q z q1 hq
    ·obtain ⟨q, _, q1, hq⟩ := k9 ((hst y).2 hy)
     exact ⟨q, y, q1, hq, e⟩
   rw [e]
   by_cases h : CycP t f s op
   ·rw [ifP h, ifP h]
   ·rw [ifN h, ifN h]
  ·rw [ifP cc, ifN (fun h => cc h.1.2)]
 rcases s9 (body := E4 s v all t (f s)) (n := (t.operators.length : Int)) (fun op => if dec (CycP t f s op) = true then some op else none) (by omega) (fun op o0 o1 _ => by
  rw [one op o0 o1]
  by_cases h : CycP t f s op
  ·rw [ifP h]
  ·rw [ifN h]) with ⟨h1, h2⟩ | ⟨op, o, o0, o1, h2, h3, h4⟩
 ·rw [h1]
  refine ⟨-1, rfl, .inl ⟨rfl, fun op h => ?_⟩⟩
  have := h2 op h.1.1.1 h.1.1.2
  rw [ifP h] at this; cases this
 ·rw [h4]
  split at h2
  ·rename_i e
   cases h2
   refine ⟨op, rfl, .inr ⟨k7.1 e, fun q q0 q1 h => ?_⟩⟩
   have := h3 q q0 q1
   rw [ifP h] at this; cases this
  ·cases h2
theorem CertV.bnd (hc : ClO t all) {f : List Int → Int} (h : CertV t all f) : ∀ s ∈ all, -1 ≤ f s ∧ f s ≤ 100000 := fun s hs => by
 have := h.lt hc hs
 have := hc.len
 rcases h.val s hs with ⟨e, _⟩ | ⟨k, e, _⟩ <;> omega
theorem CertV.has (hc : ClO t all) {f : List Int → Int} (h : CertV t all f) {s : List Int} (hs : s ∈ all) (hf : 0 ≤ f s) (hg : ¬ i9 t s) : ∃ op, CycP t f s op := by
 rcases h.val s hs with ⟨e, _⟩ | ⟨k, e, hk⟩
 ·omega
 ·cases k with
  | zero => exact absurd hk.1 hg
  | succ k =>
   obtain ⟨_, _, op, h1, h2, h3, y, hy, h4⟩ := hk.step
   refine ⟨op, ⟨h1, h2⟩, fun z hz => (h3 z hz).2, y, hy, ?_⟩
   rcases h.val y (h3 y hy).1 with ⟨_, q⟩ | ⟨m, q, hm⟩
   ·exact absurd h4.1 (q k)
   ·rw [q, hm.unique h4]; omega
theorem cpolicy_spec (ht : l4 t) : (B9 t = some ([], false) ∧ P4 t 2000 = some ([], false) ∧ A7 t = some ([], false, ⟨10, -7⟩)) ∨ ∃ all v f, B9 t = some (all, true) ∧ P4 t 2000 = some (all, true) ∧ ClO t all ∧ Rep all v f ∧ CertV t all f ∧
  ((f t.init = -1 ∧ A7 t = some ([], false, ⟨0, 0⟩)) ∨ ∃ ch, ChOk t ch ∧ (∀ s, RchC t ch s → s ∈ all ∧ 0 ≤ f s) ∧ (∀ s, RchC t ch s → ¬ i9 t s → FirstC t f s (ch s)) ∧
   ((A7 t = some ([], false, ⟨10, -8⟩) ∧ ∃ l : LL, l.Nodup ∧ (∀ s ∈ l, RchC t ch s ∧ ¬ i9 t s) ∧ l.length = 201) ∨ ∃ p, A7 t = some (p, true, ⟨0, 0⟩) ∧ PolB t ch p ∧ p.length ≤ 200)) := by
 unfold A7
 rw [explore_ok ht]
 rcases reach_full ht with ⟨all, q1, q2, q3, q4, _⟩ | ⟨q1, q2⟩
 ·right
  have hc : ClO t all := ⟨q3, q4⟩
  have hlen := hc.len
  obtain ⟨v, f, r1, r2, r3⟩ := distances_eq ht hc
  obtain ⟨i, hi, hvi⟩ := r2.of q3.init
  refine ⟨all, v, f, q1, q2, hc, r2, r3, ?_⟩
  rw [q1]
  simp only [ob, if_true]
  rw [if_neg (by simp), r1]
  simp only [ob, find_eq q4 (show all.length ≤ 500000 by omega) hi, hvi]
  by_cases cf : f t.init < 0
  ·rw [if_pos cf]
   refine .inl ⟨?_, rfl⟩
   have := (r3.bnd hc _ q3.init).1; omega
  ·rw [if_neg cf]
   right
   have step : ∀ s, s ∈ all → 0 ≤ f s → ¬ i9 t s → ∃ b, n5 s v all t = some b ∧ FirstC t f s b := fun s hs hf hg => by
    obtain ⟨b, b1, b2⟩ := cycChoice ht hc r2 (r3.bnd hc) hs
    refine ⟨b, b1, ?_⟩
    rcases b2 with ⟨_, b2⟩ | b2
    ·obtain ⟨op, ho⟩ := r3.has hc hs hf hg
     exact absurd ho (b2 op)
    ·exact b2
   have inv : ∀ s, RchC t (fun s => (n5 s v all t).getD (-1)) s → s ∈ all ∧ 0 ≤ f s := fun s hs => by
    induction hs with
    | init => exact ⟨q3.init, by omega⟩
    | @step s y _ hg hy ih =>
     obtain ⟨b, b1, b2⟩ := step s ih.1 ih.2 hg
     have e : (n5 s v all t).getD (-1) = b := by rw [b1]; rfl
     unfold nxC at hy
     dsimp only at hy
     rw [e] at hy
     exact ⟨hc.sc ih.1 b2.1.1.1 b2.1.1.2 hy, b2.1.2.1 y hy⟩
   have hk : ChOk t (fun s => (n5 s v all t).getD (-1)) := fun s hs hg => by
    obtain ⟨b, b1, b2⟩ := step s (inv s hs).1 (inv s hs).2 hg
    dsimp only
    rw [b1]; exact b2.1.1
   refine ⟨_, hk, inv, fun s hs hg => ?_, ?_⟩
   ·obtain ⟨b, b1, b2⟩ := step s (inv s hs).1 (inv s hs).2 hg
    have e : (n5 s v all t).getD (-1) = b := by rw [b1]; rfl
    exact (show FirstC t f s ((n5 s v all t).getD (-1)) by rw [e]; exact b2)
   ·obtain ⟨r, p1, p2⟩ := build_prog ht hk (choose := fun y1 => n5 y1 v all t) (fun s hs hg => by
     obtain ⟨b, b1, _⟩ := step s (inv s hs).1 (inv s hs).2 hg
     show n5 s v all t = some ((n5 s v all t).getD (-1))
     rw [b1]; rfl)
    rw [p1]
    rcases p2 with ⟨rfl, p2⟩ | ⟨p, rfl, p2⟩
    ·exact .inl ⟨rfl, p2⟩
    ·exact .inr ⟨p, rfl, p2⟩
 ·left
  rw [q1]
  exact ⟨rfl, q2, rfl⟩
end
section
variable {t : b8} {p : List d9}
def RkP (t : b8) (p : List d9) : Nat → List Int → Prop
 | 0, s => i9 t s
 | k + 1, s => i9 t s ∨ (w6 p s ∧ ∃ y ∈ nxS t p s, RkP t p k y)
theorem RkP.goal {k : Nat} {s : List Int} (h : i9 t s) : RkP t p k s := by
 cases k with
 | zero => exact h
 | succ k => exact .inl h
theorem RkP.succ : ∀ {k : Nat} {s : List Int}, RkP t p k s → RkP t p (k + 1) s
 | 0, s, h => .inl h
 | k + 1, s, h => by
  rcases h with h | ⟨h1, y, hy, h2⟩
  ·exact .inl h
  ·exact .inr ⟨h1, y, hy, h2.succ⟩
theorem RkP.mono {k m : Nat} {s : List Int} (h : RkP t p k s) (hm : k ≤ m) : RkP t p m s := by
 induction hm with
 | refl => exact h
 | step _ ih => exact ih.succ
def HtR (t : b8) (p : List d9) (k : Nat) (s : List Int) : Prop := RkP t p k s ∧ ∀ j, j < k → ¬ RkP t p j s
theorem HtR.unique {k m : Nat} {s : List Int} (h : HtR t p k s) (h' : HtR t p m s) : k = m := by
 rcases Nat.lt_trichotomy k m with c | c | c
 ·exact absurd h.1 (h'.2 k c)
 ·exact c
 ·exact absurd h'.1 (h.2 m c)
theorem HtR.of_dn : ∀ {k : Nat} {s : List Int}, RkP t p k s → ∃ m, m ≤ k ∧ HtR t p m s
 | 0, s, h => ⟨0, Nat.le_refl _, h, fun j hj => by omega⟩
 | k + 1, s, h => by
  by_cases c : RkP t p k s
  ·obtain ⟨m, h1, h2⟩ := HtR.of_dn c
   exact ⟨m, by omega, h2⟩
  ·exact ⟨k + 1, Nat.le_refl _, h, fun j hj hd => c (hd.mono (by omega))⟩
theorem HtR.chain {l : LL} (hv : Vis t p l) : ∀ {k : Nat} {s : List Int}, s ∈ l → HtR t p k s → ∃ c : LL, c.length = k + 1 ∧ c.Nodup ∧ ∀ x ∈ c, x ∈ l ∧ ∃ j, j ≤ k ∧ HtR t p j x
 | 0, s, hs, h => ⟨[s], rfl, by simp, fun x hx => by rw [List.mem_singleton.1 hx]; exact ⟨hs, 0, Nat.le_refl _, h⟩⟩
 | k + 1, s, hs, h => by
  have hg : ¬ i9 t s := fun g => h.2 0 (by omega) g
  rcases h.1 with g | ⟨hl, y, hy, h4⟩
  ·exact absurd g hg
  have h5 : HtR t p k y := ⟨h4, fun j hj hd => h.2 (j + 1) (by omega) (.inr ⟨hl, y, hy, hd⟩)⟩
  obtain ⟨c, c1, c2, c3⟩ := HtR.chain hv (hv.closed s hs hg hl y hy) h5
  refine ⟨s :: c, by simp [c1], List.nodup_cons.2 ⟨fun hm => ?_, c2⟩, fun x hx => ?_⟩
  ·obtain ⟨_, j, j1, j2⟩ := c3 s hm
   have := j2.unique h; omega
  ·rcases List.mem_cons.1 hx with rfl | hx
   ·exact ⟨hs, k + 1, Nat.le_refl _, h⟩
   ·obtain ⟨q0, j, q1, q2⟩ := c3 x hx
    exact ⟨q0, j, by omega, q2⟩
theorem HtR.lt {l : LL} (hv : Vis t p l) {k : Nat} {s : List Int} (hs : s ∈ l) (h : HtR t p k s) : k < l.length := by
 obtain ⟨c, c1, c2, c3⟩ := h.chain hv hs
 have := V5 c2 fun x hx => (c3 x hx).1
 omega
structure CanOk (t : b8) (p : List d9) (l : LL) (f : List Int → Int) : Prop where
 b : ∀ s ∈ l, f s = 0 ∨ f s = 1
 ok : ∀ s ∈ l, f s = 1 → ∃ k, RkP t p k s
theorem holds2 (ht : l4 t) (hp : E6 t p) {l : LL} (hv : Vis t p l) {i : Int} {s : List Int} (hs : ix l i = some s) {c : List Int} {f : List Int → Int} (hr : Rep l c f) (hk : CanOk t p l f) :
  (E9 t p l i c = some (.inr false) ∧ ¬ i9 t s ∧ ¬ w6 p s) ∨ ∃ c' f', E9 t p l i c = some (.inl c') ∧ Rep l c' f' ∧ CanOk t p l f' ∧ (∀ z ∈ l, f z ≤ f' z) ∧ (i9 t s → f' s = 1) ∧ (w6 p s → ∀ y ∈ nxS t p s, f y = 1 → f' s = 1) := by
 have hsm := j3 hs
 have hset := ((hv.mem s).1 hsm).set ht
 have hsl := hset.len
 have hn := ht.n1
 have hlen := hv.len ht hp
 unfold E9
 rw [hs]
 simp only [ob, T3 hset.1 ht.goal.1 (show s.length ≤ 1000000 by omega)]
 unfold I8
 by_cases hg : i9 t s
 ·rw [ifP (p := ∀ x ∈ t.goal, x ∈ s) hg, hr.get hs]
  simp only [ob]
  refine .inr ⟨_, _, rfl, hr.set hv.ord hs 1, ⟨fun z hz => ?_, fun z hz hf => ?_⟩, fun z hz => ?_, fun _ => C2, fun _ _ _ _ => C2⟩
  ·by_cases e : z = s
   ·subst e; exact .inr C2
   ·rw [I4 e]; exact hk.b z hz
  ·by_cases e : z = s
   ·subst e; exact ⟨0, hg⟩
   ·rw [I4 e] at hf; exact hk.ok z hz hf
  ·by_cases e : z = s
   ·subst e; rw [C2]; rcases hk.b z hz with h | h <;> omega
   ·rw [I4 e]; exact Int.le_refl _
 ·rw [ifN (p := ∀ x ∈ t.goal, x ∈ s) hg, (ab2 hp s).1]
  simp only [ob]
  by_cases hl : chO p s < 0
  ·rw [if_pos hl]
   exact .inl ⟨rfl, hg, fun h => by unfold w6 at h; omega⟩
  ·rw [if_neg hl]
   have hlive : w6 p s := by unfold w6; omega
   have ho := live_op hp hlive
   obtain ⟨st, w, r1, _, r3, _⟩ := z8 ht ho.1.1 ho.1.2 hset
   have hst : ∀ y, y ∈ st ↔ y ∈ nxS t p s := fun y => by rw [r3, nxS, List.mem_map]
   rw [r1]
   simp only [ob]
   obtain ⟨c', g1, f', g2, g3, g4, g5, g6⟩ := p9 (body := P2 l i (st, w)) (n := (st.length : Int)) (s := c) (fun j x => ∃ f', Rep l x f' ∧ CanOk t p l f' ∧ (∀ z ∈ l, f z ≤ f' z) ∧ (∀ z ∈ l, z ≠ s → f' z = f z) ∧ ∀ k y, k < j → ix st k = some y → f y = 1 → f' s = 1) (by omega) ⟨f, hr, hk, fun z _ => Int.le_refl _, fun z _ _ => rfl, fun k y hk2 h => by have := (j8 h).1; omega⟩ (fun j x j0 j1 ⟨f', q1, q2, q3, q4, q5⟩ => by
    obtain ⟨y, hy, _⟩ := i7 (l := st) j0 j1
    have hyn := (hst y).1 (j3 hy)
    have hyl := hv.closed s hsm hg hlive y hyn
    obtain ⟨z, hz, hzv⟩ := q1.of hyl
    unfold P2
    dsimp only
    rw [hy]
    simp only [ob, q1.get hs, find_eq hv.ord (show l.length ≤ 500000 by omega) hz, hzv]
    have bs := q2.b s hsm
    have by' := q2.b y hyl
    refine ⟨_, rfl, _, q1.set hv.ord hs _, ⟨fun z' hz' => ?_, fun z' hz' hf => ?_⟩, fun z' hz' => ?_, fun z' hz' hne => ?_, fun k y' hk2 hy' hf => ?_⟩
    ·by_cases e : z' = s
     ·subst e; rw [C2]; omega
     ·rw [I4 e]; exact q2.b z' hz'
    ·by_cases e : z' = s
     ·subst e
      rw [C2] at hf
      by_cases c1 : f' z' = 1
      ·exact q2.ok z' hz' c1
      ·obtain ⟨k, hk3⟩ := q2.ok y hyl (by omega)
       exact ⟨k + 1, .inr ⟨hlive, y, hyn, hk3⟩⟩
     ·rw [I4 e] at hf; exact q2.ok z' hz' hf
    ·by_cases e : z' = s
     ·subst e; rw [C2]; have := q3 z' hz'; omega
     ·rw [I4 e]; exact q3 z' hz'
    ·rw [I4 hne]; exact q4 z' hz' hne
    ·rw [C2]
     by_cases e : k = j
     ·subst e
      rw [hy] at hy'; cases hy'
      have := q3 y hyl
      omega
     ·have := q5 k y' (by omega) hy' hf
      omega)
   rw [g1]
   simp only [ob]
   refine .inr ⟨c', f', rfl, g2, g3, g4, fun h => absurd h hg, fun _ y hy hf => ?_⟩
   obtain ⟨q, _, q1, hq⟩ := k9 ((hst y).2 hy)
   exact g6 q y q1 hq hf
def KnR (t : b8) (p : List d9) (l : LL) (r : Nat) (f : List Int → Int) : Prop := ∀ s ∈ l, ∀ k, k < r → RkP t p k s → f s = 1
theorem holds1 (ht : l4 t) (hp : E6 t p) {l : LL} (hv : Vis t p l) {c : List Int} {f : List Int → Int} (hr : Rep l c f) (hk : CanOk t p l f) {r : Nat} (hn : KnR t p l r f) (j : Int) :
  (F2 t p l j c = some (.inr false) ∧ ∃ s ∈ l, ¬ i9 t s ∧ ¬ w6 p s) ∨ ∃ c' f', F2 t p l j c = some (.inl c') ∧ Rep l c' f' ∧ CanOk t p l f' ∧ KnR t p l (r + 1) f' := by
 unfold F2
 rcases V4 (body := E9 t p l) (n := (l.length : Int)) (s := c) (fun j x => ∃ f', Rep l x f' ∧ CanOk t p l f' ∧ (∀ z ∈ l, f z ≤ f' z) ∧ ∀ i s k, i < j → ix l i = some s → k < r + 1 → RkP t p k s → f' s = 1) (fun o => o = false ∧ ∃ s ∈ l, ¬ i9 t s ∧ ¬ w6 p s) (by omega) ⟨f, hr, hk, fun z _ => Int.le_refl _, fun i s k hi h => by have := (j8 h).1; omega⟩ (fun j x j0 j1 ⟨f', q1, q2, q3, q4⟩ => by
  obtain ⟨s, hs, _⟩ := i7 (l := l) j0 j1
  have hsm := j3 hs
  rcases holds2 ht hp hv hs q1 q2 with ⟨h1, h2, h3⟩ | ⟨c', f'', h1, h2, h3, h4, h5, h6⟩
  ·exact .inr ⟨_, h1, rfl, s, hsm, h2, h3⟩
  ·refine .inl ⟨_, h1, f'', h2, h3, fun z hz => Int.le_trans (q3 z hz) (h4 z hz), fun i z k hi hz hkr hkk => ?_⟩
   by_cases e : i = j
   ·subst e
    rw [hs] at hz; cases hz
    by_cases hg : i9 t s
    ·exact h5 hg
    ·cases k with
     | zero => exact absurd hkk hg
     | succ k =>
      rcases hkk with g | ⟨hl, y, hy, hyk⟩
      ·exact absurd g hg
      ·have hyl := hv.closed s hsm hg hl y hy
       have e1 := hn y hyl k (by omega) hyk
       have e2 := q3 y hyl
       refine h6 hl y hy ?_
       rcases q2.b y hyl with h | h <;> omega
   ·have e1 := q4 i z k (by omega) hz hkr hkk
    have e2 := h4 z (j3 hz)
    rcases h3.b z (j3 hz) with h | h <;> omega) with ⟨c', e1, f', e2, e3, e4, e5⟩ | ⟨o, e1, rfl, e2⟩
 ·rw [e1]
  refine .inr ⟨c', f', rfl, e2, e3, fun s hs k hk2 hkk => ?_⟩
  obtain ⟨i, _, i1, hi⟩ := k9 hs
  exact e5 i s k i1 hi hk2 hkk
 ·rw [e1]
  exact .inl ⟨rfl, e2⟩
theorem holds_eq (ht : l4 t) (hp : E6 t p) : Q9 t p = some (dec (∀ s, Rch t p s → ∃ k, RkP t p k s)) := by
 obtain ⟨l, g1, hv⟩ := oVisited_eq ht hp
 have hlen := hv.len ht hp
 unfold Q9
 rw [g1]
 simp only [ob]
 rw [show mkL 8 (l.length : Int) (0 : Int) = some (List.replicate l.length 0) by rw [mkL, if_pos (by omega)]; simp]
 simp only [ob]
 rcases V4 (body := F2 t p l) (n := (l.length : Int)) (s := List.replicate l.length 0) (fun j x => ∃ f, Rep l x f ∧ CanOk t p l f ∧ KnR t p l j.toNat f) (fun o => o = false ∧ ∃ s ∈ l, ¬ i9 t s ∧ ¬ w6 p s) (by omega) ⟨_, Rep.repl 0, ⟨fun s _ => .inl rfl, fun s _ h => by cases h⟩, fun s _ k hk => by simp at hk⟩ (fun j x j0 j1 ⟨f, q1, q2, q3⟩ => by
  rcases holds1 ht hp hv q1 q2 q3 j with ⟨h1, h2⟩ | ⟨c', f', h1, h2, h3, h4⟩
  ·exact .inr ⟨_, h1, rfl, h2⟩
  ·exact .inl ⟨_, h1, f', h2, h3, by rwa [show (j + 1).toNat = j.toNat + 1 by omega]⟩) with ⟨c, e1, f, e2, e3, e4⟩ | ⟨o, e1, rfl, s, hs, hg, hl⟩
 ·rw [e1]
  simp only [ob, contains1_eq, r7]
  congr 1
  refine o6 ⟨fun h s hs => ?_, fun h hm => ?_⟩
  ·have hsl := (hv.mem s).2 hs
   obtain ⟨i, hi, hci⟩ := e2.of hsl
   rcases e3.b s hsl with e | e
   ·exact absurd (by rw [e] at hci; exact j3 hci) h
   ·exact e3.ok s hsl e
  ·obtain ⟨i, i0, i1, hi⟩ := k9 hm
   obtain ⟨s, hs, _⟩ := i7 (l := l) i0 (by have := e2.len; omega)
   have hsl := j3 hs
   obtain ⟨k, hk⟩ := h s ((hv.mem s).1 hsl)
   obtain ⟨m, _, hm2⟩ := HtR.of_dn hk
   have := hm2.lt hv hsl
   have e5 := e4 s hsl m (by omega) hm2.1
   rw [e2.get hs, e5] at hi
   cases hi
 ·rw [e1, o4]
  ·rfl
  intro h
  obtain ⟨k, hk⟩ := h s ((hv.mem s).1 hs)
  cases k with
  | zero => exact hg hk
  | succ k =>
   rcases hk with h | ⟨h, _⟩
   ·exact hg h
   ·exact hl h
theorem ccheck_ok (ht : l4 t) (hp : E6 t p) : z7 t p = some (dec (∀ s, Rch t p s → ∃ k, RkP t p k s), ⟨0, 0⟩) := by
 obtain ⟨f, f1, _, f3⟩ := policy_eq t p
 have hf : f = ⟨0, 0⟩ := by
  rcases f3 with ⟨rfl, _⟩ | ⟨_, h⟩
  ·rfl
  ·exact absurd ⟨ht, hp⟩ h
 subst hf
 unfold z7
 rw [f1]
 simp only [ob]
 rw [if_neg (by simp), holds_eq ht hp]
 rfl
theorem ccheck_bad {f : l6} (hv : z6 t p = some f) (hc : f.code ≠ 0) : z7 t p = some (false, f) := by
 unfold z7
 rw [hv]
 simp only [ob]
 rw [if_pos (fault_no hc)]
end
end Ab
end
section
namespace Ab
open Go
section
variable {t : b8} {p : List d9} {ch : List Int → Int}
theorem polB_rk {all : LL} (hk : ChOk t ch) {f : List Int → Int} (h1 : ∀ s, RchC t ch s → s ∈ all ∧ 0 ≤ f s) (h2 : ∀ s, RchC t ch s → ¬ i9 t s → FirstC t f s (ch s)) (hp : PolB t ch p) : ∀ (k : Nat) (s : List Int), RchC t ch s → f s ≤ k → ∃ m, RkP t p m s
 | 0, s, hr, h0 => by
  by_cases hg : i9 t s
  ·exact ⟨0, hg⟩
  ·obtain ⟨_, _, y, hy, e⟩ := (h2 s hr hg).1
   have := (h1 y (.step hr hg hy)).2
   omega
 | k + 1, s, hr, h0 => by
  by_cases hg : i9 t s
  ·exact ⟨0, hg⟩
  ·obtain ⟨_, _, y, hy, e⟩ := (h2 s hr hg).1
   obtain ⟨m, hm⟩ := polB_rk hk h1 h2 hp k y (.step hr hg hy) (by omega)
   have el := hp.live hr hg
   exact ⟨m + 1, .inr ⟨by unfold w6; rw [el]; exact (hk s hr hg).1.1, y, by unfold nxS; rw [el]; exact hy, hm⟩⟩
theorem cfound {all : LL} (ht : l4 t) (hk : ChOk t ch) {f : List Int → Int} (h1 : ∀ s, RchC t ch s → s ∈ all ∧ 0 ≤ f s) (h2 : ∀ s, RchC t ch s → ¬ i9 t s → FirstC t f s (ch s)) (hp : PolB t ch p) (hl : p.length ≤ 200) : z7 t p = some (true, ⟨0, 0⟩) := by
 rw [ccheck_ok ht (hp.pol ht hk hl), k8]
 intro s hs
 have hr := rch_of hp.op hs
 have := (h1 s hr).2
 exact polB_rk hk h1 h2 hp (f s).toNat s hr (by omega)
end
/-! ### The coin -/
theorem coin_X0 : efc 1 [0] coinX = [0] := by
 refine (set01.eq_of (p := fun p => p ∈ coinX.add ∨ p ∈ [0] ∧ p ∉ coinX.del) fun x h0 h1 => ?_).symm
 simp [coinX]
theorem coin_Y0 : efc 1 [0] coinY = [0] := by
 refine (set01.eq_of (p := fun p => p ∈ coinY.add ∨ p ∈ [0] ∧ p ∉ coinY.del) fun x h0 h1 => ?_).symm
 simp [coinY]
theorem coinOo : ooAt v8 0 = coinO := rfl
theorem coin_sc0 {y : List Int} : y ∈ sc v8 [] 0 ↔ y = [0] ∨ y = [] := by
 unfold sc
 rw [coinOo]
 simp only [coinO, show v8.facts = 1 from rfl, List.map_cons, List.map_nil, coin_X, coin_Y, List.mem_cons, List.not_mem_nil, or_false]
theorem coin_sc1 {y : List Int} : y ∈ sc v8 [0] 0 ↔ y = [0] := by
 unfold sc
 rw [coinOo]
 simp only [coinO, show v8.facts = 1 from rfl, List.map_cons, List.map_nil, coin_X0, coin_Y0, List.mem_cons, List.not_mem_nil, or_false, or_self]
theorem coin_res0 : ∃ w, r9 v8 [] 0 = some ([[], [0]], w) := by
 obtain ⟨st, w, r1, r2, r3, _⟩ := z8 coin_ok (op := 0) (by decide) (by decide) (s := []) (P7 _)
 refine ⟨w, ?_⟩
 rw [r1]
 have : st = [[], [0]] := Ord.ext r2 (by simp [llt]) fun y => by
  have h := coin_sc0 (y := y)
  rw [r3]
  rw [sc, List.mem_map] at h
  rw [h]
  simp only [List.mem_cons, List.not_mem_nil, or_false]
  exact Or.comm
 rw [this]
theorem coin_res1 : ∃ w, r9 v8 [0] 0 = some ([[0]], w) := by
 obtain ⟨st, w, r1, r2, r3, _⟩ := z8 coin_ok (op := 0) (by decide) (by decide) (s := [0]) set01
 refine ⟨w, ?_⟩
 rw [r1]
 have : st = [[0]] := Ord.ext r2 (by simp) fun y => by
  have h := coin_sc1 (y := y)
  rw [r3]
  rw [sc, List.mem_map] at h
  rw [h, List.mem_singleton]
 rw [this]
theorem coin_can {s : List Int} (hs : SetN s 1) : M8 v8 s 0 = some true := by
 rw [oCan_eq coin_ok (by decide) (by decide) hs, k8]
 intro x hx
 cases hx
theorem two_rng {S O : Type} {body : Int → S → Option (S ⊕ O)} {s s' : S} {x : S ⊕ O} (h : body 0 s = some (.inl s')) (h' : body 1 s' = some x) : rngX 0 2 body s = some x := by
 unfold rngX
 rw [show ((2 : Int) - 0).toNat = 2 from rfl]
 simp only [rngN, h, show (0 : Int) + 1 = 1 from rfl, h']
 cases x <;> rfl
abbrev coinM : List (ByteArray × Int) := mset (mset ([] : List (ByteArray × Int)) (keyK [[]]) 1) (keyK [[0]]) 1
theorem coin_reach : B9 v8 = some ([[], [0]], true) := by
 have h0 : SetN [] 1 := P7 _
 have k0 := key1_eq (s := []) (h0.small (by decide)) (by decide)
 have k1 := key1_eq (s := [0]) (set01.small (by decide)) (by decide)
 have hk : keyK [[0]] ≠ keyK [[]] := fun e => by have := SetN.key_inj (by decide) set01 h0 e; cases this
 obtain ⟨w0, r0⟩ := coin_res0
 obtain ⟨w1, r1⟩ := coin_res1
 have s1 : x8 v8 ([[]], mset ([] : List (ByteArray × Int)) (keyK [[]]) 1, 0) = some (.inl ([[], [0]], coinM, 1)) := by
  unfold x8
  dsimp only
  rw [if_pos (by decide)]
  rw [show (v8.operators.length : Int) = 1 from rfl, one_rng (x := .inl ([[], [0]], coinM))]
  ·rfl
  ·unfold C7
   dsimp only
   rw [show ix [([] : List Int)] 0 = some [] from rfl]
   simp only [ob, coin_can h0, r0, Bool.not_true, Bool.false_eq_true, if_false]
   rw [show ((([[], [0]] : LL).length : Nat) : Int) = 2 from rfl, two_rng (s' := ([[]], mset ([] : List (ByteArray × Int)) (keyK [[]]) 1)) (x := .inl ([[], [0]], coinM))]
   ·rfl
   ·unfold A6
    dsimp only
    rw [show ix [([] : List Int), [0]] 0 = some [] from rfl]
    simp only [ob, k0]
    rw [W0, if_pos rfl]
    simp [F5]
   ·unfold A6
    dsimp only
    rw [show ix [([] : List Int), [0]] 1 = some [0] from rfl]
    simp only [ob, k1]
    rw [W0, if_neg hk]
    simp [mget, app, F5]
 have s2 : x8 v8 ([[], [0]], coinM, 1) = some (.inl ([[], [0]], coinM, 2)) := by
  unfold x8
  dsimp only
  rw [if_pos (by decide)]
  rw [show (v8.operators.length : Int) = 1 from rfl, one_rng (x := .inl ([[], [0]], coinM))]
  ·rfl
  ·unfold C7
   dsimp only
   rw [show ix [([] : List Int), [0]] 1 = some [0] from rfl]
   simp only [ob, coin_can set01, r1, Bool.not_true, Bool.false_eq_true, if_false]
   rw [show ((([[0]] : LL).length : Nat) : Int) = 1 from rfl, one_rng (x := .inl ([[], [0]], coinM))]
   ·rfl
   ·unfold A6
    dsimp only
    rw [show ix [([0] : List Int)] 0 = some [0] from rfl]
    simp only [ob, k1]
    rw [W0, if_pos rfl]
    simp [F5]
 have s3 : x8 v8 ([[], [0]], coinM, 2) = some (.inr (.inl [[], [0]])) := by
  unfold x8
  dsimp only
  rw [if_neg (by decide)]
 unfold B9
 rw [show v8.init = [] from rfl, ah6 (by decide)]
 simp only [ob, k0]
 rw [W1, s1]
 dsimp only
 rw [W1, s2]
 dsimp only
 rw [W1, s3]
 simp only [ob]
 obtain ⟨r, n1, n2, n3, _⟩ := af2 (l := [[], [0]]) (by decide)
 rw [n1, show r = [[], [0]] from Ord.ext n2 (by simp [llt]) n3]
 rfl
theorem coin_g1 : i9 v8 [0] := fun x hx => hx
theorem coin_g0 : ¬ i9 v8 [] := fun h => by have := h 0 (by simp [v8]); cases this
theorem coin_polB {ch : List Int → Int} (hk : ChOk v8 ch) (ha : ∀ s, RchC v8 ch s → s ∈ ([[], [0]] : LL)) {p : List d9} (hp : PolB v8 ch p) : p = [⟨[], 0⟩] := by
 have h0 := (hk [] .init coin_g0).1
 have e0 : ch [] = 0 := by
  have : (v8.operators.length : Int) = 1 := rfl
  omega
 refine hp.unique ⟨by simp, fun s => ⟨?_, fun ⟨hr, hg⟩ => ?_⟩, fun c hc => ?_⟩
 ·rintro ⟨c, hc, rfl⟩
  rw [List.mem_singleton.1 hc]
  exact ⟨.init, coin_g0⟩
 ·rcases List.mem_cons.1 (ha s hr) with rfl | h
  ·exact ⟨_, List.mem_singleton.2 rfl, rfl⟩
  ·rw [List.mem_singleton.1 h] at hg
   exact absurd coin_g1 hg
 ·rw [List.mem_singleton.1 hc]
  exact e0.symm
theorem coin_policy : A7 v8 = some ([⟨[], 0⟩], true, ⟨0, 0⟩) ∧ z7 v8 [⟨[], 0⟩] = some (true, ⟨0, 0⟩) := by
 rcases cpolicy_spec coin_ok with ⟨h, _⟩ | ⟨all, v, f, h1, _, hc, hv, hr, hh⟩
 ·rw [coin_reach] at h; cases h
 ·rw [coin_reach] at h1; cases h1
  rcases hh with ⟨hn, _⟩ | ⟨ch, hk, i1, i2, hh⟩
  ·have post : PostF v8 [[], [0]] (fun s => s ∈ ([[], [0]] : LL)) := fun s hs => by
    refine ⟨hs, 1, ?_⟩
    rcases List.mem_cons.1 hs with rfl | h
    ·exact .inr ⟨hs, 0, ⟨by decide, by decide⟩, fun x hx => (by cases hx), fun y hy => by
      rcases coin_sc0.1 hy with rfl | rfl <;> simp, [0], coin_sc0.2 (.inl rfl), coin_g1⟩
    ·rw [List.mem_singleton.1 h]; exact .inl coin_g1
   have := hr.gr _ post [] (by simp)
   rw [show v8.init = [] from rfl] at hn
   omega
  ·rcases hh with ⟨_, l, l1, l2, l3⟩ | ⟨p, h, hp, hl⟩
   ·have := V5 l1 fun s hs => (i1 s (l2 s hs).1).1
    simp at this; omega
   ·have e := coin_polB hk (fun s hs => (i1 s hs).1) hp
    have hf := cfound coin_ok hk i1 i2 hp hl
    subst e
    exact ⟨h, hf⟩
theorem repeated_eq : I0 = some true := by
 unfold I0
 rw [show aa6 = some v8 from rfl]
 simp only [ob, coin_policy.1, coin_policy.2, if_true]
 rw [choices_self]
 rfl
end Ab
end
section
namespace Ab
open Go
theorem lower_loop {l : LL} {Low : (List Int → Int) → Prop} {Fix : (List Int → Int) → List Int → Prop} {b3 : Int → (List Int × Bool) → Option (List Int × Bool)} {body : (List Int × Bool) → Option ((List Int × Bool) ⊕ List Int)}
  (hbody : ∀ v b, body (v, b) = if b = true then (forR 0 (l.length : Int) b3 (v, false)).bind fun x => some (.inl (x.1, x.2)) else some (.inr v))
  (hcongr : ∀ g g' : List Int → Int, (∀ z ∈ l, g z = g' z) → ∀ s ∈ l, Fix g s → Fix g' s)
  (step : ∀ i s v g b, ix l i = some s → Rep l v g → Low g → ∃ v' g' b', b3 i (v, b) = some (v', b') ∧ Rep l v' g' ∧ Low g' ∧ ((b' = b ∧ v' = v ∧ Fix g s) ∨ (b' = true ∧ sumN v' < sumN v)))
  {v0 : List Int} {g0 : List Int → Int} (hr : Rep l v0 g0) (hl : Low g0) : ∃ v g, Loop body (v0, true) = some v ∧ Rep l v g ∧ Low g ∧ ∀ s ∈ l, Fix g s := by
 obtain ⟨v, e1, g, e2, e3, e4⟩ := D5 (body := body) (fun x => ∃ g, Rep l x.1 g ∧ Low g ∧ (x.2 = false → ∀ s ∈ l, Fix g s)) (fun v => ∃ g, Rep l v g ∧ Low g ∧ ∀ s ∈ l, Fix g s) (fun x => 2 * sumN x.1 + (if x.2 = true then 1 else 0)) (s := (v0, true)) ⟨g0, hr, hl, fun h => by cases h⟩ (fun ⟨v, b⟩ ⟨g, h1, h2, h3⟩ => by
  dsimp only at h1 h3 ⊢
  rw [hbody]
  cases b with
  | false =>
   rw [if_neg (by simp)]
   exact .inr ⟨v, rfl, g, h1, h2, h3 rfl⟩
  | true =>
   rw [if_pos rfl]
   obtain ⟨⟨v', b'⟩, k1, g', k2, k3, k4⟩ := p9 (body := b3) (n := (l.length : Int)) (s := (v, false)) (fun j x => ∃ g', Rep l x.1 g' ∧ Low g' ∧ ((x.2 = false ∧ x.1 = v ∧ ∀ i s, i < j → ix l i = some s → Fix g s) ∨ (x.2 = true ∧ sumN x.1 < sumN v))) (by omega) ⟨g, h1, h2, .inl ⟨rfl, rfl, fun i s hi hs => by have := (j8 hs).1; omega⟩⟩ (fun j ⟨x, bx⟩ j0 j1 ⟨g', q1, q2, q3⟩ => by
    dsimp only at q1 q3 ⊢
    obtain ⟨s, hs, _⟩ := i7 (l := l) j0 j1
    obtain ⟨x', g'', b'', w1, w2, w3, w4⟩ := step j s x g' bx hs q1 q2
    rw [w1]
    refine ⟨_, rfl, g'', w2, w3, ?_⟩
    dsimp only
    rcases w4 with ⟨rfl, rfl, w4⟩ | ⟨rfl, w4⟩
    ·rcases q3 with ⟨p1, rfl, p3⟩ | q3
     ·refine .inl ⟨p1, rfl, fun i z hi hz => ?_⟩
      by_cases e : i = j
      ·subst e
       rw [hs] at hz; cases hz
       refine hcongr g' g (fun z hz => ?_) s (j3 hs) w4
       obtain ⟨iz, hiz, hgz⟩ := h1.of hz
       rw [q1.get hiz] at hgz
       exact Option.some.inj hgz
      ·exact p3 i z (by omega) hz
     ·exact .inr q3
    ·right
     refine ⟨rfl, ?_⟩
     rcases q3 with ⟨_, rfl, _⟩ | ⟨_, q3⟩ <;> omega)
   rw [k1]
   simp only [ob]
   dsimp only at k2 k4
   refine .inl ⟨_, rfl, ?_, ?_⟩
   ·rcases k4 with ⟨rfl, rfl, k4⟩ | ⟨rfl, k4⟩
    ·exact ⟨g, h1, h2, fun _ s hs => by
      obtain ⟨i, _, i1, hi⟩ := k9 hs
      exact k4 i s i1 hi⟩
    ·exact ⟨g', k2, k3, fun h => by cases h⟩
   ·dsimp only
    rcases k4 with ⟨rfl, rfl, k4⟩ | ⟨rfl, k4⟩
    ·simp
    ·simp; omega)
 exact ⟨v, g, e1, e2, e3, e4⟩
def MN (g : List Int → Int) (l : LL) (m : Int) : Prop := m ≤ 1000000000 ∧ (∀ y ∈ l, m ≤ g y) ∧ (m = 1000000000 ∨ ∃ y ∈ l, g y = m)
theorem MN.congr {g g' : List Int → Int} {l : LL} {m : Int} (h : MN g l m) (e : ∀ y ∈ l, g y = g' y) : MN g' l m := by
 refine ⟨h.1, fun y hy => by rw [← e y hy]; exact h.2.1 y hy, ?_⟩
 rcases h.2.2 with h | ⟨y, hy, e1⟩
 ·exact .inl h
 ·exact .inr ⟨y, hy, by rw [← e y hy]; exact e1⟩
theorem MN.unique {g : List Int → Int} {l : LL} {m m' : Int} (h : MN g l m) (h' : MN g l m') : m = m' := by
 obtain ⟨a1, a2, a3⟩ := h
 obtain ⟨b1, b2, b3⟩ := h'
 rcases a3 with rfl | ⟨y, hy, rfl⟩ <;> rcases b3 with rfl | ⟨z, hz, rfl⟩
 ·rfl
 ·have := a2 z hz; omega
 ·have := b2 y hy; omega
 ·have := a2 z hz; have := b2 y hy; omega
theorem leastG {t : b8} (ht : l4 t) {all : LL} (ho : Ord all) {s : List Int} (hs : SetN s t.facts) {op : Int} (h0 : 0 ≤ op ∧ op < t.operators.length) (hcl : ∀ y ∈ sc t s op, y ∈ all) {v : List Int} {g : List Int → Int} (hv : Rep all v g) :
  ∃ m, X1 t all v s op = some m ∧ MN g (sc t s op) m := by
 obtain ⟨st, ws, r1, _, r3, _⟩ := z8 ht h0.1 h0.2 hs
 have hst : ∀ y, y ∈ st ↔ y ∈ sc t s op := fun y => by rw [r3, sc, List.mem_map]
 unfold X1
 rw [oAfter_eq ht h0.1 h0.2 hs, r1]
 simp only [ob]
 obtain ⟨m, e1, e2, e3, e4⟩ := p9 (body := U0 all v (st, ws)) (n := (st.length : Int)) (s := 1000000000) (fun j n => n ≤ 1000000000 ∧ (∀ k y, k < j → ix st k = some y → n ≤ g y) ∧ (n = 1000000000 ∨ ∃ y ∈ sc t s op, g y = n)) (by omega) ⟨Int.le_refl _, fun k y hk h => by have := (j8 h).1; omega, .inl rfl⟩ (fun j n j0 j1 ⟨a1, a2, a3⟩ => by
  obtain ⟨y, hy, _⟩ := i7 (l := st) j0 j1
  have hyn := (hst y).1 (j3 hy)
  obtain ⟨i, hi, hvi⟩ := hv.of (hcl y hyn)
  unfold U0
  dsimp only
  rw [hy]
  simp only [ob, place_ord ho hi, hvi]
  by_cases c : g y < n
  ·rw [if_pos c]
   refine ⟨_, rfl, by omega, fun k z hk hz => ?_, .inr ⟨y, hyn, rfl⟩⟩
   by_cases ek : k = j
   ·subst ek; rw [hy] at hz; cases hz; exact Int.le_refl _
   ·have := a2 k z (by omega) hz; omega
  ·rw [if_neg c]
   refine ⟨_, rfl, a1, fun k z hk hz => ?_, a3⟩
   by_cases ek : k = j
   ·subst ek; rw [hy] at hz; cases hz; omega
   ·exact a2 k z (by omega) hz)
 rw [e1]
 refine ⟨m, rfl, e2, fun y hy => ?_, e4⟩
 obtain ⟨k, _, k1, hk⟩ := k9 ((hst y).2 hy)
 exact e3 k y k1 hk
section
variable {t : b8} {p : List d9}
structure LowR (t : b8) (p : List d9) (l : LL) (g : List Int → Int) : Prop where
 b : ∀ s ∈ l, 0 ≤ g s ∧ g s ≤ 1000000000
 dn : ∀ s ∈ l, g s < 1000000000 → RkP t p (g s).toNat s
 goal : ∀ s ∈ l, i9 t s → g s = 0
def FixR (t : b8) (p : List d9) (g : List Int → Int) (s : List Int) : Prop := ¬ i9 t s → w6 p s → ∀ m, MN g (nxS t p s) m → g s ≤ m + 1
theorem rKeeps_eq (ht : l4 t) (hp : E6 t p) : X6 t p = some (dec (∀ s, Rch t p s → ∃ k, RkP t p k s)) := by
 obtain ⟨l, v1, hv⟩ := rVisited_eq ht hp
 have hlen := hv.len ht hp
 unfold X6
 rw [v1]
 simp only [ob]
 rw [show mkL 8 (l.length : Int) (0 : Int) = some (List.replicate l.length 0) by rw [mkL, if_pos (by omega)]; simp]
 simp only [ob]
 obtain ⟨v0, a1, g0, a2, a3⟩ := p9 (body := T8 t l) (n := (l.length : Int)) (s := List.replicate l.length 0) (fun j v => ∃ g, Rep l v g ∧ ∀ i s, ix l i = some s → (i < j → (i9 t s → g s = 0) ∧ (¬ i9 t s → g s = 1000000000)) ∧ (j ≤ i → g s = 0)) (by omega) ⟨_, Rep.repl 0, fun i s hi => ⟨fun h => by have := (j8 hi).1; omega, fun _ => rfl⟩⟩ (fun j v j0 j1 ⟨g, h1, h2⟩ => by
  obtain ⟨s, hs, _⟩ := i7 (l := l) j0 j1
  unfold T8
  rw [hs]
  simp only [ob, goal_dec, r7]
  by_cases hg : i9 t s
  ·rw [ifNN hg]
   refine ⟨_, rfl, g, h1, fun i z hz => ?_⟩
   by_cases e : i = j
   ·subst e
    rw [hs] at hz; cases hz
    exact ⟨fun _ => ⟨fun _ => (h2 i s hs).2 (Int.le_refl _), fun h => absurd hg h⟩, fun h => by omega⟩
   ·exact ⟨fun h => (h2 i z hz).1 (by omega), fun h => (h2 i z hz).2 (by omega)⟩
  ·rw [ifP hg, h1.get hs]
   simp only [ob]
   refine ⟨_, rfl, _, h1.set hv.ord hs 1000000000, fun i z hz => ?_⟩
   by_cases e : i = j
   ·subst e
    rw [hs] at hz; cases hz
    rw [C2]
    exact ⟨fun _ => ⟨fun h => absurd h hg, fun _ => rfl⟩, fun h => by omega⟩
   ·rw [I4 (fun hz' => e (hv.ord.inj hz (by rw [hz']; exact hs)))]
    exact ⟨fun h => (h2 i z hz).1 (by omega), fun h => (h2 i z hz).2 (by omega)⟩)
 rw [a1]
 simp only [ob]
 have low0 : LowR t p l g0 := by
  have key : ∀ s ∈ l, (i9 t s → g0 s = 0) ∧ (¬ i9 t s → g0 s = 1000000000) := fun s hs => by
   obtain ⟨i, _, i1, hi⟩ := k9 hs
   exact (a3 i s hi).1 i1
  refine ⟨fun s hs => ?_, fun s hs h => ?_, fun s hs hg => (key s hs).1 hg⟩
  ·by_cases hg : i9 t s
   ·rw [(key s hs).1 hg]; omega
   ·rw [(key s hs).2 hg]; omega
  ·by_cases hg : i9 t s
   ·exact .goal hg
   ·rw [(key s hs).2 hg] at h; omega
 obtain ⟨v, g, e1, e2, e3, e4⟩ := lower_loop (l := l) (Low := LowR t p l) (Fix := FixR t p) (b3 := T6 t p l) (body := T7 t p l) (fun v b => by unfold T7; rfl) (fun g g' e s hs h hg hl m hm => by
   rw [← e s hs]
   exact h hg hl m (hm.congr fun y hy => (e y (hv.closed s hs hg hl y hy)).symm)) (fun i s v g b hs hr hl => by
   have hsm := j3 hs
   have hset := ((hv.mem s).1 hsm).set ht
   unfold T6
   dsimp only
   rw [hs]
   simp only [ob, rChosen_chO, goal_dec]
   by_cases c : i9 t s ∨ chO p s < 0
   ·rw [if_pos (by rw [Bool.or_eq_true, k7, decide_eq_true_eq]; exact c)]
    refine ⟨v, g, b, rfl, hr, hl, .inl ⟨rfl, rfl, fun hg hlv => ?_⟩⟩
    rcases c with c | c
    ·exact absurd c hg
    ·unfold w6 at hlv; omega
   ·rw [if_neg (by rw [Bool.or_eq_true, k7, decide_eq_true_eq]; exact c)]
    have hg : ¬ i9 t s := fun h => c (.inl h)
    have hlv : w6 p s := by unfold w6; exact Int.not_lt.1 fun h => c (.inr h)
    have ho := live_op hp hlv
    obtain ⟨m, m1, m2⟩ := leastG ht hv.ord hset ho.1 (fun y hy => hv.closed s hsm hg hlv y hy) hr
    have m2' : MN g (nxS t p s) m := m2
    rw [m1]
    simp only [ob, hr.get hs]
    have hgs := hl.b s hsm
    have hm0 : 0 ≤ m := by
     rcases m2.2.2 with h | ⟨y, hy, h⟩
     ·omega
     ·have := (hl.b y (hv.closed s hsm hg hlv y hy)).1; omega
    have hm1 := m2.1
    rw [q9 (by omega) (by omega)]
    by_cases cm : m + 1 < g s
    ·rw [if_pos cm]
     refine ⟨_, upd g s (m + 1), true, rfl, hr.set hv.ord hs _, ⟨fun z hz => ?_, fun z hz => ?_, fun z hz hgz => ?_⟩, .inr ⟨rfl, ah3 (j8 (hr.get hs)).2.2 (by omega) cm⟩⟩
     ·by_cases e : z = s
      ·subst e; rw [C2]; omega
      ·rw [I4 e]; exact hl.b z hz
     ·by_cases e : z = s
      ·subst e; rw [C2]
       intro _
       rcases m2.2.2 with h | ⟨y, hy, h⟩
       ·omega
       ·rw [show (m + 1).toNat = m.toNat + 1 by omega]
        have := hl.dn y (hv.closed z hsm hg hlv y hy) (by omega)
        rw [h] at this
        exact .inr ⟨hlv, y, hy, this⟩
      ·rw [I4 e]; exact hl.dn z hz
     ·by_cases e : z = s
      ·subst e; exact absurd hgz hg
      ·rw [I4 e]; exact hl.goal z hz hgz
    ·rw [if_neg cm]
     refine ⟨v, g, b, rfl, hr, hl, .inl ⟨rfl, rfl, fun _ _ m' hm' => ?_⟩⟩
     rw [hm'.unique m2']
     omega) a2 low0
 rw [e1]
 simp only [ob]
 have le : ∀ k : Nat, ∀ s ∈ l, RkP t p k s → g s ≤ k := fun k => by
  induction k with
  | zero => exact fun s hs h => by rw [e3.goal s hs h]; omega
  | succ k ih =>
   intro s hs h
   by_cases hg : i9 t s
   ·rw [e3.goal s hs hg]; omega
   ·rcases h with h | ⟨hl, y, hy, hk⟩
    ·exact absurd h hg
    ·have ho := live_op hp hl
     obtain ⟨m, _, m2⟩ := leastG ht hv.ord (((hv.mem s).1 hs).set ht) ho.1 (fun y hy => hv.closed s hs hg hl y hy) e2
     have := e4 s hs hg hl m m2
     have := m2.2.1 y hy
     have := ih y (hv.closed s hs hg hl y hy) hk
     omega
 have known : ∀ s ∈ l, g s < 1000000000 ↔ ∃ k, RkP t p k s := fun s hs => ⟨fun h => ⟨_, e3.dn s hs h⟩, fun ⟨k, hk⟩ => by
  obtain ⟨m, _, hm⟩ := HtR.of_dn hk
  have := hm.lt hv hs
  have := le m s hs hm.1
  omega⟩
 rcases s9 (body := U5 v) (n := (l.length : Int)) (fun j => if dec (∃ s, ix l j = some s ∧ 1000000000 ≤ g s) = true then some false else none) (by omega) (fun j h0 h1 _ => by
  obtain ⟨s, hs, _⟩ := i7 (l := l) h0 h1
  unfold U5
  rw [e2.get hs]
  simp only [ob]
  by_cases c : 1000000000 ≤ g s
  ·rw [if_pos c, ifP ⟨s, hs, c⟩]
  ·rw [if_neg c, ifN (by rintro ⟨z, hz, h⟩; rw [hs] at hz; cases hz; exact c h)]) with ⟨h1, h2⟩ | ⟨j, o, h0, h1, h2, h3, h4⟩
 ·rw [h1, k8]
  ·rfl
  intro s hs
  have hsl := (hv.mem s).2 hs
  obtain ⟨i, i0, i1, hi⟩ := k9 hsl
  have := h2 i i0 i1
  refine (known s hsl).1 (Int.not_le.1 fun h => ?_)
  rw [ifP ⟨s, hi, h⟩] at this
  cases this
 ·rw [h4]
  split at h2
  ·rename_i e
   cases h2
   obtain ⟨s, hs, h⟩ := k7.1 e
   rw [o4]
   ·rfl
   intro hall
   have := (known s (j3 hs)).2 (hall s ((hv.mem s).1 (j3 hs)))
   omega
  ·cases h2
theorem aa4 (t : b8) (p : List d9) : y7 t p = some true := by
 unfold y7
 obtain ⟨e, e1, e2, e3⟩ := policy_eq t p
 rcases e3 with ⟨rfl, ht, hp⟩ | ⟨hc, _⟩
 ·rw [ccheck_ok ht hp, e2, rKeeps_eq ht hp]
  simp [repeated_eq]
 ·rw [ccheck_bad e1 hc, e2]
  simp [hc, repeated_eq]
end
end Ab
end
