/-
  Texts that the proof stands on.
-/
import Derived.Test.YtbffiagfngopaaaGreatDoorKRwStrongSpec5
set_option linter.all false
section
namespace Ab
open Go
theorem aj4 {α β : Type} {l : List α} {body : Int → List β → Option (List β)} (g : α → List β) (N : Nat) (c0 : List β)
  (hb : ∀ j a c, ix l j = some a → c.length + (g a).length ≤ N → body j c = some (c ++ g a)) (hN : c0.length + (l.flatMap g).length ≤ N) :
  forR 0 (l.length : Int) body c0 = some (c0 ++ l.flatMap g) := by
 obtain ⟨s', h1, h2⟩ := o9 (body := body) (n := (l.length : Int)) (s := c0) (fun j c => c = c0 ++ (l.take j.toNat).flatMap g) (by omega) (by simp) (fun j c h0 h1 hP => by
  obtain ⟨a, g1, g2⟩ := i5 h0 h1
  have e : (j + 1).toNat = j.toNat + 1 := by omega
  have ht : l.take (j + 1).toNat = l.take j.toNat ++ [a] := by rw [e, List.take_add_one, g2]; rfl
  refine ⟨c ++ g a, hb j a c g1 ?_, ?_⟩
  ·have hs : l = l.take j.toNat ++ [a] ++ l.drop (j + 1).toNat := by rw [← ht, List.take_append_drop]
   have hl : (l.flatMap g).length = ((l.take j.toNat).flatMap g).length + (g a).length + ((l.drop (j + 1).toNat).flatMap g).length := by
    conv => lhs; rw [hs]
    simp [List.flatMap_append]; omega
   rw [hP, List.length_append]; omega
  ·rw [ht, List.flatMap_append, hP]; simp)
 rw [h1, h2]
 simp
theorem small_eq : ∀ n : Fin 100, (F2 (n : Nat)).map strL = some (dg (n : Nat)) := by decide +kernel
theorem appendInt_eq {x : Int} (hx : 0 ≤ x ∧ x < 100) {l : List Int} (hl : l.length ≤ 1000000) : x9 x 10 l = some (l ++ dg x) := by
 have h := small_eq ⟨x.toNat, by omega⟩
 rw [show (((⟨x.toNat, by omega⟩ : Fin 100) : Nat) : Int) = x by simp; omega] at h
 obtain ⟨b, h1, h2⟩ := Option.map_eq_some_iff.1 h
 first
  | unfold x9 x5 v8
  | unfold x9 internal_strconv_AppendInt_w2 internal_strconv_AppendUint_w3
 rw [if_neg (by omega), IntKind.wrap_u64, Int.emod_eq_of_lt (by omega) (by omega)]
 simp only [ob, if_true]
 rw [if_pos hx.2, s7 (by omega) (by omega), h1]
 simp only [ob, h2]
 have : (dg x).length ≤ 2 := by unfold dg; split <;> simp
 rw [app, if_pos (by omega)]
 rfl
theorem dg_len (x : Int) : (dg x).length ≤ 2 := by unfold dg; split <;> simp
theorem key_eq {l : LL} (hs : ∀ s ∈ l, small s) (hN : (encK l).length ≤ 900000) : M8 l = some (keyK l) := by
 unfold M8
 rw [aj4 encS 900000 [] (fun j s c hj hc => by
  unfold aa6
  rw [hj]
  simp only [ob]
  have hlen : (encS s).length = (s.flatMap fun x => dg x ++ [44]).length + 1 := by simp [encS]
  rw [aj4 (fun x => dg x ++ [44]) 900000 c (fun i x c' hi hc' => by
   unfold aa5
   rw [hi]
   simp only [List.length_append, List.length_singleton] at hc'
   simp only [ob, appendInt_eq (hs s (i8 hj) x (i8 hi)) (l := c') (by omega)]
   rw [app, if_pos (by simp; omega)]
   simp) (by omega)]
  simp only [ob]
  rw [app, if_pos (by rw [List.length_append]; simp only [List.length_singleton]; omega)]
  simp [encS]) (by simpa [encK] using hN)]
 rfl
theorem encS_len : ∀ s : List Int, (encS s).length ≤ 3 * s.length + 1
 | [] => by simp [encS]
 | x :: s => by
  have := encS_len s
  have := dg_len x
  rw [Y9]
  simp only [List.length_append, List.length_cons]
  omega
end Ab
end
section
namespace Ab
open Go
/-! ### Loops side by side -/
theorem rngN_sim {S1 S2 O1 O2 : Type} {b1 : Int → S1 → Option (S1 ⊕ O1)} {b2 : Int → S2 → Option (S2 ⊕ O2)} (R : Int → S1 → S2 → Prop) (Q : O1 → O2 → Prop) : ∀ (k : Nat) (i : Int) (s1 : S1) (s2 : S2), R i s1 s2 →
  (∀ j s1 s2, i ≤ j → j < i + k → R j s1 s2 → (∃ t1 t2, b1 j s1 = some (.inl t1) ∧ b2 j s2 = some (.inl t2) ∧ R (j + 1) t1 t2) ∨ ∃ o1 o2, b1 j s1 = some (.inr o1) ∧ b2 j s2 = some (.inr o2) ∧ Q o1 o2) →
  (∃ t1 t2, rngN b1 k i s1 = some (.inl t1) ∧ rngN b2 k i s2 = some (.inl t2) ∧ R (i + k) t1 t2) ∨ ∃ o1 o2, rngN b1 k i s1 = some (.inr o1) ∧ rngN b2 k i s2 = some (.inr o2) ∧ Q o1 o2
 | 0, i, s1, s2, h, _ => .inl ⟨s1, s2, rfl, rfl, by simpa using h⟩
 | k + 1, i, s1, s2, h, hb => by
  rcases hb i s1 s2 (Int.le_refl _) (by omega) h with ⟨t1, t2, h1, h2, h3⟩ | ⟨o1, o2, h1, h2, h3⟩
  ·rcases rngN_sim R Q k (i + 1) t1 t2 h3 (fun j s1 s2 g1 g2 => hb j s1 s2 (by omega) (by omega)) with ⟨u1, u2, g1, g2, g3⟩ | ⟨o1, o2, g1, g2, g3⟩
   ·exact .inl ⟨u1, u2, by simp only [rngN, h1]; exact g1, by simp only [rngN, h2]; exact g2, by rw [show i + ((k + 1 : Nat) : Int) = i + 1 + k by omega]; exact g3⟩
   ·exact .inr ⟨o1, o2, by simp only [rngN, h1]; exact g1, by simp only [rngN, h2]; exact g2, g3⟩
  ·exact .inr ⟨o1, o2, by simp only [rngN, h1], by simp only [rngN, h2], h3⟩
theorem rngX_sim {S1 S2 O1 O2 : Type} {b1 : Int → S1 → Option (S1 ⊕ O1)} {b2 : Int → S2 → Option (S2 ⊕ O2)} {n : Int} (R : Int → S1 → S2 → Prop) (Q : O1 → O2 → Prop) {s1 : S1} {s2 : S2} (hn : 0 ≤ n) (h0 : R 0 s1 s2)
  (hb : ∀ j s1 s2, 0 ≤ j → j < n → R j s1 s2 → (∃ t1 t2, b1 j s1 = some (.inl t1) ∧ b2 j s2 = some (.inl t2) ∧ R (j + 1) t1 t2) ∨ ∃ o1 o2, b1 j s1 = some (.inr o1) ∧ b2 j s2 = some (.inr o2) ∧ Q o1 o2) :
  (∃ t1 t2, rngX 0 n b1 s1 = some (.inl t1) ∧ rngX 0 n b2 s2 = some (.inl t2) ∧ R n t1 t2) ∨ ∃ o1 o2, rngX 0 n b1 s1 = some (.inr o1) ∧ rngX 0 n b2 s2 = some (.inr o2) ∧ Q o1 o2 := by
 rcases rngN_sim R Q (n - 0).toNat 0 s1 s2 h0 (fun j s1 s2 g1 g2 => hb j s1 s2 g1 (by omega)) with ⟨t1, t2, h1, h2, h3⟩ | h
 ·exact .inl ⟨t1, t2, h1, h2, by rwa [show (0 : Int) + ((n - 0).toNat : Int) = n by omega] at h3⟩
 ·exact .inr h
theorem Loop_sim {S1 S2 O1 O2 : Type} {b1 : S1 → Option (S1 ⊕ O1)} {b2 : S2 → Option (S2 ⊕ O2)} (R : S1 → S2 → Prop) (Q : O1 → O2 → Prop) (μ : S1 → Nat)
  (hb : ∀ s1 s2, R s1 s2 → (∃ t1 t2, b1 s1 = some (.inl t1) ∧ b2 s2 = some (.inl t2) ∧ R t1 t2 ∧ μ t1 < μ s1) ∨ ∃ o1 o2, b1 s1 = some (.inr o1) ∧ b2 s2 = some (.inr o2) ∧ Q o1 o2) :
  ∀ (k : Nat) (s1 : S1) (s2 : S2), μ s1 < k → R s1 s2 → ∃ o1 o2, Loop b1 s1 = some o1 ∧ Loop b2 s2 = some o2 ∧ Q o1 o2
 | 0, _, _, h, _ => by omega
 | k + 1, s1, s2, h, hs => by
  rcases hb s1 s2 hs with ⟨t1, t2, h1, h2, h3, h4⟩ | ⟨o1, o2, h1, h2, h3⟩
  ·obtain ⟨o1, o2, g1, g2, g3⟩ := Loop_sim R Q μ hb k t1 t2 (by omega) h3
   exact ⟨o1, o2, by rw [F5, h1]; exact g1, by rw [F5, h2]; exact g2, g3⟩
  ·exact ⟨o1, o2, by rw [F5, h1], by rw [F5, h2], h3⟩
/-! ### States as' numbers -/
def wsN : List Int → Nat
 | [] => 0
 | a :: l => 2 ^ a.toNat + wsN l
theorem wsN_append : ∀ {l m : List Int}, wsN (l ++ m) = wsN l + wsN m
 | [], m => by simp [wsN]
 | a :: l, m => by simp only [List.cons_append, wsN, wsN_append (l := l)]; omega
theorem wsN_le : ∀ {l : List Int}, (∀ x ∈ l, x < 24) → wsN l ≤ l.length * 16777216
 | [], _ => by simp [wsN]
 | a :: l, h => by
  have h1 := wsN_le (l := l) fun x hx => h x (List.mem_cons_of_mem _ hx)
  have h2 : 2 ^ a.toNat ≤ 2 ^ 24 := Nat.pow_le_pow_right (by decide) (by have := h a (by simp); omega)
  simp only [wsN, List.length_cons]
  omega
theorem wsN_dvd {k : Nat} : ∀ {l : List Int}, (∀ x ∈ l, k ≤ x.toNat) → 2 ^ k ∣ wsN l
 | [], _ => ⟨0, rfl⟩
 | a :: l, h => Nat.dvd_add (Nat.pow_dvd_pow 2 (h a (by simp))) (wsN_dvd fun x hx => h x (List.mem_cons_of_mem _ hx))
theorem two_pow_no {k : Nat} (h : 2 ^ (k + 1) ∣ 2 ^ k) : False := by
 have h1 := Nat.le_of_dvd (Nat.two_pow_pos k) h
 have h2 := Nat.two_pow_pos k
 rw [Nat.pow_succ] at h1
 omega
theorem wsN_ne {a : Int} {l m : List Int} (ha : 0 ≤ a) (hl : ∀ x ∈ l, a < x) (hm : ∀ x ∈ m, a < x) : wsN (a :: l) ≠ wsN m := fun h => by
 have d1 : 2 ^ (a.toNat + 1) ∣ wsN l := wsN_dvd fun x hx => by have := hl x hx; omega
 have d2 : 2 ^ (a.toNat + 1) ∣ wsN m := wsN_dvd fun x hx => by have := hm x hx; omega
 rw [← h, wsN] at d2
 exact two_pow_no ((Nat.dvd_add_left d1).1 d2)
theorem wsN_inj : ∀ {l m : List Int}, Inc l → Inc m → (∀ x ∈ l, 0 ≤ x) → (∀ x ∈ m, 0 ≤ x) → wsN l = wsN m → l = m
 | [], [], _, _, _, _, _ => rfl
 | [], b :: m, _, _, _, _, h => by
  have := Nat.two_pow_pos b.toNat
  simp only [wsN] at h; omega
 | a :: l, [], _, _, _, _, h => by
  have := Nat.two_pow_pos a.toNat
  simp only [wsN] at h; omega
 | a :: l, b :: m, h1, h2, h3, h4, h => by
  obtain ⟨l1, l2⟩ := List.pairwise_cons.1 h1
  obtain ⟨m1, m2⟩ := List.pairwise_cons.1 h2
  rcases Int.lt_trichotomy a b with c | c | c
  ·exact absurd h (wsN_ne (h3 a (by simp)) l1 fun x hx => by
    rcases List.mem_cons.1 hx with rfl | hx
    ·exact c
    ·have := m1 x hx; omega)
  ·subst c
   simp only [wsN] at h
   rw [wsN_inj l2 m2 (fun x hx => h3 x (List.mem_cons_of_mem _ hx)) (fun x hx => h4 x (List.mem_cons_of_mem _ hx)) (by omega)]
  ·exact absurd h.symm (wsN_ne (h4 b (by simp)) m1 fun x hx => by
    rcases List.mem_cons.1 hx with rfl | hx
    ·exact c
    ·have := l1 x hx; omega)
theorem SetN.word_inj {s s' : List Int} {n : Int} (h : SetN s n) (h' : SetN s' n) (e : wsN s = wsN s') : s = s' :=
 wsN_inj h.1 h'.1 (fun x hx => (h.2 x hx).1) (fun x hx => (h'.2 x hx).1) e
theorem word_eq {s : List Int} {n : Int} (hs : SetN s n) (hn : n ≤ 24) : M4 s = some (wsN s : Int) := by
 have hl := hs.len
 unfold M4
 obtain ⟨w, h1, h2⟩ := o9 (body := W7 s) (n := (s.length : Int)) (s := 0) (fun j w => w = (wsN (s.take j.toNat) : Int)) (by omega) (by simp [wsN]) (fun j w j0 j1 hP => by
  obtain ⟨a, ha, ga⟩ := i5 (l := s) j0 j1
  have hb := hs.2 a (i8 ha)
  have ht : s.take (j + 1).toNat = s.take j.toNat ++ [a] := by rw [show (j + 1).toNat = j.toNat + 1 by omega, List.take_add_one, ga]; rfl
  have b1 : wsN (s.take j.toNat) ≤ (s.take j.toNat).length * 16777216 := wsN_le fun x hx => by have := hs.2 x (List.mem_of_mem_take hx); omega
  have b2 : (s.take j.toNat).length ≤ 24 := by rw [List.length_take]; omega
  have b4 : (s.take j.toNat).length * 16777216 ≤ 24 * 16777216 := Nat.mul_le_mul_right _ b2
  obtain ⟨q, hq⟩ : ∃ q : Nat, q = 2 ^ a.toNat := ⟨_, rfl⟩
  have b3 : q ≤ 16777216 := by rw [hq]; exact (Nat.pow_le_pow_right (by decide) (by omega) : 2 ^ a.toNat ≤ 2 ^ 24)
  have ep : (2 : Int) ^ a.toNat = (q : Int) := by rw [hq]; push_cast; rfl
  unfold W7
  rw [ha]
  simp only [ob]
  rw [IntKind.wrap_u64, Int.emod_eq_of_lt (by omega) (by omega), chk0, if_neg (by omega)]
  simp only [ob]
  have es : shlW .i64 1 a = (q : Int) := by
   unfold shlW
   rw [show min a.toNat (IntKind.i64).bits = a.toNat by simp only [IntKind.bits]; omega, Int.one_mul, ep]
   exact s7 (by omega) (by omega)
  rw [es, s7 (by omega) (by omega), ht, wsN_append, hP]
  refine ⟨_, rfl, ?_⟩
  simp only [wsN, ← hq]
  omega)
 rw [h1, h2, Int.toNat_natCast, List.take_length]
 rfl
theorem SetN.small {s : List Int} {n : Int} (h : SetN s n) (hn : n ≤ 24) : small s := fun x hx => by have := h.2 x hx; omega
theorem key1_eq {s : List Int} (hs : small s) (h1 : s.length ≤ 1000) : M8 [s] = some (keyK [s]) := by
 refine key_eq (by simpa using hs) ?_
 have := encS_len s
 simp only [encK, List.flatMap_cons, List.flatMap_nil, List.length_append, List.append_nil]
 omega
theorem SetN.key_inj {s s' : List Int} {n : Int} (hn : n ≤ 24) (h : SetN s n) (h' : SetN s' n) (e : keyK [s] = keyK [s']) : s = s' := by
 have := keyK_inj (l := [s]) (l' := [s']) (by simpa using h.small hn) (by simpa using h'.small hn) e
 simpa using this
theorem oAfter_eq {t : b9} (ht : j6 t) {op : Int} (h0 : 0 ≤ op) (h1 : op < t.operators.length) {s : List Int} (hs : SetN s t.facts) : G5 t s op = z7 t s op := by
 obtain ⟨st, w, r1, r2, r3, r4, r5, r6⟩ := E5 ht h0 h1 hs
 have ho := ht.at h0 h1
 have hl := ho.l1
 have hn := ht.n1
 rw [r1]
 unfold G5
 rw [ix_oo h0 h1]
 simp only [ob]
 obtain ⟨l, a1, a2, a3, a4, a5⟩ := o9 (body := U3 t s (ooAt t op)) (n := ((ooAt t op).outcomes.length : Int)) (s := []) (fun j l => Ord l ∧ (l.length : Int) ≤ j ∧ (∀ y ∈ l, y.length ≤ 24) ∧ ∀ y, y ∈ l ↔ ∃ k x, k < j ∧ ix (ooAt t op).outcomes k = some x ∧ efc t.facts s x = y) (by omega) ⟨.nil, by simp, by simp, fun y => ⟨fun h => by (cases h), fun ⟨k, x, k1, k2, _⟩ => by have := (j7 k2).1; omega⟩⟩ (fun j l j0 j1 ⟨p1, p2, p3, p4⟩ => by
  obtain ⟨x, hx, _⟩ := i5 (l := (ooAt t op).outcomes) j0 j1
  unfold U3
  rw [hx]
  simp only [ob, effect_eq ht]
  obtain ⟨l', m1, m2, m3, m4⟩ := insert_eq p1 (by omega) (fun y hy => by have := p3 y hy; omega) (efc t.facts s x)
  rw [m1]
  have e24 := (ah6 t.facts s x).len
  refine ⟨l', rfl, m2, by omega, fun y hy => ?_, fun y => ?_⟩
  ·rcases (m3 y).1 hy with rfl | h
   ·omega
   ·exact p3 y h
  ·rw [m3, p4]
   constructor
   ·rintro (rfl | ⟨k, x', k1, k2⟩)
    ·exact ⟨j, x, by omega, hx, rfl⟩
    ·exact ⟨k, x', by omega, k2⟩
   ·rintro ⟨k, x', k1, k2, k3⟩
    by_cases ek : k = j
    ·subst ek
     rw [hx] at k2; cases k2
     exact .inl k3.symm
    ·exact .inr ⟨k, x', by omega, k2, k3⟩)
 have hst : l = st := Ord.ext a2 r2 fun y => by
  rw [a5, r3]
  constructor
  ·rintro ⟨k, x, _, k2, k3⟩; exact ⟨x, i8 k2, k3⟩
  ·rintro ⟨x, hx, k3⟩
   obtain ⟨k, k0, k1, k2⟩ := k9 hx
   exact ⟨k, x, k1, k2, k3⟩
 subst hst
 have hm : mkL 8 (l.length : Int) (0 : Int) = some (List.replicate l.length 0) := by
  rw [mkL, if_pos (by omega)]; simp
 rw [a1]
 simp only [ob, hm]
 have e : forR 0 ((ooAt t op).outcomes.length : Int) (T3 t s (ooAt t op) l) (List.replicate l.length 0) = some w := by
  rw [← r6]
  refine forR_congr fun j c j0 j1 => ?_
  obtain ⟨x, hx, _⟩ := i5 (l := (ooAt t op).outcomes) j0 j1
  obtain ⟨i, e1, e2, e3⟩ := bsets_eq (t := efc t.facts s x) r2 (by omega)
  obtain ⟨r, g1, g2⟩ := ag1 l (efc t.facts s x)
  unfold T3 F9
  rw [hx, ix_map, hx]
  simp only [ob, Option.map_some, effect_eq ht, e1, g1]
  rcases g2 with ⟨_, h⟩ | ⟨_, _, h, _⟩
  ·exact absurd ((r3 _).2 ⟨x, i8 hx, rfl⟩) h
  ·rw [e3 r h]
 rw [e]
 rfl
end Ab
end
section
namespace Ab
open Go
def Ext (a b : LL) : Prop := ∀ k y, ix a k = some y → ix b k = some y
theorem Ext.refl (a : LL) : Ext a a := fun _ _ h => h
theorem Ext.mem {a b : LL} (h : Ext a b) {y : List Int} (hy : y ∈ a) : y ∈ b := by
 obtain ⟨k, _, _, hk⟩ := k9 hy
 exact i8 (h k y hk)
theorem Ext.snoc {a b : LL} (h : Ext a b) (z : List Int) : Ext a (b ++ [z]) := fun k y hk => by
 obtain ⟨i0, i1, g⟩ := j7 (h k y hk)
 rw [ix, if_pos i0, List.getElem?_append_left (by omega), g]
theorem Ext.len {a b : LL} (h : Ext a b) : a.length ≤ b.length := by
 by_cases c : a.length = 0
 ·omega
 ·obtain ⟨y, hy, _⟩ := i5 (l := a) (i := (a.length : Int) - 1) (by omega) (by omega)
  have := (j7 (h _ y hy)).2.1
  omega
structure Rc (t : b9) (l : LL) (m : List (ByteArray × Int)) (ws : List Int) : Prop where
 set : ∀ s ∈ l, SetN s t.facts
 len : l.length ≤ 2000
 map : ∀ s, SetN s t.facts → (0 < Option.getD (mget m (keyK [s])) 0 ↔ s ∈ l)
 wrd : ws = l.map fun s => (wsN s : Int)
theorem Rc.has {t : b9} {l : LL} {m : List (ByteArray × Int)} {ws : List Int} (h : Rc t l m ws) {s : List Int} (hs : SetN s t.facts) : (wsN s : Int) ∈ ws ↔ s ∈ l := by
 rw [h.wrd, List.mem_map]
 constructor
 ·rintro ⟨a, ha, e⟩
  have : a = s := (h.set a ha).word_inj hs (by omega)
  exact this ▸ ha
 ·intro hm; exact ⟨s, hm, rfl⟩
theorem Rc.put {t : b9} (hn : t.facts ≤ 24) {l : LL} {m : List (ByteArray × Int)} {ws : List Int} (h : Rc t l m ws) {s : List Int} (hs : SetN s t.facts) (hl : l.length < 2000) : Rc t (l ++ [s]) (mset m (keyK [s]) 1) (ws ++ [(wsN s : Int)]) := by
 refine ⟨fun y hy => ?_, by simp; omega, fun y hy => ?_, by rw [h.wrd]; simp⟩
 ·rcases List.mem_append.1 hy with g | g
  ·exact h.set y g
  ·simp only [List.mem_singleton] at g; subst g; exact hs
 ·rw [aa2, List.mem_append, List.mem_singleton]
  by_cases e : keyK [y] = keyK [s]
  ·have := SetN.key_inj hn hy hs e
   subst this
   rw [if_pos rfl]
   simp
  ·rw [if_neg e, h.map y hy]
   constructor
   ·exact .inl
   ·rintro (g | g)
    ·exact g
    ·exact absurd (by rw [g]) e
theorem reach4 {t : b9} (ht : j6 t) {st : LL} {w : List Int} (hst : ∀ y ∈ st, SetN y t.facts) {l0 : LL} {m0 : List (ByteArray × Int)} {ws0 : List Int} (h0 : Rc t l0 m0 ws0) :
  (∃ p q, rngX 0 (st.length : Int) (D5 (st, w)) (l0, m0) = some (.inl p) ∧ rngX 0 (st.length : Int) (l9 2000 (st, w)) (l0, ws0) = some (.inl q) ∧ q.1 = p.1 ∧ Rc t p.1 p.2 q.2 ∧ Ext l0 p.1 ∧ ∀ y ∈ st, y ∈ p.1) ∨ ∃ o1 o2, rngX 0 (st.length : Int) (D5 (st, w)) (l0, m0) = some (.inr o1) ∧ rngX 0 (st.length : Int) (l9 2000 (st, w)) (l0, ws0) = some (.inr o2) ∧ o1 = ([], false) ∧ o2 = ([], false) := by
 have hn := ht.n1
 rcases rngX_sim (b1 := D5 (st, w)) (b2 := l9 2000 (st, w)) (n := (st.length : Int)) (s1 := (l0, m0)) (s2 := (l0, ws0)) (fun j p q => q.1 = p.1 ∧ Rc t p.1 p.2 q.2 ∧ Ext l0 p.1 ∧ ∀ k y, k < j → ix st k = some y → y ∈ p.1) (fun o1 o2 => o1 = ([], false) ∧ o2 = ([], false)) (by omega) ⟨rfl, h0, .refl _, fun k y k0 hk => by have := (j7 hk).1; omega⟩ (fun j ⟨l, m⟩ ⟨l', ws⟩ j0 j1 ⟨e, g1, g2, g3⟩ => by
  dsimp only at e g1 g2 g3
  subst e
  obtain ⟨y, hy, _⟩ := i5 (l := st) j0 j1
  have hs := hst y (i8 hy)
  have hyl := hs.len
  unfold D5 l9
  dsimp only
  rw [hy]
  simp only [ob]
  rw [key1_eq (hs.small hn) (by omega), word_eq hs hn]
  simp only [ob, has_eq]
  have mono : ∀ {l2 : LL}, Ext l' l2 → y ∈ l2 → ∀ k z, k < j + 1 → ix st k = some z → z ∈ l2 := fun h1 h2 k z hk hz => by
   by_cases ek : k = j
   ·subst ek; rw [hy] at hz; cases hz; exact h2
   ·exact h1.mem (g3 k z (by omega) hz)
  by_cases c : y ∈ l'
  ·rw [if_pos ((g1.map y hs).2 c), ifP ((g1.has hs).2 c)]
   exact .inl ⟨_, _, rfl, rfl, rfl, g1, g2, mono (.refl _) c⟩
  ·rw [if_neg (fun h => c ((g1.map y hs).1 h)), ifN (fun h => c ((g1.has hs).1 h))]
   have hlen := g1.len
   by_cases c2 : (l'.length : Int) = 2000
   ·rw [if_pos c2, if_pos (by omega)]
    exact .inr ⟨_, _, rfl, rfl, rfl, rfl⟩
   ·rw [if_neg c2, if_neg (by omega), app, if_pos (by simp; omega)]
    simp only [ob]
    rw [app, if_pos (by rw [g1.wrd]; simp; omega)]
    exact .inl ⟨_, _, rfl, rfl, rfl, g1.put hn hs (by omega), g2.snoc _, mono ((Ext.refl _).snoc _) (by simp)⟩) with ⟨p, q, h1, h2, h3, h4, h5, h6⟩ | h
 ·refine .inl ⟨p, q, h1, h2, h3, h4, h5, fun y hy => ?_⟩
  obtain ⟨k, _, k1, hk⟩ := k9 hy
  exact h6 k y k1 hk
 ·exact .inr h
def ClS (t : b9) (l : LL) (s : List Int) (n : Int) : Prop := ∀ op : Int, 0 ≤ op → op < n → oCan t s op → ∀ x ∈ (ooAt t op).outcomes, efc t.facts s x ∈ l
theorem ClS.ext {t : b9} {l l' : LL} {s : List Int} {n : Int} (h : ClS t l s n) (e : Ext l l') : ClS t l' s n := fun op h0 h1 hc x hx => e.mem (h op h0 h1 hc x hx)
theorem reach2 {t : b9} (ht : j6 t) {l0 : LL} {m0 : List (ByteArray × Int)} {ws0 : List Int} (h0 : Rc t l0 m0 ws0) {at_ : Int} {s : List Int} (hs : ix l0 at_ = some s) :
  (∃ p q, rngX 0 (t.operators.length : Int) (D6 t at_) (l0, m0) = some (.inl p) ∧ rngX 0 (t.operators.length : Int) (l5 t 2000 at_) (l0, ws0) = some (.inl q) ∧ q.1 = p.1 ∧ Rc t p.1 p.2 q.2 ∧ Ext l0 p.1 ∧ ClS t p.1 s t.operators.length) ∨ ∃ o1 o2, rngX 0 (t.operators.length : Int) (D6 t at_) (l0, m0) = some (.inr o1) ∧ rngX 0 (t.operators.length : Int) (l5 t 2000 at_) (l0, ws0) = some (.inr o2) ∧ o1 = ([], false) ∧ o2 = ([], false) := by
 have hset := h0.set s (i8 hs)
 exact rngX_sim (b1 := D6 t at_) (b2 := l5 t 2000 at_) (n := (t.operators.length : Int)) (s1 := (l0, m0)) (s2 := (l0, ws0)) (fun j p q => q.1 = p.1 ∧ Rc t p.1 p.2 q.2 ∧ Ext l0 p.1 ∧ ClS t p.1 s j) (fun o1 o2 => o1 = ([], false) ∧ o2 = ([], false)) (by omega) ⟨rfl, h0, .refl _, fun op a b => by omega⟩ (fun j ⟨l, m⟩ ⟨l', ws⟩ j0 j1 ⟨e, g1, g2, g3⟩ => by
  dsimp only at e g1 g2 g3
  subst e
  unfold D6 l5
  dsimp only
  rw [g2 _ _ hs]
  simp only [ob]
  rw [oCan_eq ht j0 j1 hset, Y7 j0 j1]
  simp only [ob, u3]
  have step : ∀ {l2 : LL}, Ext l' l2 → (oCan t s j → ∀ x ∈ (ooAt t j).outcomes, efc t.facts s x ∈ l2) → ClS t l2 s (j + 1) := fun h1 h2 op a b hc x hx => by
   by_cases eo : op = j
   ·subst eo; exact h2 hc x hx
   ·exact h1.mem (g3 op a (by omega) hc x hx)
  by_cases c : oCan t s j
  ·rw [ifNN c, ifNN c, oAfter_eq ht j0 j1 hset]
   obtain ⟨st, w, r1, r2, r3, _⟩ := E5 ht j0 j1 hset
   rw [r1]
   simp only [ob]
   rcases reach4 ht (st := st) (w := w) (fun y hy => by
    obtain ⟨x, _, rfl⟩ := (r3 y).1 hy
    exact ah6 _ _ _) g1 with ⟨p, q, h1, h2, h3, h4, h5, h6⟩ | ⟨o1, o2, h1, h2, h3, h4⟩
   ·rw [h1, h2]
    refine .inl ⟨p, q, rfl, rfl, h3, h4, fun k y hk => h5 k y (g2 k y hk), step h5 fun _ x hx => h6 _ ((r3 _).2 ⟨x, hx, rfl⟩)⟩
   ·rw [h1, h2]
    exact .inr ⟨o1, o2, rfl, rfl, h3, h4⟩
  ·rw [ifP c, ifP c]
   exact .inl ⟨_, _, rfl, rfl, rfl, g1, g2, step (.refl _) fun h => absurd h c⟩)
structure Cl (t : b9) (l : LL) : Prop where
 len : l.length ≤ 2000
 set : ∀ s ∈ l, SetN s t.facts
 init : t.init ∈ l
 closed : ∀ s ∈ l, ClS t l s t.operators.length
theorem reach_full {t : b9} (ht : j6 t) : (∃ out, A5 t = some (out, true) ∧ p7 t 2000 = some (out, true) ∧ Cl t out ∧ Ord out ∧ ∃ l, Loop (l8 t 2000) ([t.init], [(wsN t.init : Int)], 0) = some (.inl l) ∧ out.length ≤ l.length) ∨ (A5 t = some ([], false) ∧ p7 t 2000 = some ([], false)) := by
 have hn := ht.n1
 have hi := ht.init
 have hil := hi.len
 unfold A5 p7
 rw [ac3 (by omega)]
 simp only [ob]
 rw [key1_eq (hi.small hn) (by omega), word_eq hi hn]
 simp only [ob]
 rw [app, if_pos (by simp)]
 simp only [ob, List.nil_append]
 have r0 : Rc t [t.init] (mset ([] : List (ByteArray × Int)) (keyK [t.init]) 1) [(wsN t.init : Int)] := by
  refine ⟨by simpa using hi, by simp, fun s hs => ?_, rfl⟩
  rw [aa2]
  by_cases e : keyK [s] = keyK [t.init]
  ·rw [if_pos e, SetN.key_inj hn hs hi e]; simp
  ·rw [if_neg e]
   simp only [mget, List.mem_singleton, Option.getD_none]
   exact ⟨fun h => by omega, fun h => absurd (by rw [h]) e⟩
 obtain ⟨o1, o2, q1, q2, q3⟩ := Loop_sim (b1 := x7 t) (b2 := l8 t 2000) (fun p q => q.1 = p.1 ∧ q.2.2 = p.2.2 ∧ Rc t p.1 p.2.1 q.2.1 ∧ 0 ≤ p.2.2 ∧ p.2.2 ≤ p.1.length ∧ t.init ∈ p.1 ∧ ∀ i s, i < p.2.2 → ix p.1 i = some s → ClS t p.1 s t.operators.length) (fun o1 o2 => (∃ l, o1 = .inl l ∧ o2 = .inl l ∧ Cl t l) ∨ (o1 = .inr ([], false) ∧ o2 = .inr ([], false))) (fun p => (2000 - p.2.2).toNat) (fun ⟨l, m, a⟩ ⟨l', ws, a'⟩ ⟨e1, e2, g1, g2, g3, g4, g5⟩ => by
  dsimp only at e1 e2 g1 g2 g3 g4 g5
  subst e1 e2
  have hlen := g1.len
  unfold x7 l8
  dsimp only
  by_cases c : a' < l'.length
  ·rw [if_pos c, if_pos c]
   obtain ⟨s, hs, _⟩ := i5 (l := l') g2 c
   rcases reach2 ht g1 hs with ⟨p, q, h1, h2, h3, h4, h5, h6⟩ | ⟨o1, o2, h1, h2, h3, h4⟩
   ·rw [h1, h2]
    have := h5.len
    have := h4.len
    simp only [ob]
    rw [s7 (by omega) (by omega)]
    refine .inl ⟨_, _, rfl, rfl, ⟨h3, rfl, h4, by dsimp only; omega, by dsimp only; omega, h5.mem g4, fun i s' hi' hs' => ?_⟩, by dsimp only; omega⟩
    dsimp only at hi' hs' ⊢
    by_cases ei : i = a'
    ·subst ei
     rw [h5 _ _ hs] at hs'; cases hs'
     exact h6
    ·obtain ⟨y, hy, _⟩ := i5 (l := l') (i := i) (j7 hs').1 (by omega)
     have hy2 := h5 _ _ hy
     rw [hs'] at hy2
     cases hy2
     exact (g5 i s' (by omega) hy).ext h5
   ·rw [h1, h2]
    refine .inr ⟨_, _, rfl, rfl, .inr ⟨by rw [h3], by rw [h4]⟩⟩
  ·rw [if_neg c, if_neg c]
   refine .inr ⟨_, _, rfl, rfl, .inl ⟨l', rfl, rfl, g1.len, g1.set, g4, fun s hs => ?_⟩⟩
   obtain ⟨i, i0, i1, hi⟩ := k9 hs
   exact g5 i s (by omega) hi) _ ([t.init], mset ([] : List (ByteArray × Int)) (keyK [t.init]) 1, 0) ([t.init], [(wsN t.init : Int)], 0) (Nat.lt_succ_self _) ⟨rfl, rfl, r0, by simp, by simp, by simp, fun i s hi hs => by have := (j7 hs).1; dsimp only at hi; omega⟩
 rw [q1, q2]
 rcases q3 with ⟨l, rfl, rfl, hc⟩ | ⟨rfl, rfl⟩
 ·left
  simp only [ob]
  have hcl := hc.len
  obtain ⟨r, n1, n2, n3, n4⟩ := ae3 (l := l) (by omega)
  rw [n1]
  obtain ⟨l', a1, a2, a3, a4, a5⟩ := o9 (body := J2 l) (n := (l.length : Int)) (s := []) (fun j l' => Ord l' ∧ (l'.length : Int) ≤ j ∧ (∀ y ∈ l', y.length ≤ 24) ∧ ∀ y, y ∈ l' ↔ ∃ k, k < j ∧ ix l k = some y) (by omega) ⟨.nil, by simp, by simp, fun y => ⟨fun h => by (cases h), fun ⟨k, k1, k2⟩ => by have := (j7 k2).1; omega⟩⟩ (fun j l' j0 j1 ⟨p1, p2, p3, p4⟩ => by
   obtain ⟨s, hs, _⟩ := i5 (l := l) j0 j1
   unfold J2
   rw [hs]
   simp only [ob]
   obtain ⟨l2, m1, m2, m3, m4⟩ := insert_eq p1 (by omega) (fun y hy => by have := p3 y hy; omega) s
   rw [m1]
   have e24 := (hc.set s (i8 hs)).len
   refine ⟨l2, rfl, m2, by omega, fun y hy => ?_, fun y => ?_⟩
   ·rcases (m3 y).1 hy with rfl | h
    ·omega
    ·exact p3 y h
   ·rw [m3, p4]
    constructor
    ·rintro (rfl | ⟨k, k1, k2⟩)
     ·exact ⟨j, by omega, hs⟩
     ·exact ⟨k, by omega, k2⟩
    ·rintro ⟨k, k1, k2⟩
     by_cases ek : k = j
     ·subst ek
      rw [hs] at k2; cases k2
      exact .inl rfl
     ·exact .inr ⟨k, by omega, k2⟩)
  rw [a1]
  have : l' = r := Ord.ext a2 n2 fun y => by
   rw [a5, n3]
   constructor
   ·rintro ⟨k, _, k2⟩; exact i8 k2
   ·intro hy
    obtain ⟨k, _, k1, hk⟩ := k9 hy
    exact ⟨k, k1, hk⟩
  subst this
  refine ⟨l', rfl, rfl, ⟨by omega, fun s hs => hc.set s ((n3 s).1 hs), (n3 _).2 hc.init, fun s hs op h0 h1 hcan x hx => (n3 _).2 (hc.closed s ((n3 s).1 hs) op h0 h1 hcan x hx)⟩, a2, l, rfl, n4⟩
 ·right
  exact ⟨rfl, rfl⟩
theorem explore_ok {t : b9} (ht : j6 t) : I1 t = (A5 t).bind fun r => if r.2 = true then some (r.1, ⟨0, 0⟩) else some ([], ⟨10, -7⟩) := by
 obtain ⟨f, h1, _, h3⟩ := ac8 t
 rcases h3 with ⟨rfl, _⟩ | ⟨_, hn⟩
 ·unfold I1
  rw [h1]
  simp only [ob]
  rw [if_neg (by simp)]
  congr 1
  funext r
  cases r.2 <;> rfl
 ·exact absurd ht hn
theorem explore_bad {t : b9} {f : k6} (hv : D2 t = some f) (hc : f.code ≠ 0) : I1 t = some ([], f) := by
 unfold I1
 rw [hv]
 simp only [ob]
 rw [if_pos (fault_no hc)]
end Ab
end
section
namespace Ab
open Go
theorem Q3 {α : Type} [DecidableEq α] : ∀ {c S : List α}, c.Nodup → (∀ x ∈ c, x ∈ S) → c.length ≤ S.length
 | [], _, _, _ => Nat.zero_le _
 | a :: c, S, h, hs => by
  obtain ⟨h1, h2⟩ := List.nodup_cons.1 h
  have ha := hs a (by simp)
  have := Q3 (c := c) (S := S.erase a) h2 fun x hx => by
   have hne : x ≠ a := fun e => h1 (e ▸ hx)
   exact (List.mem_erase_of_ne hne).2 (hs x (List.mem_cons_of_mem _ hx))
  rw [List.length_erase_of_mem ha] at this
  have : 0 < S.length := List.length_pos_of_mem ha
  simp only [List.length_cons]
  omega
section
variable {α : Type}
def Dn (G L : α → Prop) (nx : α → List α) : Nat → α → Prop
 | 0, s => G s
 | k + 1, s => G s ∨ (L s ∧ ∀ y ∈ nx s, Dn G L nx k y)
variable {G L : α → Prop} {nx : α → List α}
theorem Dn.goal {k : Nat} {s : α} (h : G s) : Dn G L nx k s := by
 cases k with
 | zero => exact h
 | succ k => exact .inl h
theorem Dn.succ : ∀ {k : Nat} {s : α}, Dn G L nx k s → Dn G L nx (k + 1) s
 | 0, s, h => .inl h
 | k + 1, s, h => by
  rcases h with h | ⟨h1, h2⟩
  ·exact .inl h
  ·exact .inr ⟨h1, fun y hy => (h2 y hy).succ⟩
theorem Dn.mono {k m : Nat} {s : α} (h : Dn G L nx k s) (hm : k ≤ m) : Dn G L nx m s := by
 induction hm with
 | refl => exact h
 | step _ ih => exact ih.succ
def Ht (G L : α → Prop) (nx : α → List α) (k : Nat) (s : α) : Prop := Dn G L nx k s ∧ ∀ j, j < k → ¬ Dn G L nx j s
theorem Ht.unique {k m : Nat} {s : α} (h : Ht G L nx k s) (h' : Ht G L nx m s) : k = m := by
 rcases Nat.lt_trichotomy k m with c | c | c
 ·exact absurd h.1 (h'.2 k c)
 ·exact c
 ·exact absurd h'.1 (h.2 m c)
theorem Ht.le {k m : Nat} {s : α} (h : Ht G L nx k s) (h' : Dn G L nx m s) : k ≤ m := by
 rcases Nat.lt_or_ge m k with c | c
 ·exact absurd h' (h.2 m c)
 ·exact c
theorem Ht.of_dn : ∀ {k : Nat} {s : α}, Dn G L nx k s → ∃ m, m ≤ k ∧ Ht G L nx m s
 | 0, s, h => ⟨0, Nat.le_refl _, h, fun j hj => by omega⟩
 | k + 1, s, h => by
  by_cases c : Dn G L nx k s
  ·obtain ⟨m, h1, h2⟩ := Ht.of_dn c
   exact ⟨m, by omega, h2⟩
  ·exact ⟨k + 1, Nat.le_refl _, h, fun j hj hd => c (hd.mono (by omega))⟩
theorem Ht.zero {s : α} (h : G s) : Ht G L nx 0 s := ⟨h, fun j hj => by omega⟩
theorem Ht.goal {k : Nat} {s : α} (h : Ht G L nx k s) (hg : G s) : k = 0 := h.unique (.zero hg)
theorem Ht.step {k : Nat} {s : α} (h : Ht G L nx k s) (hg : ¬ G s) (hne : ∀ s, L s → nx s ≠ []) : ∃ m, k = m + 1 ∧ L s ∧ (∀ y ∈ nx s, ∃ j, j ≤ m ∧ Ht G L nx j y) ∧ ∃ y ∈ nx s, Ht G L nx m y := by
 cases k with
 | zero => exact absurd h.1 hg
 | succ m =>
  rcases h.1 with g | ⟨h1, h2⟩
  ·exact absurd g hg
  ·refine ⟨m, rfl, h1, fun y hy => Ht.of_dn (h2 y hy), ?_⟩
   cases m with
   | zero =>
    obtain ⟨y, hy⟩ := List.exists_mem_of_ne_nil _ (hne s h1)
    exact ⟨y, hy, h2 y hy, fun j hj => by omega⟩
   | succ m =>
    have hn := h.2 (m + 1) (by omega)
    have : ∃ y ∈ nx s, ¬ Dn G L nx m y := Classical.byContradiction fun hc => hn (.inr ⟨h1, fun y hy => Classical.byContradiction fun hy2 => hc ⟨y, hy, hy2⟩⟩)
    obtain ⟨y, hy, hy2⟩ := this
    exact ⟨y, hy, h2 y hy, fun j hj hd => hy2 (hd.mono (by omega))⟩
theorem Ht.of_succ {m : Nat} {s : α} (hg : ¬ G s) (hL : L s) (h1 : ∀ y ∈ nx s, ∃ j, j ≤ m ∧ Ht G L nx j y) (h2 : ∃ y ∈ nx s, Ht G L nx m y) : Ht G L nx (m + 1) s := by
 refine ⟨.inr ⟨hL, fun y hy => by obtain ⟨j, hj, h⟩ := h1 y hy; exact h.1.mono hj⟩, fun j hj hd => ?_⟩
 cases j with
 | zero => exact hg hd
 | succ j =>
  rcases hd with g | ⟨_, hd⟩
  ·exact hg g
  ·obtain ⟨y, hy, h⟩ := h2
   have := h.le (hd y hy)
   omega
theorem Ht.chain [DecidableEq α] {S : List α} (hcl : ∀ s ∈ S, ¬ G s → L s → ∀ y ∈ nx s, y ∈ S) (hne : ∀ s, L s → nx s ≠ []) : ∀ {k : Nat} {s : α}, Ht G L nx k s → s ∈ S → ∃ c : List α, c.length = k + 1 ∧ c.Nodup ∧ (∀ x ∈ c, x ∈ S) ∧ ∀ x ∈ c, ∃ j, j ≤ k ∧ Ht G L nx j x
 | 0, s, h, hs => ⟨[s], rfl, by simp, by simpa using hs, fun x hx => ⟨0, Nat.le_refl _, by simp only [List.mem_singleton] at hx; exact hx ▸ h⟩⟩
 | k + 1, s, h, hs => by
  have hg : ¬ G s := fun g => by have := h.goal g; omega
  obtain ⟨m, e, hL, _, y, hy, hy2⟩ := h.step hg hne
  have : m = k := by omega
  subst this
  obtain ⟨c, c1, c2, c3, c4⟩ := Ht.chain hcl hne hy2 (hcl s hs hg hL y hy)
  refine ⟨s :: c, by simp [c1], List.nodup_cons.2 ⟨fun hc => ?_, c2⟩, fun x hx => ?_, fun x hx => ?_⟩
  ·obtain ⟨j, hj, hj2⟩ := c4 s hc
   have := hj2.unique h
   omega
  ·rcases List.mem_cons.1 hx with rfl | hx
   ·exact hs
   ·exact c3 x hx
  ·rcases List.mem_cons.1 hx with rfl | hx
   ·exact ⟨_, Nat.le_refl _, h⟩
   ·obtain ⟨j, hj, hj2⟩ := c4 x hx
    exact ⟨j, by omega, hj2⟩
theorem Ht.lt [DecidableEq α] {S : List α} (hcl : ∀ s ∈ S, ¬ G s → L s → ∀ y ∈ nx s, y ∈ S) (hne : ∀ s, L s → nx s ≠ []) {k : Nat} {s : α} (h : Ht G L nx k s) (hs : s ∈ S) : k < S.length := by
 obtain ⟨c, c1, c2, c3, _⟩ := Ht.chain hcl hne h hs
 have := Q3 c2 c3
 omega
end
end Ab
end
section
namespace Ab
open Go
def j3 (t : b9) (s : List Int) : Prop := ∀ x ∈ t.goal, x ∈ s
noncomputable def C2 (p : List d7) (s : List Int) : Prop := 0 ≤ chO p s
noncomputable def nxS (t : b9) (p : List d7) (s : List Int) : LL := (ooAt t (chO p s)).outcomes.map (efc t.facts s)
inductive Rch (t : b9) (p : List d7) : List Int → Prop
 | init : Rch t p t.init
 | step {s y : List Int} : Rch t p s → ¬ j3 t s → C2 p s → y ∈ nxS t p s → Rch t p y
theorem chO_mem {p : List d7} {s : List Int} (h : 0 ≤ chO p s) : ∃ c ∈ p, c.state = s ∧ chO p s = c.operator := by
 obtain ⟨r, h1, h2⟩ := X0 p s
 have e : chO p s = r := by rw [chO, h1]; rfl
 rw [e] at h ⊢
 rcases h2 with ⟨rfl, _⟩ | ⟨c, h3, h4, h5⟩
 ·omega
 ·exact ⟨c, h3, h4, h5⟩
theorem live_op {t : b9} {p : List d7} (hp : C3 t p) {s : List Int} (h : C2 p s) : (0 ≤ chO p s ∧ chO p s < t.operators.length) ∧ oCan t s (chO p s) := by
 obtain ⟨_, e⟩ := V8 hp s
 unfold C2 at h
 rcases e with e | e
 ·omega
 ·exact ⟨⟨e.1, e.2.1⟩, e.2.2⟩
theorem Rch.set {t : b9} (ht : j6 t) {p : List d7} {s : List Int} (h : Rch t p s) : SetN s t.facts := by
 cases h with
 | init => exact ht.init
 | step _ _ _ hy =>
  obtain ⟨x, _, rfl⟩ := List.mem_map.1 hy
  exact ah6 _ _ _
noncomputable def candK (t : b9) (p : List d7) : LL := t.init :: p.flatMap fun c => (ooAt t c.operator).outcomes.map (efc t.facts c.state)
theorem flat_len {α β : Type} {f : α → List β} {n : Nat} : ∀ {l : List α}, (∀ a ∈ l, (f a).length ≤ n) → (l.flatMap f).length ≤ l.length * n
 | [], _ => by simp
 | a :: l, h => by
  have h1 := h a (by simp)
  have h2 := flat_len (l := l) fun b hb => h b (List.mem_cons_of_mem _ hb)
  rw [List.flatMap_cons, List.length_append, List.length_cons, Nat.succ_mul]
  omega
theorem candK_len {t : b9} (ht : j6 t) {p : List d7} (hp : C3 t p) : (candK t p).length ≤ 801 := by
 have h := flat_len (f := fun c : d7 => (ooAt t c.operator).outcomes.map (efc t.facts c.state)) (n := 4) (l := p) fun c hc => by
  have := hp.op c hc
  have := (ht.at this.1 this.2).l1
  simpa using this
 have := hp.len
 have h2 : p.length * 4 ≤ 200 * 4 := Nat.mul_le_mul_right _ this
 unfold candK
 rw [List.length_cons]
 omega
theorem Rch.cand {t : b9} {p : List d7} {s : List Int} (h : Rch t p s) : s ∈ candK t p := by
 cases h with
 | init => exact List.mem_cons_self ..
 | @step s y _ _ hl hy =>
  obtain ⟨c, h1, h2, h3⟩ := chO_mem hl
  refine List.mem_cons_of_mem _ (List.mem_flatMap.2 ⟨c, h1, ?_⟩)
  unfold nxS at hy
  rw [h3] at hy
  rw [h2]
  exact hy
theorem X7 {t : b9} (ht : j6 t) {p : List d7} (hp : C3 t p) {l : LL} (hn : l.Nodup) (h : ∀ s ∈ l, Rch t p s) : l.length ≤ 801 :=
 Nat.le_trans (Q3 hn fun s hs => (h s hs).cand) (candK_len ht hp)
theorem Ord.nodup {l : LL} (h : Ord l) : l.Nodup := List.Pairwise.imp (fun {a b : List Int} (hab : llt a b) (e : a = b) => E6 a (by rw [← e] at hab; exact hab)) h
def ClV (t : b9) (p : List d7) (l : LL) (s : List Int) : Prop := ¬ j3 t s → C2 p s → ∀ y ∈ nxS t p s, y ∈ l
structure Vis (t : b9) (p : List d7) (l : LL) : Prop where
 ord : Ord l
 mem : ∀ s, s ∈ l ↔ Rch t p s
theorem vis_of {t : b9} {p : List d7} {l : LL} (ho : Ord l) (hi : t.init ∈ l) (hr : ∀ s ∈ l, Rch t p s) (hc : ∀ s ∈ l, ClV t p l s) : Vis t p l := by
 refine ⟨ho, fun s => ⟨hr s, fun h => ?_⟩⟩
 induction h with
 | init => exact hi
 | step _ hg hl hy ih => exact hc _ ih hg hl _ hy
theorem containsLL_eq {l : LL} {s : List Int} : w6 l (fun y => H4 y s) = some (dec (s ∈ l)) := by
 unfold w6 F0
 rcases y8 (body := B6 l fun y => H4 y s) (n := (l.length : Int)) (fun j => if dec (ix l j = some s) = true then some j else none) (by omega) (fun j h0 h1 _ => by
  obtain ⟨x, hx, _⟩ := i5 (l := l) h0 h1
  unfold B6 H4
  rw [hx]
  simp only [ob, equal_eq]
  by_cases e : x = s
  ·rw [ifP e, ifP (by rw [e])]
  ·rw [ifN e, ifN (by simpa using e)]) with ⟨h1, h2⟩ | ⟨j, o, h0, h1, h2, h3, h4⟩
 ·rw [h1]
  simp only [ob]
  rw [w7]
  ·rfl
  ·intro hs
   obtain ⟨i, i0, i1, hi⟩ := k9 hs
   have := h2 i i0 i1
   rw [ifP hi] at this
   cases this
 ·rw [h4]
  split at h2
  ·rename_i e
   cases h2
   simp only [ob]
   rw [m7 (i8 (l7.1 e)), decide_eq_true h0]
  ·cases h2
theorem vis4 {t : b9} (ht : j6 t) {p : List d7} (hp : C3 t p) {s : List Int} (hs : Rch t p s) (hg : ¬ j3 t s) (hl : C2 p s) {st : LL} {w : List Int} (hst : ∀ y, y ∈ st ↔ y ∈ nxS t p s) {l0 : LL} (hn : l0.Nodup) (hr : ∀ s ∈ l0, Rch t p s) :
  ∃ l, forR 0 (st.length : Int) (K6 (st, w)) l0 = some l ∧ l.Nodup ∧ (∀ s ∈ l, Rch t p s) ∧ Ext l0 l ∧ ∀ y ∈ st, y ∈ l := by
 obtain ⟨l, h1, h2, h3, h4, h5⟩ := o9 (body := K6 (st, w)) (n := (st.length : Int)) (s := l0) (fun j l => l.Nodup ∧ (∀ s ∈ l, Rch t p s) ∧ Ext l0 l ∧ ∀ k y, k < j → ix st k = some y → y ∈ l) (by omega) ⟨hn, hr, .refl _, fun k y hk h => by have := (j7 h).1; omega⟩ (fun j l j0 j1 ⟨a1, a2, a3, a4⟩ => by
  obtain ⟨y, hy, _⟩ := i5 (l := st) j0 j1
  unfold K6
  dsimp only
  rw [hy]
  simp only [ob, containsLL_eq, u3]
  have mono : ∀ {l2 : LL}, Ext l l2 → y ∈ l2 → ∀ k z, k < j + 1 → ix st k = some z → z ∈ l2 := fun h1 h2 k z hk hz => by
   by_cases ek : k = j
   ·subst ek; rw [hy] at hz; cases hz; exact h2
   ·exact h1.mem (a4 k z (by omega) hz)
  have hry : Rch t p y := .step hs hg hl ((hst y).1 (i8 hy))
  by_cases c : y ∈ l
  ·rw [ifNN c]
   exact ⟨l, rfl, a1, a2, a3, mono (.refl _) c⟩
  ·have hlen := X7 ht hp a1 a2
   rw [ifP c, app, if_pos (by simp; omega)]
   refine ⟨_, rfl, List.nodup_append.2 ⟨a1, by simp, fun a ha b hb => ?_⟩, fun z hz => ?_, a3.snoc _, mono ((Ext.refl _).snoc _) (by simp)⟩
   ·simp only [List.mem_singleton] at hb; subst hb; exact fun e => c (e ▸ ha)
   ·rcases List.mem_append.1 hz with g | g
    ·exact a2 z g
    ·simp only [List.mem_singleton] at g; exact g ▸ hry)
 refine ⟨l, h1, h2, h3, h4, fun y hy => ?_⟩
 obtain ⟨k, _, k1, hk⟩ := k9 hy
 exact h5 k y k1 hk
theorem oVisited_eq {t : b9} (ht : j6 t) {p : List d7} (hp : C3 t p) : ∃ l, Q8 t p = some l ∧ Vis t p l := by
 have hn := ht.n1
 have hil := ht.init.len
 unfold Q8
 rw [ac3 (by omega)]
 simp only [ob]
 obtain ⟨l, h1, h2, h3, h4, h5⟩ := C4 (body := P1 t p) (fun q => q.1.Nodup ∧ (∀ s ∈ q.1, Rch t p s) ∧ t.init ∈ q.1 ∧ (0 ≤ q.2 ∧ q.2 ≤ q.1.length) ∧ ∀ i s, i < q.2 → ix q.1 i = some s → ClV t p q.1 s) (fun l => l.Nodup ∧ (∀ s ∈ l, Rch t p s) ∧ t.init ∈ l ∧ ∀ s ∈ l, ClV t p l s) (fun q => (801 - q.2).toNat) (s := ([t.init], 0)) ⟨by simp, by simpa using Rch.init, by simp, by simp, fun i s hi h => by have := (j7 h).1; dsimp only at hi; omega⟩ (fun ⟨l, a⟩ ⟨g1, g2, g3, g4, g5⟩ => by
  dsimp only at g1 g2 g3 g4 g5 ⊢
  have hlen := X7 ht hp g1 g2
  unfold P1
  dsimp only
  by_cases c : a < l.length
  ·rw [if_pos c]
   obtain ⟨s, hs, _⟩ := i5 (l := l) g4.1 c
   have hrs := g2 s (i8 hs)
   have hset := hrs.set ht
   have hsl := hset.len
   rw [hs]
   simp only [ob, (V8 hp s).1, L3 hset.1 ht.goal.1 (show s.length ≤ 1000000 by omega)]
   have key : (if chO p s < 0 then some true else some (dec (∀ x ∈ t.goal, x ∈ s))) = some (dec (chO p s < 0 ∨ j3 t s)) := by
    unfold j3
    rw [← ifOr]
    by_cases h : chO p s < 0
    ·rw [if_pos h, ifP h]
    ·rw [if_neg h, ifN h]
   rw [key]
   simp only [ob]
   have fin : ∀ {l2 : LL}, Ext l l2 → ClV t p l2 s → ∀ i z, i < a + 1 → ix l2 i = some z → ClV t p l2 z := fun h1 h2 i z hi hz => by
    by_cases ei : i = a
    ·subst ei
     rw [h1 _ _ hs] at hz; cases hz; exact h2
    ·obtain ⟨y, hy, _⟩ := i5 (l := l) (i := i) (j7 hz).1 (by omega)
     have := h1 _ _ hy
     rw [hz] at this; cases this
     exact fun q1 q2 y hy2 => h1.mem (g5 i z (by omega) hy q1 q2 y hy2)
   by_cases cs : chO p s < 0 ∨ j3 t s
   ·rw [ifP cs]
    simp only [ob]
    rw [s7 (by omega) (by omega)]
    refine .inl ⟨_, rfl, ⟨g1, g2, g3, by dsimp only; omega, fin (.refl _) fun q1 q2 => ?_⟩, by dsimp only; omega⟩
    rcases cs with c1 | c1
    ·unfold C2 at q2; omega
    ·exact absurd c1 q1
   ·rw [ifN cs]
    have hl : C2 p s := by unfold C2; have := fun h => cs (.inl h); omega
    have hg : ¬ j3 t s := fun h => cs (.inr h)
    have ho := live_op hp hl
    obtain ⟨st, w, r1, _, r3, _⟩ := E5 ht ho.1.1 ho.1.2 hset
    rw [r1]
    simp only [ob]
    obtain ⟨l2, e1, e2, e3, e4, e5⟩ := vis4 ht hp hrs hg hl (st := st) (w := w) (fun y => by rw [r3, nxS, List.mem_map]) g1 g2
    rw [e1]
    simp only [ob]
    have := e4.len
    rw [s7 (by omega) (by omega)]
    exact .inl ⟨_, rfl, ⟨e2, e3, e4.mem g3, by dsimp only; omega, fin e4 fun _ _ y hy => e5 y (by rw [r3]; exact List.mem_map.1 hy)⟩, by dsimp only; omega⟩
  ·rw [if_neg c]
   refine .inr ⟨l, rfl, g1, g2, g3, fun s hs => ?_⟩
   obtain ⟨i, i0, i1, hi⟩ := k9 hs
   exact g5 i s (by omega) hi)
 rw [h1]
 simp only [ob]
 have hlen := X7 ht hp h2 h3
 obtain ⟨r, n1, n2, n3, n4⟩ := ae3 (l := l) (by omega)
 rw [n1]
 exact ⟨r, rfl, vis_of n2 ((n3 _).2 h4) (fun s hs => h3 s ((n3 s).1 hs)) fun s hs q1 q2 y hy => (n3 y).2 (h5 s ((n3 s).1 hs) q1 q2 y hy)⟩
theorem rvis3 {t : b9} (ht : j6 t) {p : List d7} (hp : C3 t p) {s : List Int} (hs : Rch t p s) (hg : ¬ j3 t s) (hl : C2 p s) {st : LL} {w : List Int} (hst : ∀ y, y ∈ st ↔ y ∈ nxS t p s) {l0 : LL} {b0 : Bool} (ho : Ord l0) (hr : ∀ s ∈ l0, Rch t p s) :
  ∃ l b, forR 0 (st.length : Int) (K5 (st, w)) (l0, b0) = some (l, b) ∧ Ord l ∧ (∀ s ∈ l, Rch t p s) ∧ (∀ s ∈ l0, s ∈ l) ∧ l0.length ≤ l.length ∧ (b = false → b0 = false ∧ l = l0 ∧ ∀ y ∈ st, y ∈ l) ∧ (b = true → b0 = true ∨ l0.length < l.length) := by
 have hn := ht.n1
 obtain ⟨⟨l, b⟩, h1, h2, h3, h4, h5, h6, h7⟩ := o9 (body := K5 (st, w)) (n := (st.length : Int)) (s := (l0, b0)) (fun j q => Ord q.1 ∧ (∀ s ∈ q.1, Rch t p s) ∧ (∀ s ∈ l0, s ∈ q.1) ∧ l0.length ≤ q.1.length ∧ (q.2 = false → b0 = false ∧ q.1 = l0 ∧ ∀ k y, k < j → ix st k = some y → y ∈ q.1) ∧ (q.2 = true → b0 = true ∨ l0.length < q.1.length)) (by omega) ⟨ho, hr, fun _ h => h, Nat.le_refl _, fun h => ⟨h, rfl, fun k y hk h => by have := (j7 h).1; omega⟩, fun h => .inl h⟩ (fun j ⟨l, b⟩ j0 j1 ⟨a1, a2, a3, a4, a5, a6⟩ => by
  dsimp only at a1 a2 a3 a4 a5 a6
  obtain ⟨y, hy, _⟩ := i5 (l := st) j0 j1
  have hry : Rch t p y := .step hs hg hl ((hst y).1 (i8 hy))
  unfold K5
  dsimp only
  rw [hy]
  obtain ⟨z, z1, z2⟩ := ag1 l y
  simp only [ob, z1]
  rcases z2 with ⟨rfl, hz⟩ | ⟨z0, _, hz, _⟩
  ·rw [if_pos (by decide)]
   have hlen := X7 ht hp a1.nodup a2
   obtain ⟨l2, m1, m2, m3, m4⟩ := insert_eq a1 (by omega) (fun y hy => by have := ((a2 y hy).set ht).len; omega) y
   rw [m1]
   have hlt : l.length < l2.length := by
    have := Q3 (c := y :: l) (S := l2) (List.nodup_cons.2 ⟨hz, a1.nodup⟩) fun x hx => (m3 x).2 (List.mem_cons.1 hx)
    simp only [List.length_cons] at this
    omega
   refine ⟨_, rfl, m2, fun x hx => ?_, fun x hx => (m3 x).2 (.inr (a3 x hx)), by dsimp only; omega, fun h => by (cases h), fun _ => .inr (by dsimp only; omega)⟩
   rcases (m3 x).1 hx with rfl | h
   ·exact hry
   ·exact a2 x h
  ·rw [if_neg (by omega)]
   refine ⟨_, rfl, a1, a2, a3, a4, fun h => ?_, a6⟩
   obtain ⟨q1, q2, q3⟩ := a5 h
   refine ⟨q1, q2, fun k z' hk hz' => ?_⟩
   by_cases ek : k = j
   ·subst ek; rw [hy] at hz'; cases hz'; exact i8 hz
   ·exact q3 k z' (by omega) hz')
 refine ⟨l, b, h1, h2, h3, h4, h5, fun h => ?_, h7⟩
 obtain ⟨q1, q2, q3⟩ := h6 h
 refine ⟨q1, q2, fun y hy => ?_⟩
 obtain ⟨k, _, k1, hk⟩ := k9 hy
 exact q3 k y k1 hk
theorem rVisited_eq {t : b9} (ht : j6 t) {p : List d7} (hp : C3 t p) : ∃ l, Q4 t p = some l ∧ Vis t p l := by
 have hn := ht.n1
 unfold Q4
 obtain ⟨l, h1, h2⟩ := C4 (body := O9 t p) (fun q => Ord q.1 ∧ (∀ s ∈ q.1, Rch t p s) ∧ t.init ∈ q.1 ∧ (q.2 = false → ∀ s ∈ q.1, ClV t p q.1 s)) (fun l => Vis t p l) (fun q => 2 * (801 - q.1.length) + if q.2 = true then 1 else 0) (s := ([t.init], true)) ⟨by simp, by simpa using Rch.init, by simp, fun h => by cases h⟩ (fun ⟨l0, b0⟩ ⟨g1, g2, g3, g4⟩ => by
  dsimp only at g1 g2 g3 g4 ⊢
  unfold O9
  dsimp only
  by_cases cb : b0 = true
  ·subst cb
   rw [if_pos rfl]
   obtain ⟨⟨l, b⟩, e1, e2, e3, e4, e5, e6, e7⟩ := C4 (body := P2 t p) (fun q => Ord q.1 ∧ (∀ s ∈ q.1, Rch t p s) ∧ t.init ∈ q.1 ∧ l0.length ≤ q.1.length ∧ 0 ≤ q.2.2 ∧ (q.2.1 = false → q.1 = l0 ∧ ∀ i s, i < q.2.2 → ix q.1 i = some s → ClV t p q.1 s) ∧ (q.2.1 = true → l0.length < q.1.length)) (fun r => Ord r.1 ∧ (∀ s ∈ r.1, Rch t p s) ∧ t.init ∈ r.1 ∧ l0.length ≤ r.1.length ∧ (r.2 = false → ∀ s ∈ r.1, ClV t p r.1 s) ∧ (r.2 = false → r.1 = l0) ∧ (r.2 = true → l0.length < r.1.length)) (fun q => (801 - q.2.2).toNat) (s := (l0, false, 0)) ⟨g1, g2, g3, Nat.le_refl _, by simp, fun _ => ⟨rfl, fun i s hi h => by have := (j7 h).1; dsimp only at hi; omega⟩, fun h => by (cases h)⟩ (fun ⟨l, b, i⟩ ⟨a1, a2, a3, a4, a5, a6, a7⟩ => by
    dsimp only at a1 a2 a3 a4 a5 a6 a7 ⊢
    have hlen := X7 ht hp a1.nodup a2
    unfold P2
    dsimp only
    by_cases c : i < l.length
    ·rw [if_pos c]
     obtain ⟨s, hs, _⟩ := i5 (l := l) a5 c
     have hrs := a2 s (i8 hs)
     have hset := hrs.set ht
     rw [hs]
     simp only [ob, rChosen_chO]
     have key : (if chO p s < 0 then some true else Option.bind (K2 t s) fun a36 => some a36) = some (dec (chO p s < 0 ∨ j3 t s)) := by
      unfold K2 j3
      rw [subset_eq, ← ifOr]
      simp only [ob]
      by_cases h : chO p s < 0
      ·rw [if_pos h, ifP h]
      ·rw [if_neg h, ifN h]
     rw [key]
     simp only [ob]
     by_cases cs : chO p s < 0 ∨ j3 t s
     ·rw [ifP cs]
      simp only [ob]
      rw [s7 (by omega) (by omega)]
      refine .inl ⟨_, rfl, ⟨a1, a2, a3, a4, by dsimp only; omega, fun h => ⟨(a6 h).1, fun k z hk hz => ?_⟩, a7⟩, by dsimp only; omega⟩
      dsimp only at hk
      by_cases ek : k = i
      ·subst ek; rw [hs] at hz; cases hz
       intro q1 q2
       rcases cs with c1 | c1
       ·unfold C2 at q2; omega
       ·exact absurd c1 q1
      ·exact (a6 h).2 k z (by omega) hz
     ·rw [ifN cs]
      have hl : C2 p s := by unfold C2; have := fun h => cs (.inl h); omega
      have hg : ¬ j3 t s := fun h => cs (.inr h)
      have ho := live_op hp hl
      rw [oAfter_eq ht ho.1.1 ho.1.2 hset]
      obtain ⟨st, w, r1, _, r3, _⟩ := E5 ht ho.1.1 ho.1.2 hset
      rw [r1]
      simp only [ob]
      obtain ⟨l2, b2, f1, f2, f3, f4, f5, f6, f7⟩ := rvis3 ht hp hrs hg hl (st := st) (w := w) (fun y => by rw [r3, nxS, List.mem_map]) (b0 := b) a1 a2
      rw [f1]
      simp only [ob]
      rw [s7 (by omega) (by omega)]
      refine .inl ⟨_, rfl, ⟨f2, f3, f4 _ a3, by dsimp only; omega, by dsimp only; omega, fun h => ?_, fun h => ?_⟩, by dsimp only; omega⟩
      ·obtain ⟨q1, q2, q3⟩ := f6 h
       subst q2
       refine ⟨(a6 q1).1, fun k z hk hz => ?_⟩
       dsimp only at hk
       by_cases ek : k = i
       ·subst ek; rw [hs] at hz; cases hz
        exact fun _ _ y hy => q3 y (by rw [r3]; exact List.mem_map.1 hy)
       ·exact (a6 q1).2 k z (by omega) hz
      ·rcases f7 h with q | q
       ·have := a7 q; dsimp only; omega
       ·dsimp only; omega
    ·rw [if_neg c]
     refine .inr ⟨_, rfl, a1, a2, a3, a4, fun h s hs => ?_, fun h => (a6 h).1, a7⟩
     obtain ⟨k, k0, k1, hk⟩ := k9 hs
     exact (a6 h).2 k s (by have : k < (l.length : Int) := k1; omega) hk)
   rw [e1]
   simp only [ob]
   dsimp only at e2 e3 e4 e5 e6 e7
   have hlen := X7 ht hp e2.nodup e3
   refine .inl ⟨_, rfl, ⟨e2, e3, e4, e6⟩, ?_⟩
   dsimp only
   cases b with
   | false => simp; have := e7.1 rfl; rw [this]; omega
   | true => have := e7.2 rfl; simp; omega
  ·rw [if_neg cb]
   have hb : b0 = false := by simpa using cb
   exact .inr ⟨_, rfl, vis_of g1 g3 g2 (g4 hb)⟩)
 rw [h1]
 exact ⟨l, rfl, h2⟩
end Ab
end
section
namespace Ab
open Go
abbrev HtS (t : b9) (p : List d7) (k : Nat) (s : List Int) : Prop := Ht (j3 t) (C2 p) (nxS t p) k s
theorem nx_ne {t : b9} (ht : j6 t) {p : List d7} (hp : C3 t p) : ∀ s, C2 p s → nxS t p s ≠ [] := fun s hl h => by
 have ho := live_op hp hl
 have := (ht.at ho.1.1 ho.1.2).l0
 unfold nxS at h
 rw [List.map_eq_nil_iff] at h
 rw [h] at this
 simp at this
theorem Vis.closed {t : b9} {p : List d7} {l : LL} (h : Vis t p l) : ∀ s ∈ l, ¬ j3 t s → C2 p s → ∀ y ∈ nxS t p s, y ∈ l := fun s hs hg hl y hy => (h.mem y).2 (.step ((h.mem s).1 hs) hg hl hy)
theorem Vis.lt {t : b9} (ht : j6 t) {p : List d7} (hp : C3 t p) {l : LL} (h : Vis t p l) {k : Nat} {s : List Int} (hk : HtS t p k s) (hs : s ∈ l) : k < l.length := Ht.lt h.closed (nx_ne ht hp) hk hs
theorem Vis.len {t : b9} (ht : j6 t) {p : List d7} (hp : C3 t p) {l : LL} (h : Vis t p l) : l.length ≤ 801 := X7 ht hp h.ord.nodup fun s hs => (h.mem s).1 hs
theorem ab7 {l : LL} (ho : Ord l) (hl : l.length ≤ 500000) {s : List Int} {i : Int} (hi : ix l i = some s) : K8 l s = some i := by
 unfold K8
 obtain ⟨k, h1, _, h3⟩ := bsets_eq (t := s) ho hl
 rw [h1, h3 i hi]; rfl
theorem place_ord {l : LL} (ho : Ord l) {s : List Int} {i : Int} (hi : ix l i = some s) : y5 l s = some i := by
 obtain ⟨z, h1, h2⟩ := ag1 l s
 rw [h1]
 rcases h2 with ⟨_, h⟩ | ⟨_, _, h, _⟩
 ·exact absurd (i8 hi) h
 ·rw [ho.inj h hi]
theorem worst_eq {t : b9} (ht : j6 t) {p : List d7} (hp : C3 t p) {l : LL} (hv : Vis t p l) {s : List Int} (hs : s ∈ l) (hg : ¬ j3 t s) (hl : C2 p s) {v : List Int} (hvl : v.length = l.length) (hvm : ∀ x ∈ v, -1 ≤ x) :
  ∃ n, A4 t l v s (chO p s) = some n ∧ ((n = -1 ∧ ∃ y ∈ nxS t p s, ∃ i, ix l i = some y ∧ ix v i = some (-1)) ∨ (0 ≤ n ∧ (∀ y ∈ nxS t p s, ∀ i x, ix l i = some y → ix v i = some x → 0 ≤ x ∧ x ≤ n) ∧ (n = 0 ∨ ∃ y ∈ nxS t p s, ∃ i, ix l i = some y ∧ ix v i = some n))) := by
 have ho := live_op hp hl
 have hset := ((hv.mem s).1 hs).set ht
 obtain ⟨st, w, r1, _, r3, _⟩ := E5 ht ho.1.1 ho.1.2 hset
 have hlen := hv.len ht hp
 unfold A4
 rw [r1]
 simp only [ob]
 have hst : ∀ y, y ∈ st ↔ y ∈ nxS t p s := fun y => by rw [r3, nxS, List.mem_map]
 rcases U7 (body := C7 l v (st, w)) (n := (st.length : Int)) (s := 0) (fun j n => 0 ≤ n ∧ (∀ k y i x, k < j → ix st k = some y → ix l i = some y → ix v i = some x → 0 ≤ x ∧ x ≤ n) ∧ (n = 0 ∨ ∃ y ∈ nxS t p s, ∃ i, ix l i = some y ∧ ix v i = some n)) (fun o => o = -1 ∧ ∃ y ∈ nxS t p s, ∃ i, ix l i = some y ∧ ix v i = some (-1)) (by omega) ⟨Int.le_refl _, fun k y i x hk h => by have := (j7 h).1; omega, .inl rfl⟩ (fun j n j0 j1 ⟨a1, a2, a3⟩ => by
  obtain ⟨y, hy, _⟩ := i5 (l := st) j0 j1
  have hyn := (hst y).1 (i8 hy)
  obtain ⟨i, i0, i1, hi⟩ := k9 (hv.closed s hs hg hl y hyn)
  obtain ⟨x, hx, _⟩ := i5 (l := v) i0 (by omega)
  unfold C7
  dsimp only
  rw [hy]
  simp only [ob, ab7 hv.ord (show l.length ≤ 500000 by omega) hi, hx]
  by_cases c : x < 0
  ·rw [if_pos c]
   have : x = -1 := by have := hvm x (i8 hx); omega
   subst this
   exact .inr ⟨_, rfl, rfl, y, hyn, i, hi, hx⟩
  ·rw [if_neg c]
   refine .inl ⟨_, rfl, by omega, fun k z i' x' hk hz hi' hx' => ?_, ?_⟩
   ·by_cases ek : k = j
    ·subst ek
     rw [hy] at hz; cases hz
     have := hv.ord.inj hi hi'
     subst this
     rw [hx] at hx'; cases hx'
     omega
    ·have := a2 k z i' x' (by omega) hz hi' hx'
     omega
   ·by_cases cm : n ≤ x
    ·rw [Int.max_eq_right cm]
     exact .inr ⟨y, hyn, i, hi, hx⟩
    ·rw [Int.max_eq_left (by omega)]
     exact a3) with ⟨n, e1, e2, e3, e4⟩ | ⟨o, e1, rfl, e2⟩
 ·rw [e1]
  refine ⟨n, rfl, .inr ⟨e2, fun y hy i x hi hx => ?_, e4⟩⟩
  obtain ⟨k, _, k1, hk⟩ := k9 ((hst y).2 hy)
  exact e3 k y i x k1 hk hi hx
 ·rw [e1]
  exact ⟨-1, rfl, .inl ⟨rfl, e2⟩⟩
structure ValOk (t : b9) (p : List d7) (l : LL) (v : List Int) : Prop where
 len : v.length = l.length
 val : ∀ i s x, ix l i = some s → ix v i = some x → x = -1 ∨ ∃ k : Nat, x = k ∧ HtS t p k s
 goal : ∀ i s x, ix l i = some s → ix v i = some x → j3 t s → x = 0
theorem ValOk.m1 {t : b9} {p : List d7} {l : LL} {v : List Int} (h : ValOk t p l v) : ∀ x ∈ v, -1 ≤ x := fun x hx => by
 obtain ⟨i, i0, i1, hi⟩ := k9 hx
 obtain ⟨s, hs, _⟩ := i5 (l := l) i0 (by have := h.len; omega)
 rcases h.val i s x hs hi with e | ⟨k, e, _⟩ <;> omega
theorem set_ix {v : List Int} {j : Int} {y : Int} (h0 : 0 ≤ j) (h1 : j < v.length) {i : Int} {x : Int} (h : ix (v.set j.toNat y) i = some x) : (i = j ∧ x = y) ∨ (i ≠ j ∧ ix v i = some x) := by
 rw [ix_put h0 h1 (j7 h).1] at h
 by_cases e : i = j
 ·rw [if_pos e] at h; cases h; exact .inl ⟨e, rfl⟩
 ·rw [if_neg e] at h; exact .inr ⟨e, h⟩
def Stays (v v' : List Int) : Prop := ∀ i x, ix v i = some x → x ≠ -1 → ix v' i = some x
theorem check3 {t : b9} (ht : j6 t) {p : List d7} (hp : C3 t p) {l : LL} (hv : Vis t p l) {j : Int} {s : List Int} (hs : ix l j = some s) {v : List Int} (h : ValOk t p l v) :
  ∃ v', J3 t p l j v = some v' ∧ ValOk t p l v' ∧ Stays v v' ∧ (¬ j3 t s → C2 p s → (∀ y ∈ nxS t p s, ∀ i, ix l i = some y → ix v i ≠ some (-1)) → ix v' j ≠ some (-1)) := by
 obtain ⟨j0, j1, _⟩ := j7 hs
 have hlen := hv.len ht hp
 have hvl := h.len
 obtain ⟨x, hx, _⟩ := i5 (l := v) j0 (by omega)
 unfold J3
 rw [hs]
 simp only [ob, (V8 hp s).1, hx]
 by_cases c : 0 ≤ x ∨ chO p s < 0
 ·rw [if_pos (by rw [Bool.or_eq_true, decide_eq_true_eq, decide_eq_true_eq]; exact c)]
  refine ⟨v, rfl, h, fun i x h _ => h, fun _ hl _ he => ?_⟩
  unfold C2 at hl
  rw [hx] at he
  have := Option.some.inj he
  omega
 ·rw [if_neg (by rw [Bool.or_eq_true, decide_eq_true_eq, decide_eq_true_eq]; exact c)]
  have hl : C2 p s := by unfold C2; omega
  have hx1 : x = -1 := by have := h.m1 x (i8 hx); omega
  subst hx1
  have hg : ¬ j3 t s := fun hg => by have := h.goal j s _ hs hx hg; omega
  obtain ⟨n, w1, w2⟩ := worst_eq ht hp hv (i8 hs) hg hl hvl h.m1
  rw [w1]
  simp only [ob]
  rcases w2 with ⟨rfl, y, hy, i, hi, hvi⟩ | ⟨n0, w3, w4⟩
  ·rw [if_neg (by decide)]
   exact ⟨v, rfl, h, fun i x h _ => h, fun _ _ hall => absurd hvi (hall y hy i hi)⟩
  ·rw [if_pos n0]
   have ex : ∀ y ∈ nxS t p s, ∃ i x, ix l i = some y ∧ ix v i = some x ∧ ∃ k : Nat, x = k ∧ k ≤ n.toNat ∧ HtS t p k y := fun y hy => by
    obtain ⟨i, i0, i1, hi⟩ := k9 (hv.closed s (i8 hs) hg hl y hy)
    obtain ⟨x, hx, _⟩ := i5 (l := v) i0 (by omega)
    have b := w3 y hy i x hi hx
    rcases h.val i y x hi hx with e | ⟨k, e, hk⟩
    ·omega
    ·exact ⟨i, x, hi, hx, k, e, by omega, hk⟩
   have top : ∃ y ∈ nxS t p s, HtS t p n.toNat y := by
    rcases w4 with rfl | ⟨y, hy, i, hi, hvi⟩
    ·obtain ⟨y, hy⟩ := List.exists_mem_of_ne_nil _ (nx_ne ht hp s hl)
     obtain ⟨_, _, _, _, k, _, k1, hk⟩ := ex y hy
     have : k = 0 := by simpa using k1
     subst this
     exact ⟨y, hy, hk⟩
    ·obtain ⟨i', x, hi', hx', k, e, k1, hk⟩ := ex y hy
     have := hv.ord.inj hi hi'
     subst this
     rw [hvi] at hx'; cases hx'
     have : k = n.toNat := by omega
     exact ⟨y, hy, this ▸ hk⟩
   have hts : HtS t p (n.toNat + 1) s := Ht.of_succ hg hl (fun y hy => by
    obtain ⟨_, _, _, _, k, _, k1, hk⟩ := ex y hy
    exact ⟨k, k1, hk⟩) top
   have hb := hv.lt ht hp hts (i8 hs)
   rw [s7 (by omega) (by omega)]
   have hj : j < (v.length : Int) := by omega
   refine ⟨_, rfl, ⟨by rw [List.length_set]; exact hvl, fun i z x hz hx' => ?_, fun i z x hz hx' hgz => ?_⟩, fun i x hxi hne => ?_, fun _ _ _ he => ?_⟩
   ·rcases set_ix j0 hj hx' with ⟨rfl, rfl⟩ | ⟨_, hx'⟩
    ·rw [hs] at hz; cases hz
     exact .inr ⟨n.toNat + 1, by omega, hts⟩
    ·exact h.val i z x hz hx'
   ·rcases set_ix j0 hj hx' with ⟨rfl, rfl⟩ | ⟨_, hx'⟩
    ·rw [hs] at hz; cases hz
     exact absurd hgz hg
    ·exact h.goal i z x hz hx' hgz
   ·rw [ix_put j0 hj (j7 hxi).1, if_neg]
    ·exact hxi
    ·rintro rfl; rw [hx] at hxi; cases hxi; exact hne rfl
   ·rcases set_ix j0 hj he with ⟨_, e⟩ | ⟨e, _⟩
    ·omega
    ·exact e rfl
def KnownS (t : b9) (p : List d7) (l : LL) (r : Nat) (v : List Int) : Prop := ∀ i s k, ix l i = some s → HtS t p k s → k ≤ r → ix v i ≠ some (-1)
theorem Stays.known {v v' : List Int} (h : Stays v v') (hl : v'.length = v.length) {i : Int} (hn : ix v i ≠ some (-1)) : ix v' i ≠ some (-1) := fun he => by
 obtain ⟨i0, i1, _⟩ := j7 he
 obtain ⟨x, hx, _⟩ := i5 (l := v) i0 (by omega)
 have hne : x ≠ -1 := fun e => hn (e ▸ hx)
 rw [h i x hx hne] at he
 exact hne (Option.some.inj he)
theorem check2 {t : b9} (ht : j6 t) {p : List d7} (hp : C3 t p) {l : LL} (hv : Vis t p l) {v : List Int} (h : ValOk t p l v) {r : Nat} (hr : KnownS t p l r v) (j : Int) : ∃ v', K0 t p l j v = some v' ∧ ValOk t p l v' ∧ KnownS t p l (r + 1) v' := by
 unfold K0
 obtain ⟨v', h1, h2, h3, h4⟩ := o9 (body := J3 t p l) (n := (l.length : Int)) (s := v) (fun j v' => ValOk t p l v' ∧ Stays v v' ∧ ∀ i s k, i < j → ix l i = some s → HtS t p k s → k ≤ r + 1 → ix v' i ≠ some (-1)) (by omega) ⟨h, fun i x h _ => h, fun i s k hi h => by have := (j7 h).1; omega⟩ (fun j v1 j0 j1 ⟨a1, a2, a3⟩ => by
  obtain ⟨s, hs, _⟩ := i5 (l := l) j0 j1
  obtain ⟨v2, b1, b2, b3, b4⟩ := check3 ht hp hv hs a1
  have st : Stays v v2 := fun i x hx hne => b3 i x (a2 i x hx hne) hne
  refine ⟨v2, b1, b2, st, fun i z k hi hz hk hkr => ?_⟩
  by_cases e : i = j
  ·subst e
   rw [hs] at hz; cases hz
   by_cases hg : j3 t s
   ·intro he
    have := b2.goal i s _ hs he hg
    omega
   ·obtain ⟨m, rfl, hl, hy, _⟩ := hk.step hg (nx_ne ht hp)
    refine b4 hg hl fun y hyn i' hi' => ?_
    obtain ⟨k', hk', hk2⟩ := hy y hyn
    exact a2.known (by rw [a1.len, h.len]) (hr i' y k' hi' hk2 (by omega))
  ·exact b3.known (by rw [b2.len, a1.len]) (a3 i z k (by omega) hz hk hkr))
 rw [h1]
 exact ⟨v', rfl, h2, fun i s k hi hk hkr => h4 i s k (j7 hi).2.1 hi hk hkr⟩
theorem contains1_eq {l : List Int} {s : Int} : y6 l s = some (dec (s ∈ l)) := by
 unfold y6 G8
 rcases y8 (body := D7 l s) (n := (l.length : Int)) (fun j => if dec (ix l j = some s) = true then some j else none) (by omega) (fun j h0 h1 _ => by
  obtain ⟨x, hx, _⟩ := i5 (l := l) h0 h1
  unfold D7
  rw [hx]
  simp only [ob]
  by_cases e : s = x
  ·rw [if_pos e, ifP (by rw [e])]
  ·rw [if_neg e, ifN (by simpa using fun h => e h.symm)]) with ⟨h1, h2⟩ | ⟨j, o, h0, h1, h2, h3, h4⟩
 ·rw [h1]
  simp only [ob]
  rw [w7]
  ·rfl
  ·intro hs
   obtain ⟨i, i0, i1, hi⟩ := k9 hs
   have := h2 i i0 i1
   rw [ifP hi] at this
   cases this
 ·rw [h4]
  split at h2
  ·rename_i e
   cases h2
   simp only [ob]
   rw [m7 (i8 (l7.1 e)), decide_eq_true h0]
  ·cases h2
theorem check1 {t : b9} (ht : j6 t) {p : List d7} {l : LL} (hv : Vis t p l) : ∃ v, forR 0 (l.length : Int) (J9 t l) (List.replicate l.length 0) = some v ∧ ValOk t p l v ∧ KnownS t p l 0 v := by
 have hn := ht.n1
 obtain ⟨v, h1, h2, h3⟩ := o9 (body := J9 t l) (n := (l.length : Int)) (s := List.replicate l.length 0) (fun j v => v.length = l.length ∧ ∀ i s x, ix l i = some s → ix v i = some x → (i < j → ¬ j3 t s → x = -1) ∧ ((i < j → j3 t s) → x = 0)) (by omega) ⟨by simp, fun i s x hi hx => by
  refine ⟨fun h => by have := (j7 hi).1; omega, fun _ => ?_⟩
  have := i8 hx
  exact List.eq_of_mem_replicate this⟩ (fun j v j0 j1 ⟨a1, a2⟩ => by
  obtain ⟨s, hs, _⟩ := i5 (l := l) j0 j1
  have hset := ((hv.mem s).1 (i8 hs)).set ht
  have hsl := hset.len
  obtain ⟨x, hx, _⟩ := i5 (l := v) j0 (by omega)
  unfold J9
  rw [hs]
  simp only [ob, L3 hset.1 ht.goal.1 (show s.length ≤ 1000000 by omega), u3, hx]
  by_cases hg : j3 t s
  ·rw [ifNN (p := ∀ x ∈ t.goal, x ∈ s) hg]
   refine ⟨v, rfl, a1, fun i z y hz hy => ?_⟩
   obtain ⟨b1, b2⟩ := a2 i z y hz hy
   by_cases e : i = j
   ·subst e
    rw [hs] at hz; cases hz
    exact ⟨fun _ h => absurd hg h, fun _ => b2 fun h => by omega⟩
   ·exact ⟨fun h => b1 (by omega), fun h => b2 fun h' => h (by omega)⟩
  ·rw [ifP (p := ¬ ∀ x ∈ t.goal, x ∈ s) hg]
   refine ⟨_, rfl, by rw [List.length_set]; exact a1, fun i z y hz hy => ?_⟩
   rcases set_ix j0 (by omega) hy with ⟨rfl, rfl⟩ | ⟨e, hy⟩
   ·rw [hs] at hz; cases hz
    exact ⟨fun _ _ => rfl, fun h => absurd (h (by omega)) hg⟩
   ·obtain ⟨b1, b2⟩ := a2 i z y hz hy
    exact ⟨fun h => b1 (by omega), fun h => b2 fun h' => h (by omega)⟩)
 refine ⟨v, h1, ⟨h2, fun i s x hi hx => ?_, fun i s x hi hx hg => (h3 i s x hi hx).2 fun _ => hg⟩, fun i s k hi hk hk0 he => ?_⟩
 ·obtain ⟨b1, b2⟩ := h3 i s x hi hx
  by_cases hg : j3 t s
  ·exact .inr ⟨0, by rw [b2 fun _ => hg]; rfl, .zero hg⟩
  ·exact .inl (b1 (j7 hi).2.1 hg)
 ·have : k = 0 := by omega
  subst this
  have hg : j3 t s := hk.1
  have := (h3 i s _ hi he).2 fun _ => hg
  omega
theorem check_eq {t : b9} (ht : j6 t) {p : List d7} (hp : C3 t p) : ∃ l, Vis t p l ∧ ((∃ k : Nat, (∀ s ∈ l, ∃ k, HtS t p k s) ∧ HtS t p k t.init ∧ H6 t p = some ((k : Int), true, ⟨0, 0⟩)) ∨ ((∃ s ∈ l, ∀ k, ¬ HtS t p k s) ∧ H6 t p = some (0, false, ⟨0, 0⟩))) := by
 obtain ⟨l, g1, hv⟩ := oVisited_eq ht hp
 refine ⟨l, hv, ?_⟩
 have hlen := hv.len ht hp
 obtain ⟨f, f1, _, f3⟩ := policy_eq t p
 have hf : f = ⟨0, 0⟩ := by
  rcases f3 with ⟨rfl, _⟩ | ⟨_, h⟩
  ·rfl
  ·exact absurd ⟨ht, hp⟩ h
 subst hf
 obtain ⟨v0, c1, c2, c3⟩ := check1 ht (p := p) hv
 obtain ⟨v, d1, d2, d3⟩ := o9 (body := K0 t p l) (n := (l.length : Int)) (s := v0) (fun j v => ValOk t p l v ∧ KnownS t p l j.toNat v) (by omega) ⟨c2, c3⟩ (fun j v j0 j1 ⟨a1, a2⟩ => by
  obtain ⟨v', b1, b2, b3⟩ := check2 ht hp hv a1 a2 j
  exact ⟨v', b1, b2, by rwa [show (j + 1).toNat = j.toNat + 1 by omega]⟩)
 unfold H6
 rw [f1]
 simp only [ob]
 rw [if_neg (by simp), g1]
 simp only [ob]
 rw [show mkL 8 (l.length : Int) (0 : Int) = some (List.replicate l.length 0) by rw [mkL, if_pos (by omega)]; simp]
 simp only [ob, c1, d1, contains1_eq]
 by_cases c : (-1 : Int) ∈ v
 ·right
  rw [ifP c]
  refine ⟨?_, rfl⟩
  obtain ⟨i, i0, i1, hi⟩ := k9 c
  obtain ⟨s, hs, _⟩ := i5 (l := l) i0 (by have := d2.len; omega)
  refine ⟨s, i8 hs, fun k hk => ?_⟩
  have := hv.lt ht hp hk (i8 hs)
  exact d3 i s k hs hk (by omega) hi
 ·left
  rw [ifN c]
  have all : ∀ i s x, ix l i = some s → ix v i = some x → ∃ k : Nat, x = k ∧ HtS t p k s := fun i s x hi hx => by
   rcases d2.val i s x hi hx with e | e
   ·exact absurd (e ▸ i8 hx) c
   ·exact e
  have hinit : t.init ∈ l := (hv.mem _).2 .init
  obtain ⟨i, i0, i1, hi⟩ := k9 hinit
  obtain ⟨x, hx, _⟩ := i5 (l := v) i0 (by have := d2.len; omega)
  obtain ⟨k, rfl, hk⟩ := all i _ x hi hx
  refine ⟨k, fun s hs => ?_, hk, ?_⟩
  ·obtain ⟨i, i0, i1, hi⟩ := k9 hs
   obtain ⟨x, hx, _⟩ := i5 (l := v) i0 (by have := d2.len; omega)
   obtain ⟨k, _, hk⟩ := all i s x hi hx
   exact ⟨k, hk⟩
  ·rw [ab7 hv.ord (by omega) hi]
   simp only [ob, hx]
end Ab
end
section
namespace Ab
open Go
def sureX : l4 := ⟨[0], [], 1⟩
def sureO : i6 := ⟨[], [sureX], 1⟩
def m6 : b9 := ⟨1, [], [0], [sureO]⟩
theorem sure_ok : j6 m6 where
 n0 := by decide
 n1 := by decide
 init := M7 _
 goal := setN1 0 (by decide) (by decide)
 ops := by decide
 op o ho := by
  simp only [m6, List.mem_singleton] at ho
  subst ho
  refine ⟨M7 _, by decide, by decide, by decide, by decide, fun x hx => ?_⟩
  simp only [sureO, List.mem_singleton] at hx
  subst hx
  exact ⟨⟨setN1 0 (by decide) (by decide), M7 _, by simp [sureX]⟩, by decide, by decide⟩
theorem sureOo : ooAt m6 0 = sureO := rfl
theorem set01 : SetN [0] 1 := setN1 0 (by decide) (by decide)
theorem sure_x {s : List Int} (hs : SetN s 1) : efc 1 s sureX = [0] := by
 refine (set01.eq_of (p := fun p => p ∈ sureX.add ∨ p ∈ s ∧ p ∉ sureX.del) fun x h0 h1 => ?_).symm
 simp only [sureX, List.mem_singleton]
 exact ⟨.inl, fun h => by omega⟩
theorem ag3 {s : List Int} (hs : SetN s 1) : ∃ w, z7 m6 s 0 = some ([[0]], w) := by
 obtain ⟨st, w, r1, r2, r3, _⟩ := E5 sure_ok (op := 0) (by decide) (by decide) (s := s) hs
 refine ⟨w, ?_⟩
 rw [r1]
 have : st = [[0]] := Ord.ext r2 (by simp) fun y => by
  rw [r3, sureOo]
  simp only [sureO, List.mem_singleton, exists_eq_left]
  rw [show m6.facts = 1 from rfl, sure_x hs]
  exact ⟨Eq.symm, Eq.symm⟩
 rw [this]
theorem sure_can {s : List Int} (hs : SetN s 1) : P9 m6 s 0 = some true := by
 rw [oCan_eq sure_ok (by decide) (by decide) hs, m7]
 intro x hx
 cases hx
theorem one_rng {S O : Type} {body : Int → S → Option (S ⊕ O)} {s : S} {x : S ⊕ O} (h : body 0 s = some x) : rngX 0 1 body s = some x := by
 unfold rngX
 rw [show ((1 : Int) - 0).toNat = 1 from rfl]
 simp only [rngN, h]
 cases x <;> rfl
theorem sure_reach : A5 m6 = some ([[], [0]], true) := by
 have h0 : SetN [] 1 := M7 _
 have k0 := key1_eq (s := []) (h0.small (by decide)) (by decide)
 have k1 := key1_eq (s := [0]) (set01.small (by decide)) (by decide)
 have hk : keyK [[0]] ≠ keyK [[]] := fun e => by have := SetN.key_inj (by decide) set01 h0 e; cases this
 obtain ⟨w0, r0⟩ := ag3 h0
 obtain ⟨w1, r1⟩ := ag3 set01
 have s1 : x7 m6 ([[]], mset ([] : List (ByteArray × Int)) (keyK [[]]) 1, 0) = some (.inl ([[], [0]], mset (mset ([] : List (ByteArray × Int)) (keyK [[]]) 1) (keyK [[0]]) 1, 1)) := by
  unfold x7
  dsimp only
  rw [if_pos (by decide)]
  rw [show (m6.operators.length : Int) = 1 from rfl, one_rng (x := .inl ([[], [0]], mset (mset ([] : List (ByteArray × Int)) (keyK [[]]) 1) (keyK [[0]]) 1))]
  ·rfl
  ·unfold D6
   dsimp only
   rw [show ix [([] : List Int)] 0 = some [] from rfl]
   simp only [ob, sure_can h0, r0, Bool.not_true, Bool.false_eq_true, if_false]
   rw [show ((([[0]] : LL).length : Nat) : Int) = 1 from rfl, one_rng (x := .inl ([[], [0]], mset (mset ([] : List (ByteArray × Int)) (keyK [[]]) 1) (keyK [[0]]) 1))]
   ·rfl
   ·unfold D5
    dsimp only
    rw [show ix [([0] : List Int)] 0 = some [0] from rfl]
    simp only [ob, k1]
    rw [aa2, if_neg hk]
    simp [mget, app, I9]
 have s2 : x7 m6 ([[], [0]], mset (mset ([] : List (ByteArray × Int)) (keyK [[]]) 1) (keyK [[0]]) 1, 1) = some (.inl ([[], [0]], mset (mset ([] : List (ByteArray × Int)) (keyK [[]]) 1) (keyK [[0]]) 1, 2)) := by
  unfold x7
  dsimp only
  rw [if_pos (by decide)]
  rw [show (m6.operators.length : Int) = 1 from rfl, one_rng (x := .inl ([[], [0]], mset (mset ([] : List (ByteArray × Int)) (keyK [[]]) 1) (keyK [[0]]) 1))]
  ·rfl
  ·unfold D6
   dsimp only
   rw [show ix [([] : List Int), [0]] 1 = some [0] from rfl]
   simp only [ob, sure_can set01, r1, Bool.not_true, Bool.false_eq_true, if_false]
   rw [show ((([[0]] : LL).length : Nat) : Int) = 1 from rfl, one_rng (x := .inl ([[], [0]], mset (mset ([] : List (ByteArray × Int)) (keyK [[]]) 1) (keyK [[0]]) 1))]
   ·rfl
   ·unfold D5
    dsimp only
    rw [show ix [([0] : List Int)] 0 = some [0] from rfl]
    simp only [ob, k1]
    rw [aa2, if_pos rfl]
    simp [I9]
 have s3 : x7 m6 ([[], [0]], mset (mset ([] : List (ByteArray × Int)) (keyK [[]]) 1) (keyK [[0]]) 1, 2) = some (.inr (.inl [[], [0]])) := by
  unfold x7
  dsimp only
  rw [if_neg (by decide)]
 unfold A5
 rw [show m6.init = [] from rfl, ac3 (by decide)]
 simp only [ob, k0]
 rw [F5, s1]
 dsimp only
 rw [F5, s2]
 dsimp only
 rw [F5, s3]
 simp only [ob]
 obtain ⟨r, n1, n2, n3, _⟩ := ae3 (l := [[], [0]]) (by decide)
 rw [n1, show r = [[], [0]] from Ord.ext n2 (by simp [llt]) n3]
 rfl
theorem sure_bs {l : LL} (h : l = [[], [0]]) : K8 l [] = some 0 ∧ K8 l [0] = some 1 := by
 subst h
 exact ⟨ab7 (by simp [llt]) (by decide) rfl, ab7 (by simp [llt]) (by decide) rfl⟩
theorem one_for {S : Type} {body : Int → S → Option S} {s s1 : S} (h : body 0 s = some s1) : forR 0 1 body s = some s1 := by
 unfold forR
 rw [show ((1 : Int) - 0).toNat = 1 from rfl]
 simp only [forN, h]
theorem two_for {S : Type} {body : Int → S → Option S} {s s1 s2 : S} (h : body 0 s = some s1) (h2 : body 1 s1 = some s2) : forR 0 2 body s = some s2 := by
 unfold forR
 rw [show ((2 : Int) - 0).toNat = 2 from rfl]
 simp only [forN, h]
 rw [show (0 : Int) + 1 = 1 from rfl, h2]
abbrev J7 : LL := [[], [0]]
theorem sure_c0 : p8 [] m6.goal = some false := by
 rw [show m6.goal = [0] from rfl, L3 .nil set01.1 (by decide), w7]
 intro h; have := h 0 (by simp); cases this
theorem sure_c1 : p8 [0] m6.goal = some true := by
 rw [show m6.goal = [0] from rfl, L3 set01.1 set01.1 (by decide), m7]
 intro x hx; exact hx
theorem sure_best {rank : List Int} (h : ix rank 1 = some 0) : n9 m6 J7 rank [] = some 0 := by
 obtain ⟨w0, r0⟩ := ag3 (s := []) (M7 _)
 have hw : A4 m6 J7 rank [] 0 = some 0 := by
  unfold A4
  rw [r0]
  simp only [ob]
  rw [show ((([[0]] : LL).length : Nat) : Int) = 1 from rfl, one_rng (x := .inl 0)]
  ·rfl
  ·unfold C7
   dsimp only
   rw [show ix [([0] : List Int)] 0 = some [0] from rfl]
   simp only [ob, (sure_bs rfl).2, h]
   rfl
 unfold n9
 rw [show (m6.operators.length : Int) = 1 from rfl, one_for (s1 := (0, 0))]
 ·rfl
 ·unfold L7
  dsimp only
  rw [sure_can (M7 _)]
  simp [hw]
theorem sure_ranks : H5 m6 J7 = some [1, 0] := by
 have l0 : y7 m6 J7 ([-1, 0], 1) = some (.inl ([1, 0], 2)) := by
  unfold y7
  dsimp only
  rw [show (J7.length : Int) = 2 from rfl, two_for (s1 := [0]) (s2 := [0])]
  ·simp only [ob]
   rw [if_neg (by decide), show (([0] : List Int).length : Int) = 1 from rfl, one_for (s1 := [1, 0])]
   ·rfl
   ·rfl
  ·unfold K4
   rw [show ix J7 0 = some [] from rfl, show ix ([-1, 0] : List Int) 0 = some (-1) from rfl]
   simp only [ob]
   rw [if_pos (by decide), sure_best rfl]
   rfl
  ·rfl
 have l1 : y7 m6 J7 ([1, 0], 2) = some (.inr [1, 0]) := by
  unfold y7
  dsimp only
  rw [show (J7.length : Int) = 2 from rfl, two_for (s1 := []) (s2 := [])]
  ·rfl
  ·rfl
  ·rfl
 unfold H5
 rw [show w9 [-1] (J7.length : Int) = some [-1, -1] from rfl]
 simp only [ob]
 rw [show (J7.length : Int) = 2 from rfl, two_for (s1 := [-1, -1]) (s2 := [-1, 0])]
 ·simp only [ob]
  rw [F5, l0]
  dsimp only
  rw [F5, l1]
  rfl
 ·unfold F8
  rw [show ix J7 0 = some [] from rfl]
  simp only [ob, sure_c0]
  rfl
 ·unfold F8
  rw [show ix J7 1 = some [0] from rfl]
  simp only [ob, sure_c1]
  rfl
theorem polNil : C3 m6 [] := ⟨by decide, .nil, by simp, by simp, by simp⟩
theorem chosen_nil (s : List Int) : E7 [] s = some (-1) := by
 obtain ⟨h1, h2⟩ := V8 polNil s
 rw [h1]
 rcases h2 with h | ⟨h, _⟩
 ·rw [h]
 ·obtain ⟨c, hc, _⟩ := chO_mem h
  cases hc
abbrev L6 : List d7 := [⟨[], 0⟩]
theorem sure_build : I4 m6 (fun y1 => q7 y1 m6 J7 [1, 0]) = some (L6, true) := by
 obtain ⟨w0, r0⟩ := ag3 (s := []) (M7 _)
 have b0 : s5 m6 (fun y1 => q7 y1 m6 J7 [1, 0]) ([[]], [], 0) = some (.inl ([[], [0]], L6, 1)) := by
  unfold s5
  dsimp only
  rw [if_pos (by decide), show ix [([] : List Int)] 0 = some [] from rfl]
  simp only [ob, sure_c0, chosen_nil]
  rw [if_neg (by decide)]
  simp only [ob]
  rw [if_neg (by decide), if_neg (by decide)]
  have hc : q7 [] m6 J7 [1, 0] = some 0 := by
   unfold q7
   rw [sure_best rfl]; rfl
  have hb : i7 [] [] y4 = some (0, false) := by
   rw [show i7 [] [] y4 = bsf [] [] y4 from rfl]
   unfold bsf
   rw [F5]
   simp [bsl]
  rw [hc]
  simp only [ob, hb, ac3 (s := []) (by decide)]
  rw [show insL ([] : List d7) 0 ⟨[], 0⟩ = some L6 from rfl]
  simp only [ob, r0]
  rfl
 have b1 : s5 m6 (fun y1 => q7 y1 m6 J7 [1, 0]) ([[], [0]], L6, 1) = some (.inl ([[], [0]], L6, 2)) := by
  unfold s5
  dsimp only
  rw [if_pos (by decide), show ix [([] : List Int), [0]] 1 = some [0] from rfl]
  simp only [ob, sure_c1]
  rfl
 have b2 : s5 m6 (fun y1 => q7 y1 m6 J7 [1, 0]) ([[], [0]], L6, 2) = some (.inr (.inl L6)) := by
  unfold s5
  dsimp only
  rw [if_neg (by decide)]
 unfold I4
 rw [show m6.init = [] from rfl, F5, b0]
 dsimp only
 rw [F5, b1]
 dsimp only
 rw [F5, b2]
 rfl
theorem sure_policy : o6 m6 = some (L6, true, ⟨0, 0⟩) := by
 unfold o6
 rw [explore_ok sure_ok, sure_reach]
 simp only [ob, if_true]
 rw [if_neg (by simp), sure_ranks]
 simp only [ob]
 rw [show m6.init = [] from rfl, (sure_bs rfl).1]
 simp only [ob]
 rw [show ix ([1, 0] : List Int) 0 = some 1 from rfl]
 simp only [ob]
 rw [if_neg (by decide), sure_build]
 rfl
theorem sure_pol : C3 m6 L6 := ⟨by decide, by simp, fun c hc => by
  simp only [List.mem_singleton] at hc
  subst hc
  exact M7 _, fun c hc => by
  simp only [List.mem_singleton] at hc
  subst hc
  exact ⟨by decide, by decide⟩, fun c hc x hx => by
  simp only [List.mem_singleton] at hc
  subst hc
  cases hx⟩
theorem sure_ch : chO L6 [] = 0 := by
 obtain ⟨r, h1, h2⟩ := X0 L6 []
 have e : chO L6 [] = r := by rw [chO, h1]; rfl
 rw [e]
 rcases h2 with ⟨_, h⟩ | ⟨c, hc, _, h⟩
 ·exact absurd rfl (h _ (List.mem_singleton.2 rfl))
 ·rw [h, List.mem_singleton.1 hc]
theorem sure_nx {y : List Int} : y ∈ nxS m6 L6 [] ↔ y = [0] := by
 unfold nxS
 rw [sure_ch, sureOo]
 simp only [sureO, List.map_cons, List.map_nil, List.mem_singleton]
 rw [show m6.facts = 1 from rfl, sure_x (M7 _)]
theorem sure_g1 : j3 m6 [0] := fun x hx => hx
theorem sure_g0 : ¬ j3 m6 [] := fun h => by have := h 0 (by simp [m6]); cases this
theorem sure_ht : HtS m6 L6 1 [] := Ht.of_succ (m := 0) sure_g0 (by unfold C2; rw [sure_ch]; exact Int.le_refl _) (fun y hy => ⟨0, Nat.le_refl _, .zero (sure_nx.1 hy ▸ sure_g1)⟩) ⟨[0], sure_nx.2 rfl, .zero sure_g1⟩
theorem sure_rch {s : List Int} (h : Rch m6 L6 s) : s = [] ∨ s = [0] := by
 induction h with
 | init => exact .inl rfl
 | step _ hg _ hy ih =>
  rcases ih with rfl | rfl
  ·exact .inr (sure_nx.1 hy)
  ·exact absurd sure_g1 hg
theorem sure_check : H6 m6 L6 = some (1, true, ⟨0, 0⟩) := by
 obtain ⟨l, hv, h⟩ := check_eq sure_ok sure_pol
 rcases h with ⟨k, _, h1, h2⟩ | ⟨⟨s, hs, h1⟩, _⟩
 ·have : k = 1 := Ht.unique h1 sure_ht
  subst this
  exact h2
 ·rcases sure_rch ((hv.mem s).1 hs) with rfl | rfl
  ·exact absurd sure_ht (h1 1)
  ·exact absurd (.zero sure_g1) (h1 0)
theorem aj7 (p : List d7) : L8 p p = some true := by
 unfold L8
 rw [if_pos rfl, rngX_all (by omega) fun j j0 j1 => by
  obtain ⟨c, hc, _⟩ := i5 (l := p) j0 j1
  unfold W8
  rw [hc]
  simp only [ob, decide_true, Bool.not_true, Bool.false_eq_true, if_false, ints_eq, m7]]
 rfl
theorem ad8 : G9 = some true := by
 unfold G9
 rw [show aa1 = some m6 from rfl]
 simp only [ob, sure_policy, sure_check, if_true, aj7]
end Ab
end
section
namespace Ab
open Go
end Ab
end
section
namespace Ab
open Go
end Ab
end
section
namespace Ab
open Go
noncomputable def nxC (t : b9) (ch : List Int → Int) (s : List Int) : LL := (ooAt t (ch s)).outcomes.map (efc t.facts s)
inductive RchC (t : b9) (ch : List Int → Int) : List Int → Prop
 | init : RchC t ch t.init
 | step {s y : List Int} (h : RchC t ch s) (hg : ¬ j3 t s) (hy : y ∈ nxC t ch s) : RchC t ch y
def ChOk (t : b9) (ch : List Int → Int) : Prop := ∀ s, RchC t ch s → ¬ j3 t s → (0 ≤ ch s ∧ ch s < t.operators.length) ∧ oCan t s (ch s)
section
variable {t : b9} {ch : List Int → Int}
theorem RchC.set (ht : j6 t) {s : List Int} (h : RchC t ch s) : SetN s t.facts := by
 cases h with
 | init => exact ht.init
 | step _ _ hy => obtain ⟨x, _, rfl⟩ := List.mem_map.1 hy; exact ah6 _ _ _
structure PolB (t : b9) (ch : List Int → Int) (p : List d7) : Prop where
 ord : Ord (p.map d7.state)
 mem : ∀ s, (∃ c ∈ p, c.state = s) ↔ RchC t ch s ∧ ¬ j3 t s
 op : ∀ c ∈ p, c.operator = ch c.state
theorem polB_eq {p : List d7} (h : ∀ c ∈ p, c.operator = ch c.state) : p = (p.map d7.state).map fun s => (⟨s, ch s⟩ : d7) := by
 rw [List.map_map]
 have : p.map id = p.map ((fun s => (⟨s, ch s⟩ : d7)) ∘ d7.state) := List.map_congr_left fun c hc => by
  have := h c hc
  cases c with
  | mk s o => dsimp only at this; simp only [id, Function.comp, this]
 rwa [List.map_id] at this
theorem PolB.unique {p q : List d7} (h : PolB t ch p) (g : PolB t ch q) : p = q := by
 have e : p.map d7.state = q.map d7.state := by
  refine Ord.ext h.ord g.ord fun s => ?_
  have a := h.mem s; have b := g.mem s
  simp only [List.mem_map]
  exact ⟨fun ⟨c, h1, h2⟩ => b.2 (a.1 ⟨c, h1, h2⟩), fun ⟨c, h1, h2⟩ => a.2 (b.1 ⟨c, h1, h2⟩)⟩
 rw [polB_eq h.op, e, ← polB_eq g.op]
theorem PolB.rch {p : List d7} (h : PolB t ch p) {c : d7} (hc : c ∈ p) : RchC t ch c.state ∧ ¬ j3 t c.state := (h.mem _).1 ⟨c, hc, rfl⟩
theorem PolB.pol (ht : j6 t) (hk : ChOk t ch) {p : List d7} (h : PolB t ch p) (hl : p.length ≤ 200) : C3 t p :=
 ⟨hl, h.ord, fun c hc => (h.rch hc).1.set ht, fun c hc => by rw [h.op c hc]; exact (hk _ (h.rch hc).1 (h.rch hc).2).1, fun c hc => by rw [h.op c hc]; exact (hk _ (h.rch hc).1 (h.rch hc).2).2⟩
theorem chO_ch {p : List d7} (hop : ∀ c ∈ p, c.operator = ch c.state) (s : List Int) : (chO p s = -1 ∧ ∀ c ∈ p, c.state ≠ s) ∨ ((∃ c ∈ p, c.state = s) ∧ chO p s = ch s) := by
 obtain ⟨r, h1, h2⟩ := X0 p s
 have : chO p s = r := by rw [chO, h1]; rfl
 rw [this]
 rcases h2 with ⟨rfl, h⟩ | ⟨c, hc, rfl, rfl⟩
 ·exact .inl ⟨rfl, h⟩
 ·exact .inr ⟨⟨c, hc, rfl⟩, hop c hc⟩
theorem rch_of {p : List d7} (hop : ∀ c ∈ p, c.operator = ch c.state) {s : List Int} (h : Rch t p s) : RchC t ch s := by
 induction h with
 | init => exact .init
 | @step s y _ hg hl hy ih =>
  refine .step ih hg ?_
  rcases chO_ch hop s with ⟨e, _⟩ | ⟨_, e⟩
  ·unfold C2 at hl; omega
  ·unfold nxS at hy; rw [e] at hy; exact hy
theorem PolB.live {p : List d7} (h : PolB t ch p) {s : List Int} (hs : RchC t ch s) (hg : ¬ j3 t s) : chO p s = ch s := by
 rcases chO_ch h.op s with ⟨_, e⟩ | ⟨_, e⟩
 ·obtain ⟨c, hc, he⟩ := (h.mem s).2 ⟨hs, hg⟩
  exact absurd he (e c hc)
 ·exact e
theorem PolB.reach (hk : ChOk t ch) {p : List d7} (h : PolB t ch p) {s : List Int} (hs : RchC t ch s) : Rch t p s := by
 induction hs with
 | init => exact .init
 | @step s y hr hg hy ih =>
  have e := h.live hr hg
  refine .step ih hg (by unfold C2; rw [e]; exact (hk s hr hg).1.1) (by unfold nxS; rw [e]; exact hy)
/-! ### One choice put in its place -/
theorem mem_takeN {α : Type} {l : List α} {n : Nat} {a : α} (h : a ∈ l.take n) : ∃ k : Int, 0 ≤ k ∧ k < n ∧ ix l k = some a := by
 obtain ⟨k, hk⟩ := List.getElem?_of_mem h
 rw [List.getElem?_take] at hk
 split at hk
 ·exact ⟨k, by omega, by omega, by rw [Q1]; exact hk⟩
 ·cases hk
theorem mem_dropN {α : Type} {l : List α} {n : Nat} {a : α} (h : a ∈ l.drop n) : ∃ k : Int, (n : Int) ≤ k ∧ ix l k = some a := by
 obtain ⟨k, hk⟩ := List.getElem?_of_mem h
 rw [List.getElem?_drop] at hk
 exact ⟨(n + k : Nat), by omega, by rw [Q1]; exact hk⟩
theorem ins_ord {p : List d7} {c : d7} {i : Int} (ho : Ord (p.map d7.state)) (h0 : 0 ≤ i) (hlt : ∀ k a, 0 ≤ k → k < i → ix p k = some a → llt a.state c.state) (hge : ∀ k a, i ≤ k → ix p k = some a → ¬ llt a.state c.state) (hns : ∀ a ∈ p, a.state ≠ c.state) :
  Ord ((p.take i.toNat ++ c :: p.drop i.toNat).map d7.state) := by
 have a1 : ∀ a ∈ p.take i.toNat, llt a.state c.state := fun a ha => by
  obtain ⟨k, k0, k1, hk⟩ := mem_takeN ha
  exact hlt k a k0 (by omega) hk
 have a2 : ∀ a ∈ p.drop i.toNat, llt c.state a.state := fun a ha => by
  obtain ⟨k, k1, hk⟩ := mem_dropN ha
  rcases M5 a.state c.state with h | h | h
  ·exact absurd h (hge k a (by omega) hk)
  ·exact absurd h (hns a (i8 hk))
  ·exact h
 have s1 : Ord ((p.take i.toNat).map d7.state) := by rw [List.map_take]; exact List.Pairwise.sublist (List.take_sublist _ _) ho
 have s2 : Ord ((p.drop i.toNat).map d7.state) := by rw [List.map_drop]; exact List.Pairwise.sublist (List.drop_sublist _ _) ho
 rw [List.map_append, List.map_cons]
 refine List.pairwise_append.2 ⟨s1, List.pairwise_cons.2 ⟨fun x hx => ?_, s2⟩, fun x hx y hy => ?_⟩
 ·obtain ⟨a, ha, rfl⟩ := List.mem_map.1 hx
  exact a2 a ha
 ·obtain ⟨a, ha, rfl⟩ := List.mem_map.1 hx
  rcases List.mem_cons.1 hy with rfl | hy
  ·exact a1 a ha
  ·obtain ⟨b, hb, rfl⟩ := List.mem_map.1 hy
   exact B0 (a1 a ha) (a2 b hb)
theorem ins_mem {α : Type} {p : List α} {c x : α} {n : Nat} : x ∈ p.take n ++ c :: p.drop n ↔ x = c ∨ x ∈ p := by
 have : x ∈ p ↔ x ∈ p.take n ∨ x ∈ p.drop n := by
  rw [← List.mem_append, List.take_append_drop]
 rw [this]
 simp only [List.mem_append, List.mem_cons]
 constructor
 ·rintro (h | h | h)
  ·exact .inr (.inl h)
  ·exact .inl h
  ·exact .inr (.inr h)
 ·rintro (h | h | h)
  ·exact .inr (.inl h)
  ·exact .inl h
  ·exact .inr (.inr h)
theorem ins_len {α : Type} {p : List α} {c : α} {n : Nat} (h : n ≤ p.length) : (p.take n ++ c :: p.drop n).length = p.length + 1 := by simp; omega
structure PolP (t : b9) (ch : List Int → Int) (p : List d7) : Prop where
 pol : C3 t p
 of : ∀ c ∈ p, (RchC t ch c.state ∧ ¬ j3 t c.state) ∧ c.operator = ch c.state
theorem PolP.op {p : List d7} (h : PolP t ch p) : ∀ c ∈ p, c.operator = ch c.state := fun c hc => (h.of c hc).2
theorem PolP.ins (ht : j6 t) (hk : ChOk t ch) {p : List d7} (h : PolP t ch p) {s : List Int} (hs : RchC t ch s) (hg : ¬ j3 t s) {i : Int} (h0 : 0 ≤ i) (h1 : i ≤ p.length) (hlt : ∀ k a, 0 ≤ k → k < i → ix p k = some a → llt a.state s) (hge : ∀ k a, i ≤ k → ix p k = some a → ¬ llt a.state s) (hns : ∀ a ∈ p, a.state ≠ s) (hl : p.length < 200) :
  PolP t ch (p.take i.toNat ++ ⟨s, ch s⟩ :: p.drop i.toNat) := by
 have key : ∀ {q : d7 → Prop}, q ⟨s, ch s⟩ → (∀ c ∈ p, q c) → ∀ c ∈ p.take i.toNat ++ ⟨s, ch s⟩ :: p.drop i.toNat, q c := fun h1 h2 c hc => by
  rcases ins_mem.1 hc with rfl | hc
  ·exact h1
  ·exact h2 c hc
 exact ⟨⟨by rw [ins_len (by omega)]; omega, ins_ord h.pol.ord h0 hlt hge hns, key (hs.set ht) h.pol.set, key (hk s hs hg).1 h.pol.op, key (hk s hs hg).2 h.pol.can⟩, key ⟨⟨hs, hg⟩, rfl⟩ h.of⟩
theorem aj2 {p : List d7} (h : Ord (p.map d7.state)) {s : List Int} (hns : ∀ a ∈ p, a.state ≠ s) : (s :: p.map d7.state).Nodup :=
 List.nodup_cons.2 ⟨fun hm => by obtain ⟨a, ha, e⟩ := List.mem_map.1 hm; exact hns a ha e, h.nodup⟩
structure BI (t : b9) (ch : List Int → Int) (q : LL) (p : List d7) (a : Int) : Prop where
 a0 : 0 ≤ a
 a1 : a ≤ q.length
 pp : PolP t ch p
 qr : ∀ s ∈ q, RchC t ch s
 qi : t.init ∈ q
 px : ∀ c ∈ p, ∀ y ∈ nxC t ch c.state, y ∈ q
 dn : ∀ k s, k < a → ix q k = some s → j3 t s ∨ ∃ c ∈ p, c.state = s
 ql : q.length ≤ 1 + 4 * p.length
theorem build_prog (ht : j6 t) (hk : ChOk t ch) {choose : List Int → Option Int} (hch : ∀ s, RchC t ch s → ¬ j3 t s → choose s = some (ch s)) :
  ∃ r, I4 t choose = some r ∧ ((r = ([], false) ∧ ∃ l : LL, l.Nodup ∧ (∀ s ∈ l, RchC t ch s ∧ ¬ j3 t s) ∧ l.length = 201) ∨ ∃ p, r = (p, true) ∧ PolB t ch p ∧ p.length ≤ 200) := by
 have hn := ht.n1
 obtain ⟨o, o1, o2⟩ := C4 (body := s5 t choose) (fun x => BI t ch x.1 x.2.1 x.2.2) (fun o => (o = .inr ([], false) ∧ ∃ l : LL, l.Nodup ∧ (∀ s ∈ l, RchC t ch s ∧ ¬ j3 t s) ∧ l.length = 201) ∨ ∃ p, o = .inl p ∧ PolB t ch p ∧ p.length ≤ 200) (fun x => (1000 - x.2.2).toNat)
  (s := ([t.init], [], 0)) ⟨by dsimp only; omega, by simp, ⟨⟨by simp, .nil, by simp, by simp, by simp⟩, by simp⟩, fun s hs => by rw [List.mem_singleton.1 hs]; exact .init, by simp, by simp, fun k s hk hs => by have := (j7 hs).1; dsimp only at hk; omega, by simp⟩ (fun ⟨q, p, a⟩ h => by
   have a0 : 0 ≤ a := h.a0
   have a1 : a ≤ q.length := h.a1
   have ql : q.length ≤ 1 + 4 * p.length := h.ql
   have pp : PolP t ch p := h.pp
   have qr : ∀ s ∈ q, RchC t ch s := h.qr
   have qi : t.init ∈ q := h.qi
   have px : ∀ c ∈ p, ∀ y ∈ nxC t ch c.state, y ∈ q := h.px
   have dn : ∀ k s, k < a → ix q k = some s → j3 t s ∨ ∃ c ∈ p, c.state = s := h.dn
   have pl : p.length ≤ 200 := pp.pol.len
   clear h
   dsimp only
   unfold s5
   dsimp only
   by_cases c : a < q.length
   ·rw [if_pos c]
    obtain ⟨s, hs, _⟩ := i5 (l := q) a0 c
    have hr := qr s (i8 hs)
    have hset := hr.set ht
    have hsl := hset.len
    rw [hs]
    simp only [ob, L3 hset.1 ht.goal.1 (show s.length ≤ 1000000 by omega), (V8 pp.pol s).1]
    have key : (if dec (∀ x ∈ t.goal, x ∈ s) = true then some true else some (decide (0 ≤ chO p s))) = some (dec (j3 t s ∨ 0 ≤ chO p s)) := by
     by_cases hg : j3 t s
     ·rw [ifP (p := ∀ x ∈ t.goal, x ∈ s) hg, m7 (.inl hg)]
     ·rw [ifN (p := ∀ x ∈ t.goal, x ∈ s) hg, N1]
      congr 1
      exact B2 ⟨.inr, fun h => h.resolve_left hg⟩
    rw [key]
    simp only [ob]
    have hw : w64 (a + 1) = a + 1 := s7 (by omega) (by omega)
    by_cases cg : j3 t s ∨ 0 ≤ chO p s
    ·rw [ifP cg]
     unfold F6
     dsimp only
     refine .inl ⟨(q, p, a + 1), by rw [hw], ⟨by dsimp only; omega, by dsimp only; omega, pp, qr, qi, px, fun (k : Int) z hk2 hz => ?_, ql⟩, by dsimp only; omega⟩
     dsimp only at hk2 hz
     by_cases e : k = a
     ·subst e
      rw [hs] at hz; cases hz
      refine cg.imp id fun hc => ?_
      rcases chO_ch pp.op s with ⟨e, _⟩ | ⟨e, _⟩
      ·omega
      ·exact e
     ·exact dn k z (by omega) hz
    ·rw [ifN cg]
     have hg : ¬ j3 t s := fun g => cg (.inl g)
     have hns : ∀ c ∈ p, c.state ≠ s := by
      rcases chO_ch pp.op s with ⟨_, e⟩ | ⟨_, e⟩
      ·exact e
      ·exact absurd (.inr (by rw [e]; exact (hk s hr hg).1.1)) cg
     by_cases cl : (p.length : Int) = 200
     ·rw [if_pos cl]
      refine .inr ⟨_, rfl, .inl ⟨rfl, s :: p.map d7.state, aj2 pp.pol.ord hns, fun z hz => ?_, by simp; omega⟩⟩
      rcases List.mem_cons.1 hz with rfl | hz
      ·exact ⟨hr, hg⟩
      ·obtain ⟨c, hc, rfl⟩ := List.mem_map.1 hz
       exact (pp.of c hc).1
     ·rw [if_neg cl, hch s hr hg]
      simp only [ob]
      have ho := hk s hr hg
      obtain ⟨i, i1, i0, _, i2, i3, i4⟩ := bsf_full (key := d7.state) (xs := p) (t := s) (cmp := y4) pp.pol.ord (by omega) (fun a => by unfold y4; rw [X2]; rfl)
      have hb : i7 p s y4 = some (i, dec (∃ a ∈ p, a.state = s)) := i1
      rw [hb]
      simp only [ob, ac3 (show s.length ≤ 1000000 by omega)]
      rw [insL, if_pos ⟨i0, i2, by omega⟩]
      obtain ⟨st, w, r1, _, r3, r4, _⟩ := E5 ht ho.1.1 ho.1.2 hset
      simp only [ob, r1]
      rw [app, if_pos (by omega)]
      simp only [ob]
      unfold F6
      dsimp only
      have hst : ∀ y, y ∈ st ↔ y ∈ nxC t ch s := fun y => by rw [r3, nxC, List.mem_map]
      have pp' := pp.ins ht hk hr hg i0 i2 i3 i4 hns (by omega)
      refine .inl ⟨(q ++ st, p.take i.toNat ++ ⟨s, ch s⟩ :: p.drop i.toNat, a + 1), by rw [hw], ⟨by dsimp only; omega, by simp; omega, pp', fun z hz => ?_, List.mem_append_left _ qi, fun c hc y hy => ?_, fun k z hk2 hz => ?_, ?_⟩, by dsimp only; omega⟩
      ·rcases List.mem_append.1 hz with hz | hz
       ·exact qr z hz
       ·exact .step hr hg ((hst z).1 hz)
      ·rcases ins_mem.1 hc with rfl | hc
       ·exact List.mem_append_right _ ((hst y).2 hy)
       ·exact List.mem_append_left _ (px c hc y hy)
      ·dsimp only at hk2 hz
       obtain ⟨z', hz', _⟩ := i5 (l := q) (i := k) (j7 hz).1 (by omega)
       have e : z' = z := by
        obtain ⟨k0, _, g1⟩ := j7 hz
        obtain ⟨_, k1, g2⟩ := j7 hz'
        rw [List.getElem?_append_left (by omega), g2] at g1
        exact Option.some.inj g1
       subst e
       by_cases e : k = a
       ·subst e
        rw [hs] at hz'; cases hz'
        exact .inr ⟨⟨s, ch s⟩, ins_mem.2 (.inl rfl), rfl⟩
       ·refine (dn k _ (by omega) hz').imp id fun ⟨c, hc, e⟩ => ⟨c, ins_mem.2 (.inr hc), e⟩
      ·dsimp only
       rw [List.length_append, ins_len (by omega)]
       omega
   ·rw [if_neg c]
    have all : ∀ s, RchC t ch s → s ∈ q := fun s hs => by
     induction hs with
     | init => exact qi
     | @step s y _ hg hy ih =>
      obtain ⟨k, k0, k1, hk1⟩ := k9 ih
      rcases dn k s (by omega) hk1 with g | ⟨c, hc, rfl⟩
      ·exact absurd g hg
      ·exact px c hc y hy
    refine .inr ⟨_, rfl, .inr ⟨p, rfl, ⟨pp.pol.ord, fun s => ⟨fun ⟨c, hc, e⟩ => e ▸ (pp.of c hc).1, fun ⟨hs, hg⟩ => ?_⟩, pp.op⟩, pl⟩⟩
    obtain ⟨k, k0, k1, hk1⟩ := k9 (all s hs)
    exact (dn k s (by omega) hk1).resolve_left hg)
 unfold I4
 rw [o1]
 rcases o2 with ⟨rfl, h⟩ | ⟨p, rfl, h⟩
 ·exact ⟨_, rfl, .inl ⟨rfl, h⟩⟩
 ·exact ⟨_, rfl, .inr ⟨p, rfl, h⟩⟩
theorem goal_dec (s : List Int) : K2 t s = some (dec (j3 t s)) := by
 unfold K2 j3
 rw [subset_eq]
 simp only [ob]
theorem build_ref (ht : j6 t) (hk : ChOk t ch) {all : LL} {value : List Int} {kind : Int} (hall : ∀ s, RchC t ch s → ¬ j3 t s → s ∈ all) (hlen : all.length ≤ 200) (hv : value.length = all.length)
  (hop : ∀ s, RchC t ch s → ¬ j3 t s → ∀ i v, ix all i = some s → ix value i = some v → (Option.bind (if kind = 1 then Option.bind (D1 t all value s) fun a62 => some a62 else some v) fun o => if kind = 2 then Option.bind (L5 t all value s) fun a69 => some a69 else some o) = some (ch s)) :
  ∃ p, V7 t all value kind = some p ∧ PolB t ch p := by
 have hn := ht.n1
 unfold V7
 obtain ⟨p, h1, h2⟩ := C4 (body := U0 t all value kind) (PolP t ch) (PolB t ch) (fun p => 201 - p.length) (s := []) ⟨⟨by simp, .nil, by simp, by simp, by simp⟩, by simp⟩ (fun p h => by
  have pl := h.pol.len
  unfold U0
  obtain ⟨l, v1, hvis⟩ := rVisited_eq ht h.pol
  have hll := hvis.len ht h.pol
  rw [v1]
  simp only [ob]
  obtain ⟨f, f1, f2⟩ := o9 (body := T2 t p l) (n := (l.length : Int)) (s := -1) (fun j f => (f = -1 ∧ ∀ k s, k < j → ix l k = some s → j3 t s ∨ 0 ≤ chO p s) ∨ (0 ≤ f ∧ ∃ s, ix l f = some s ∧ ¬ j3 t s ∧ chO p s < 0)) (by omega) (.inl ⟨rfl, fun k s hk hs => by have := (j7 hs).1; omega⟩) (fun j f j0 j1 hf => by
   obtain ⟨s, hs, _⟩ := i5 (l := l) j0 j1
   unfold T2
   rw [hs]
   simp only [ob, goal_dec, rChosen_chO, u3]
   by_cases hg : j3 t s
   ·rw [ifNN hg]
    simp only [ob, Bool.false_eq_true, if_false]
    refine ⟨_, rfl, ?_⟩
    rcases hf with ⟨e, h1⟩ | h1
    ·refine .inl ⟨e, fun k z hk hz => ?_⟩
     by_cases e : k = j
     ·subst e; rw [hs] at hz; cases hz; exact .inl hg
     ·exact h1 k z (by omega) hz
    ·exact .inr h1
   ·rw [ifP hg]
    simp only [ob]
    by_cases hc : chO p s < 0
    ·rw [if_pos (decide_eq_true hc)]
     exact ⟨_, rfl, .inr ⟨j0, s, hs, hg, hc⟩⟩
    ·rw [if_neg (by simpa using hc)]
     refine ⟨_, rfl, ?_⟩
     rcases hf with ⟨e, h1⟩ | h1
     ·refine .inl ⟨e, fun k z hk hz => ?_⟩
      by_cases e : k = j
      ·subst e; rw [hs] at hz; cases hz; exact .inr (by omega)
      ·exact h1 k z (by omega) hz
     ·exact .inr h1)
  rw [f1]
  simp only [ob]
  rcases f2 with ⟨rfl, f2⟩ | ⟨f0, s, hs, hg, hc⟩
  ·rw [if_pos (by decide)]
   refine .inr ⟨p, rfl, ⟨h.pol.ord, fun s => ⟨fun ⟨c, hc, e⟩ => e ▸ (h.of c hc).1, fun ⟨hs, hg⟩ => ?_⟩, h.op⟩⟩
   have reach : ∀ s, RchC t ch s → Rch t p s := fun s hs => by
    induction hs with
    | init => exact .init
    | @step s y hr hg hy ih =>
     obtain ⟨k, k0, k1, hk1⟩ := k9 ((hvis.mem s).2 ih)
     have hlive := (f2 k s k1 hk1).resolve_left hg
     refine .step ih hg hlive ?_
     rcases chO_ch h.op s with ⟨e, _⟩ | ⟨_, e⟩
     ·omega
     ·unfold nxS; rw [e]; exact hy
   obtain ⟨k, k0, k1, hk1⟩ := k9 ((hvis.mem s).2 (reach s hs))
   have hlive := (f2 k s k1 hk1).resolve_left hg
   rcases chO_ch h.op s with ⟨e, _⟩ | ⟨e, _⟩
   ·omega
   ·exact e
  ·rw [if_neg (by omega), hs]
   have hr : RchC t ch s := rch_of h.op ((hvis.mem s).1 (i8 hs))
   have hset := hr.set ht
   have hsl := hset.len
   have hns : ∀ c ∈ p, c.state ≠ s := by
    rcases chO_ch h.op s with ⟨_, e⟩ | ⟨_, e⟩
    ·exact e
    ·have := (hk s hr hg).1.1; omega
   obtain ⟨pl1, e1, e2⟩ := ag1 all s
   have hsa := hall s hr hg
   rcases e2 with ⟨_, e2⟩ | ⟨e0, e3, e4, _⟩
   ·exact absurd hsa e2
   obtain ⟨v, hv1, _⟩ := i5 (l := value) (i := pl1) e0 (by omega)
   have hcode := hop s hr hg pl1 v e4 hv1
   simp only [ob, e1, hv1]
   rw [← Option.bind_assoc, hcode]
   simp only [ob]
   obtain ⟨⟨n, k⟩, g1, g2, g3, g4, g5, g6⟩ := C4 (body := T9 p s) (fun x => 0 ≤ x.2 ∧ x.2 ≤ p.length ∧ x.1 = p.take x.2.toNat ∧ ∀ j a, 0 ≤ j → j < x.2 → ix p j = some a → llt a.state s) (fun x => 0 ≤ x.2 ∧ x.2 ≤ p.length ∧ x.1 = p.take x.2.toNat ∧ (∀ j a, 0 ≤ j → j < x.2 → ix p j = some a → llt a.state s) ∧ ∀ j a, x.2 ≤ j → ix p j = some a → ¬ llt a.state s) (fun x => (p.length - x.2).toNat) (s := ([], 0)) ⟨by dsimp only; omega, by simp, by simp, fun j a h0 h1 => by dsimp only at h1; omega⟩ (fun ⟨n, k⟩ ⟨k0, k1, k2, k3⟩ => by
    dsimp only at k0 k1 k2 k3 ⊢
    unfold T9
    dsimp only
    by_cases ck : k < p.length
    ·rw [if_pos ck]
     obtain ⟨c, hc, hcg⟩ := i5 (l := p) k0 ck
     have hcs := (h.pol.set c (i8 hc)).len
     simp only [hc, ob]
     rw [before_eq (by omega)]
     simp only [ob]
     by_cases cb : llt c.state s
     ·rw [ifP cb, app, if_pos (by rw [k2]; simp; omega)]
      simp only [ob]
      rw [s7 (by omega) (by omega)]
      refine .inl ⟨_, rfl, ⟨by dsimp only; omega, by dsimp only; omega, ?_, fun j a h0 h1 ha => ?_⟩, by dsimp only; omega⟩
      ·dsimp only
       rw [k2, show (k + 1).toNat = k.toNat + 1 by omega, List.take_add_one, hcg]; rfl
      ·dsimp only at h1
       by_cases e : j = k
       ·subst e; rw [hc] at ha; cases ha; exact cb
       ·exact k3 j a h0 (by omega) ha
     ·rw [ifN cb]
      refine .inr ⟨_, rfl, k0, k1, k2, k3, fun j a h0 ha hlt => ?_⟩
      dsimp only at h0
      by_cases e : j = k
      ·subst e; rw [hc] at ha; cases ha; exact cb hlt
      ·exact cb (B0 (W4 h.pol.ord hc ha (by omega)) hlt)
    ·rw [if_neg ck]
     simp only [ob, Bool.false_eq_true, if_false]
     exact .inr ⟨_, rfl, k0, k1, k2, k3, fun j a h0 ha => by have := (j7 ha).2.1; dsimp only at h0; omega⟩)
   dsimp only at g2 g3 g4 g5 g6
   rw [g1]
   simp only [ob]
   have hnd := Q3 (S := all) (aj2 h.pol.ord hns) (fun z hz => by
    rcases List.mem_cons.1 hz with rfl | hz
    ·exact hsa
    ·obtain ⟨c, hc, rfl⟩ := List.mem_map.1 hz
     exact hall _ (h.of c hc).1.1 (h.of c hc).1.2)
   simp only [List.length_cons, List.length_map] at hnd
   have nl : n.length ≤ p.length := by rw [g4, List.length_take]; exact Nat.min_le_right _ _
   rw [app, if_pos (by simp; omega)]
   simp only [ob]
   rw [subL_drop g2 g3]
   simp only [ob]
   rw [app, if_pos (by simp; omega)]
   simp only [ob]
   have e : n ++ [(⟨s, ch s⟩ : d7)] ++ p.drop k.toNat = p.take k.toNat ++ ⟨s, ch s⟩ :: p.drop k.toNat := by rw [g4]; simp
   rw [e]
   refine .inl ⟨_, rfl, h.ins ht hk hr hg g2 g3 g5 g6 hns (by omega), ?_⟩
   rw [ins_len (by omega)]
   omega)
 rw [h1]
 exact ⟨p, rfl, h2⟩
end
end Ab
end
section
namespace Ab
open Go
/-! ### Values of ordered states -/
noncomputable def sc (t : b9) (s : List Int) (op : Int) : LL := (ooAt t op).outcomes.map (efc t.facts s)
structure Rep {A : Type} (all : LL) (v : List A) (f : List Int → A) : Prop where
 len : v.length = all.length
 get : ∀ {i : Int} {s : List Int}, ix all i = some s → ix v i = some (f s)
noncomputable def upd {A : Type} (f : List Int → A) (s : List Int) (x : A) : List Int → A := fun z => if dec (z = s) = true then x else f z
theorem X5 {A : Type} {f : List Int → A} {s : List Int} {x : A} : upd f s x s = x := ifP rfl
theorem Y8 {A : Type} {f : List Int → A} {s z : List Int} {x : A} (h : z ≠ s) : upd f s x z = f z := ifN h
section
variable {A : Type} {all : LL} {v : List A} {f g : List Int → A}
theorem Rep.of (h : Rep all v f) {s : List Int} (hs : s ∈ all) : ∃ i, ix all i = some s ∧ ix v i = some (f s) := by
 obtain ⟨i, _, _, hi⟩ := k9 hs
 exact ⟨i, hi, h.get hi⟩
theorem Rep.set (ho : Ord all) (h : Rep all v f) {i : Int} {s : List Int} (hi : ix all i = some s) (x : A) : Rep all (v.set i.toNat x) (upd f s x) := by
 obtain ⟨i0, i1, _⟩ := j7 hi
 have hl := h.len
 refine ⟨by rw [List.length_set]; exact hl, fun {j z} hj => ?_⟩
 rw [ix_put i0 (by omega) (j7 hj).1]
 by_cases e : j = i
 ·subst e
  rw [hi] at hj; cases hj
  rw [if_pos rfl, X5]
 ·rw [if_neg e, Y8 (fun hz => e (by subst hz; exact ho.inj hj hi))]
  exact h.get hj
theorem Rep.congr (h : Rep all v f) (e : ∀ s ∈ all, f s = g s) : Rep all v g := ⟨h.len, fun hi => by rw [← e _ (i8 hi)]; exact h.get hi⟩
theorem Rep.repl (c : A) : Rep all (List.replicate all.length c) fun _ => c := ⟨by simp, fun {i s} hi => by
 obtain ⟨i0, i1, g⟩ := j7 hi
 have : i.toNat < all.length := (List.getElem?_eq_some_iff.1 g).1
 rw [ix, if_pos i0, List.getElem?_replicate, if_pos this]⟩
end
theorem repeat_eq (c : Int) {n : Nat} (h1 : 1 ≤ n) (hn : n ≤ 100000) : w9 [c] (n : Int) = some (List.replicate n c) := by
 unfold w9
 dsimp only
 rw [if_pos (show (1 : Int) ≤ n ∧ (n : Int) ≤ 4294967295 by omega)]
 simp
def DnA (t : b9) : Nat → List Int → Prop
 | 0, s => j3 t s
 | k + 1, s => j3 t s ∨ ∃ op : Int, (0 ≤ op ∧ op < t.operators.length) ∧ oCan t s op ∧ ∀ y ∈ sc t s op, DnA t k y
section
variable {t : b9}
theorem DnA.goal {k : Nat} {s : List Int} (h : j3 t s) : DnA t k s := by
 cases k with
 | zero => exact h
 | succ k => exact .inl h
theorem DnA.succ : ∀ {k : Nat} {s : List Int}, DnA t k s → DnA t (k + 1) s
 | 0, s, h => .inl h
 | k + 1, s, h => by
  rcases h with h | ⟨op, h1, h2, h3⟩
  ·exact .inl h
  ·exact .inr ⟨op, h1, h2, fun y hy => DnA.succ (h3 y hy)⟩
theorem DnA.mono {k m : Nat} {s : List Int} (h : DnA t k s) (hm : k ≤ m) : DnA t m s := by
 induction hm with
 | refl => exact h
 | step _ ih => exact ih.succ
def HtA (t : b9) (k : Nat) (s : List Int) : Prop := DnA t k s ∧ ∀ j, j < k → ¬ DnA t j s
theorem HtA.unique {k m : Nat} {s : List Int} (h : HtA t k s) (h' : HtA t m s) : k = m := by
 rcases Nat.lt_trichotomy k m with c | c | c
 ·exact absurd h.1 (h'.2 k c)
 ·exact c
 ·exact absurd h'.1 (h.2 m c)
theorem HtA.of_dn : ∀ {k : Nat} {s : List Int}, DnA t k s → ∃ m, m ≤ k ∧ HtA t m s
 | 0, s, h => ⟨0, Nat.le_refl _, h, fun j hj => by omega⟩
 | k + 1, s, h => by
  by_cases c : DnA t k s
  ·obtain ⟨m, h1, h2⟩ := HtA.of_dn c
   exact ⟨m, by omega, h2⟩
  ·exact ⟨k + 1, Nat.le_refl _, h, fun j hj hd => c (hd.mono (by omega))⟩
theorem HtA.zero {s : List Int} (h : j3 t s) : HtA t 0 s := ⟨h, fun j hj => by omega⟩
theorem HtA.of_not {k : Nat} {s : List Int} (h : DnA t (k + 1) s) (hn : ¬ DnA t k s) : HtA t (k + 1) s := ⟨h, fun j hj hd => hn (hd.mono (by omega))⟩
structure ClO (t : b9) (all : LL) : Prop where
 cl : Cl t all
 ord : Ord all
theorem ClO.len {all : LL} (h : ClO t all) : all.length ≤ 2000 := h.cl.len
theorem ClO.set {all : LL} (h : ClO t all) {s : List Int} (hs : s ∈ all) : SetN s t.facts := h.cl.set s hs
theorem ClO.sc {all : LL} (h : ClO t all) {s : List Int} (hs : s ∈ all) {op : Int} (h0 : 0 ≤ op ∧ op < t.operators.length) (hc : oCan t s op) {y : List Int} (hy : y ∈ sc t s op) : y ∈ all := by
 obtain ⟨x, hx, rfl⟩ := List.mem_map.1 hy
 exact h.cl.closed s hs op h0.1 h0.2 hc x hx
theorem sc_ne (ht : j6 t) {s : List Int} {op : Int} (h0 : 0 ≤ op ∧ op < t.operators.length) : ∃ y, y ∈ sc t s op := by
 have := (ht.at h0.1 h0.2).l0
 cases h : (ooAt t op).outcomes with
 | nil => rw [h] at this; simp at this
 | cons x l => exact ⟨efc t.facts s x, by unfold sc; rw [h]; simp⟩
def WW (f : List Int → Int) (l : LL) (w : Int) : Prop := 0 ≤ w ∧ (∀ y ∈ l, 0 ≤ f y ∧ f y ≤ w) ∧ ∃ y ∈ l, f y = w
theorem WW.unique {f : List Int → Int} {l : LL} {w w' : Int} (h : WW f l w) (h' : WW f l w') : w = w' := by
 obtain ⟨_, a, y, hy, rfl⟩ := h
 obtain ⟨_, b, z, hz, rfl⟩ := h'
 have := (a z hz).2; have := (b y hy).2
 omega
theorem worstG (ht : j6 t) {all : LL} (ho : Ord all) (hl : all.length ≤ 500000) {s : List Int} (hs : SetN s t.facts) {op : Int} (h0 : 0 ≤ op ∧ op < t.operators.length) (hcl : ∀ y ∈ sc t s op, y ∈ all) {v : List Int} {f : List Int → Int} (hv : Rep all v f) :
  ∃ w, A4 t all v s op = some w ∧ ((w = -1 ∧ ∃ y ∈ sc t s op, f y < 0) ∨ WW f (sc t s op) w) := by
 obtain ⟨st, ws, r1, _, r3, _⟩ := E5 ht h0.1 h0.2 hs
 have hst : ∀ y, y ∈ st ↔ y ∈ sc t s op := fun y => by rw [r3, sc, List.mem_map]
 unfold A4
 rw [r1]
 simp only [ob]
 rcases U7 (body := C7 all v (st, ws)) (n := (st.length : Int)) (s := 0) (fun j n => 0 ≤ n ∧ (∀ k y, k < j → ix st k = some y → 0 ≤ f y ∧ f y ≤ n) ∧ (n = 0 ∨ ∃ y ∈ sc t s op, f y = n)) (fun o => o = -1 ∧ ∃ y ∈ sc t s op, f y < 0) (by omega) ⟨Int.le_refl _, fun k y hk h => by have := (j7 h).1; omega, .inl rfl⟩ (fun j n j0 j1 ⟨a1, a2, a3⟩ => by
  obtain ⟨y, hy, _⟩ := i5 (l := st) j0 j1
  have hyn := (hst y).1 (i8 hy)
  obtain ⟨i, hi, hvi⟩ := hv.of (hcl y hyn)
  unfold C7
  dsimp only
  rw [hy]
  simp only [ob, ab7 ho hl hi, hvi]
  by_cases c : f y < 0
  ·rw [if_pos c]
   exact .inr ⟨_, rfl, rfl, y, hyn, c⟩
  ·rw [if_neg c]
   refine .inl ⟨_, rfl, by omega, fun k z hk hz => ?_, ?_⟩
   ·by_cases ek : k = j
    ·subst ek
     rw [hy] at hz; cases hz
     omega
    ·have := a2 k z (by omega) hz
     omega
   ·by_cases cm : n ≤ f y
    ·rw [Int.max_eq_right cm]
     exact .inr ⟨y, hyn, rfl⟩
    ·rw [Int.max_eq_left (by omega)]
     exact a3) with ⟨n, e1, e2, e3, e4⟩ | ⟨o, e1, rfl, e2⟩
 ·rw [e1]
  have a : ∀ y ∈ sc t s op, 0 ≤ f y ∧ f y ≤ n := fun y hy => by
   obtain ⟨k, _, k1, hk⟩ := k9 ((hst y).2 hy)
   exact e3 k y k1 hk
  refine ⟨n, rfl, .inr ⟨e2, a, ?_⟩⟩
  rcases e4 with rfl | h
  ·obtain ⟨y, hy⟩ := sc_ne (s := s) ht h0
   exact ⟨y, hy, by have := a y hy; omega⟩
  ·exact h
 ·rw [e1]
  exact ⟨-1, rfl, .inl ⟨rfl, e2⟩⟩
def BestV (t : b9) (f : List Int → Int) (s : List Int) (b : Int) : Prop :=
 ((0 ≤ b ∧ b < t.operators.length) ∧ oCan t s b) ∧ ∃ w, WW f (sc t s b) w ∧ ∀ op : Int, (0 ≤ op ∧ op < t.operators.length) → oCan t s op → ∀ w', WW f (sc t s op) w' → w ≤ w' ∧ (op < b → w < w')
theorem best_eq (ht : j6 t) {all : LL} (hc : ClO t all) {s : List Int} (hs : s ∈ all) {v : List Int} {f : List Int → Int} (hv : Rep all v f) :
  ∃ b, n9 t all v s = some b ∧ ((b = -1 ∧ ∀ op : Int, (0 ≤ op ∧ op < t.operators.length) → oCan t s op → ∃ y ∈ sc t s op, f y < 0) ∨ BestV t f s b) := by
 have hset := hc.set hs
 have hlen := hc.len
 unfold n9
 obtain ⟨⟨out, least⟩, e1, e2⟩ := o9 (body := L7 t all v s) (n := (t.operators.length : Int)) (s := (-1, 0)) (fun j x => (x.1 = -1 ∧ ∀ op : Int, 0 ≤ op → op < j → oCan t s op → ∃ y ∈ sc t s op, f y < 0) ∨ ((0 ≤ x.1 ∧ x.1 < j) ∧ oCan t s x.1 ∧ WW f (sc t s x.1) x.2 ∧ ∀ op : Int, 0 ≤ op → op < j → oCan t s op → ∀ w', WW f (sc t s op) w' → x.2 ≤ w' ∧ (op < x.1 → x.2 < w'))) (by omega) (.inl ⟨rfl, fun op h0 h1 => by omega⟩) (fun j ⟨out, least⟩ j0 j1 h => by
  dsimp only at h
  unfold L7
  dsimp only
  rw [oCan_eq ht j0 j1 hset]
  simp only [ob, u3]
  by_cases cc : oCan t s j
  ·rw [ifNN cc]
   obtain ⟨w, w1, w2⟩ := worstG ht hc.ord (by omega) hset ⟨j0, j1⟩ (fun y hy => hc.sc hs ⟨j0, j1⟩ cc hy) hv
   rw [w1]
   simp only [ob]
   rcases w2 with ⟨rfl, y, hy, hyn⟩ | w2
   ·rw [if_neg (by simp)]
    refine ⟨_, rfl, ?_⟩
    dsimp only
    rcases h with ⟨h1, h2⟩ | ⟨h1, h2, h3, h4⟩
    ·refine .inl ⟨h1, fun op o0 o1 oc => ?_⟩
     by_cases e : op = j
     ·subst e; exact ⟨y, hy, hyn⟩
     ·exact h2 op o0 (by omega) oc
    ·refine .inr ⟨⟨h1.1, by omega⟩, h2, h3, fun op o0 o1 oc w' hw' => ?_⟩
     by_cases e : op = j
     ·subst e; have := (hw'.2.1 y hy).1; omega
     ·exact h4 op o0 (by omega) oc w' hw'
   ·have w0 := w2.1
    by_cases cb : out < 0 ∨ w < least
    ·rw [if_pos (by simp only [Bool.and_eq_true, Bool.or_eq_true, decide_eq_true_eq]; exact ⟨w0, cb⟩)]
     refine ⟨_, rfl, .inr ⟨⟨j0, by dsimp only; omega⟩, cc, w2, fun op o0 o1 oc w' hw' => ?_⟩⟩
     dsimp only at o1 ⊢
     by_cases e : op = j
     ·subst e; have := w2.unique hw'; omega
     ·rcases h with ⟨h1, h2⟩ | ⟨h1, h2, h3, h4⟩
      ·obtain ⟨y, hy, hyn⟩ := h2 op o0 (by omega) oc
       have := (hw'.2.1 y hy).1; omega
      ·have := h4 op o0 (by omega) oc w' hw'
       omega
    ·rw [if_neg (by simp only [Bool.and_eq_true, Bool.or_eq_true, decide_eq_true_eq]; exact fun h => cb h.2)]
     rcases h with ⟨h1, h2⟩ | ⟨h1, h2, h3, h4⟩
     ·omega
     ·refine ⟨_, rfl, .inr ⟨⟨h1.1, by dsimp only; omega⟩, h2, h3, fun op o0 o1 oc w' hw' => ?_⟩⟩
      dsimp only at o1 ⊢
      by_cases e : op = j
      ·subst e; have := w2.unique hw'; omega
      ·exact h4 op o0 (by omega) oc w' hw'
  ·rw [ifP cc]
   refine ⟨_, rfl, ?_⟩
   dsimp only
   rcases h with ⟨h1, h2⟩ | ⟨h1, h2, h3, h4⟩
   ·refine .inl ⟨h1, fun op o0 o1 oc => ?_⟩
    by_cases e : op = j
    ·subst e; exact absurd oc cc
    ·exact h2 op o0 (by omega) oc
   ·refine .inr ⟨⟨h1.1, by omega⟩, h2, h3, fun op o0 o1 oc w' hw' => ?_⟩
    by_cases e : op = j
    ·subst e; exact absurd oc cc
    ·exact h4 op o0 (by omega) oc w' hw')
 rw [e1]
 simp only [ob]
 dsimp only at e2
 refine ⟨out, rfl, ?_⟩
 rcases e2 with ⟨h1, h2⟩ | ⟨h1, h2, h3, h4⟩
 ·exact .inl ⟨h1, fun op ho hc => h2 op ho.1 ho.2 hc⟩
 ·exact .inr ⟨⟨h1, h2⟩, least, h3, fun op ho hc w' hw' => h4 op ho.1 ho.2 hc w' hw'⟩
/-! ### Ranks, layer by layer -/
def RankL (t : b9) (all : LL) (f : List Int → Int) (L : Nat) : Prop := ∀ s ∈ all, (f s = -1 ∧ ¬ DnA t L s) ∨ ∃ k : Nat, k ≤ L ∧ f s = k ∧ HtA t k s
theorem RankL.fresh {all : LL} (hc : ClO t all) {f : List Int → Int} {L : Nat} (h : RankL t all f L) {s : List Int} (hs : s ∈ all) :
  HtA t (L + 1) s ↔ f s < 0 ∧ ∃ op : Int, (0 ≤ op ∧ op < t.operators.length) ∧ oCan t s op ∧ ∀ y ∈ sc t s op, 0 ≤ f y := by
 constructor
 ·intro hh
  have hn : ¬ DnA t L s := hh.2 L (by omega)
  have hf : f s = -1 := by
   rcases h s hs with ⟨e, _⟩ | ⟨k, k1, _, k2⟩
   ·exact e
   ·exact absurd (k2.1.mono k1) hn
  refine ⟨by omega, ?_⟩
  rcases hh.1 with g | ⟨op, h1, h2, h3⟩
  ·exact absurd (DnA.goal g) hn
  ·refine ⟨op, h1, h2, fun y hy => ?_⟩
   rcases h y (hc.sc hs h1 h2 hy) with ⟨_, e⟩ | ⟨k, _, e, _⟩
   ·exact absurd (h3 y hy) e
   ·omega
 ·rintro ⟨hf, op, h1, h2, h3⟩
  have hn : ¬ DnA t L s := by
   rcases h s hs with ⟨_, e⟩ | ⟨k, _, e, _⟩
   ·exact e
   ·omega
  refine HtA.of_not (.inr ⟨op, h1, h2, fun y hy => ?_⟩) hn
  have := h3 y hy
  rcases h y (hc.sc hs h1 h2 hy) with ⟨e, _⟩ | ⟨k, k1, _, k2⟩
  ·omega
  ·exact k2.1.mono k1
structure RankA (t : b9) (all : LL) (f : List Int → Int) : Prop where
 val : ∀ s ∈ all, (f s = -1 ∧ ∀ k, ¬ DnA t k s) ∨ ∃ k : Nat, f s = k ∧ HtA t k s
 le : ∀ s ∈ all, f s ≤ all.length
theorem ranks_eq (ht : j6 t) {all : LL} (hc : ClO t all) : ∃ v f, H5 t all = some v ∧ Rep all v f ∧ RankA t all f := by
 have hlen := hc.len
 have hn := ht.n1
 unfold H5
 rw [repeat_eq (-1) (List.length_pos_of_mem hc.cl.init) (by omega)]
 simp only [ob]
 obtain ⟨v0, a1, f0, a2, a3⟩ := o9 (body := F8 t all) (n := (all.length : Int)) (s := List.replicate all.length (-1)) (fun j v => ∃ f, Rep all v f ∧ ∀ i s, ix all i = some s → (i < j → (j3 t s → f s = 0) ∧ (¬ j3 t s → f s = -1)) ∧ (j ≤ i → f s = -1)) (by omega) ⟨_, Rep.repl (-1), fun i s hi => ⟨fun h => by have := (j7 hi).1; omega, fun _ => rfl⟩⟩ (fun j v j0 j1 ⟨f, h1, h2⟩ => by
  obtain ⟨s, hs, _⟩ := i5 (l := all) j0 j1
  have hset := hc.set (i8 hs)
  have hsl := hset.len
  unfold F8
  rw [hs]
  simp only [ob, L3 hset.1 ht.goal.1 (show s.length ≤ 1000000 by omega), h1.get hs]
  by_cases hg : j3 t s
  ·rw [ifP (p := ∀ x ∈ t.goal, x ∈ s) hg]
   refine ⟨_, rfl, _, h1.set hc.ord hs 0, fun i z hz => ?_⟩
   by_cases e : i = j
   ·subst e
    rw [hs] at hz; cases hz
    rw [X5]
    exact ⟨fun _ => ⟨fun _ => rfl, fun h => absurd hg h⟩, fun h => by omega⟩
   ·rw [Y8 (fun hz' => e (hc.ord.inj hz (by rw [hz']; exact hs)))]
    exact ⟨fun h => (h2 i z hz).1 (by omega), fun h => (h2 i z hz).2 (by omega)⟩
  ·rw [ifN (p := ∀ x ∈ t.goal, x ∈ s) hg]
   refine ⟨_, rfl, _, h1, fun i z hz => ?_⟩
   by_cases e : i = j
   ·subst e
    rw [hs] at hz; cases hz
    exact ⟨fun _ => ⟨fun h => absurd h hg, fun _ => (h2 i s hs).2 (Int.le_refl _)⟩, fun h => by omega⟩
   ·exact ⟨fun h => (h2 i z hz).1 (by omega), fun h => (h2 i z hz).2 (by omega)⟩)
 rw [a1]
 simp only [ob]
 have r0 : RankL t all f0 0 := fun s hs => by
  obtain ⟨i, _, i1, hi⟩ := k9 hs
  have := (a3 i s hi).1 i1
  by_cases hg : j3 t s
  ·exact .inr ⟨0, Nat.le_refl _, this.1 hg, .zero hg⟩
  ·exact .inl ⟨this.2 hg, hg⟩
 obtain ⟨v, e1, f, e2, e3⟩ := C4 (body := y7 t all) (fun x => ∃ f L, Rep all x.1 f ∧ x.2 = ((L : Nat) : Int) + 1 ∧ RankL t all f L ∧ ∃ c : LL, c.Nodup ∧ c.length = L ∧ ∀ z ∈ c, z ∈ all ∧ ∃ j, j ≤ L ∧ HtA t j z) (fun v => ∃ f, Rep all v f ∧ RankA t all f) (fun x => (all.length + 2 - x.2).toNat) (s := (v0, 1)) ⟨f0, 0, a2, by simp, r0, [], by simp⟩ (fun ⟨v, layer⟩ ⟨f, L, h1, h2, h3, c, c1, c2, c3⟩ => by
  dsimp only at h1 h2 ⊢
  subst h2
  have hL : L ≤ all.length := by rw [← c2]; exact Q3 c1 fun z hz => (c3 z hz).1
  have hcond : ∀ s ∈ all, ∃ b, n9 t all v s = some b ∧ (f s < 0 → (0 ≤ b ↔ HtA t (L + 1) s)) := fun s hs => by
   obtain ⟨b, b1, b2⟩ := best_eq ht hc hs h1
   refine ⟨b, b1, fun hf => ?_⟩
   rw [h3.fresh hc hs]
   rcases b2 with ⟨rfl, b2⟩ | ⟨⟨b2, b3⟩, w, b4, _⟩
   ·refine ⟨fun h => by omega, fun ⟨_, op, h1, h2, h3⟩ => ?_⟩
    obtain ⟨y, hy, hyn⟩ := b2 op h1 h2
    have := h3 y hy; omega
   ·exact ⟨fun _ => ⟨hf, b, b2, b3, fun y hy => (b4.2.1 y hy).1⟩, fun _ => b2.1⟩
  unfold y7
  dsimp only
  obtain ⟨fr, g1, g2, g3⟩ := o9 (body := K4 t all v) (n := (all.length : Int)) (s := []) (fun j l => (l.length : Int) ≤ j ∧ ∀ i, i ∈ l ↔ 0 ≤ i ∧ i < j ∧ ∃ s, ix all i = some s ∧ HtA t (L + 1) s) (by omega) ⟨by simp, fun i => ⟨fun h => by (cases h), fun h => by omega⟩⟩ (fun j l j0 j1 ⟨l1, l2⟩ => by
   obtain ⟨s, hs, _⟩ := i5 (l := all) j0 j1
   obtain ⟨b, b1, b2⟩ := hcond s (i8 hs)
   unfold K4
   rw [hs]
   simp only [ob, h1.get hs]
   have key : (if f s < 0 then Option.bind (n9 t all v s) fun a52 => some (decide (0 ≤ a52)) else some false) = some (dec (HtA t (L + 1) s)) := by
    by_cases hf : f s < 0
    ·rw [if_pos hf, b1]
     simp only [ob, N1]
     rw [B2 (b2 hf)]
    ·rw [if_neg hf, w7]
     exact fun h => hf ((h3.fresh hc (i8 hs)).1 h).1
   rw [key]
   simp only [ob]
   by_cases hh : HtA t (L + 1) s
   ·rw [ifP hh, app, if_pos (by simp; omega)]
    refine ⟨_, rfl, by simp; omega, fun i => ?_⟩
    rw [List.mem_append, List.mem_singleton, l2]
    constructor
    ·rintro (⟨q0, q1, q2⟩ | rfl)
     ·exact ⟨q0, by omega, q2⟩
     ·exact ⟨j0, by omega, s, hs, hh⟩
    ·rintro ⟨q0, q1, q2⟩
     by_cases e : i = j
     ·exact .inr e
     ·exact .inl ⟨q0, by omega, q2⟩
   ·rw [ifN hh]
    refine ⟨_, rfl, by omega, fun i => ?_⟩
    rw [l2]
    constructor
    ·rintro ⟨q0, q1, q2⟩; exact ⟨q0, by omega, q2⟩
    ·rintro ⟨q0, q1, z, hz, hzh⟩
     by_cases e : i = j
     ·subst e; rw [hs] at hz; cases hz; exact absurd hzh hh
     ·exact ⟨q0, by omega, z, hz, hzh⟩)
  rw [g1]
  simp only [ob]
  have frm : ∀ i, i ∈ fr ↔ ∃ s, ix all i = some s ∧ HtA t (L + 1) s := fun i => by
   rw [g3]
   exact ⟨fun h => h.2.2, fun ⟨s, h1, h2⟩ => ⟨(j7 h1).1, (j7 h1).2.1, s, h1, h2⟩⟩
  by_cases cf : (fr.length : Int) = 0
  ·rw [if_pos cf]
   have none : ∀ s ∈ all, ¬ HtA t (L + 1) s := fun s hs hh => by
    obtain ⟨i, _, _, hi⟩ := k9 hs
    have := (frm i).2 ⟨s, hi, hh⟩
    have e0 : fr = [] := List.eq_nil_of_length_eq_zero (by omega)
    rw [e0] at this
    cases this
   have top : ∀ k, ∀ s ∈ all, DnA t k s → DnA t L s := fun k => by
    induction k with
    | zero => exact fun s _ h => DnA.mono h (Nat.zero_le _)
    | succ k ih =>
     intro s hs h
     rcases h with h | ⟨op, o1, o2, o3⟩
     ·exact .goal h
     ·by_cases hd : DnA t L s
      ·exact hd
      ·exact absurd (HtA.of_not (.inr ⟨op, o1, o2, fun y hy => ih y (hc.sc hs o1 o2 hy) (o3 y hy)⟩) hd) (none s hs)
   refine .inr ⟨v, rfl, f, h1, fun s hs => ?_, fun s hs => ?_⟩
   ·rcases h3 s hs with ⟨q1, q2⟩ | ⟨k, _, q1, q2⟩
    ·exact .inl ⟨q1, fun k hk => q2 (top k s hs hk)⟩
    ·exact .inr ⟨k, q1, q2⟩
   ·rcases h3 s hs with ⟨q1, q2⟩ | ⟨k, q0, q1, q2⟩ <;> omega
  ·rw [if_neg cf]
   obtain ⟨v', k1, k2, k3⟩ := o9 (body := P3 (((L : Nat) : Int) + 1) fr) (n := (fr.length : Int)) (s := v) (fun j x => x.length = all.length ∧ ∀ i s, ix all i = some s → ix x i = some (if dec (∃ k, k < j ∧ ix fr k = some i) = true then ((L : Nat) : Int) + 1 else f s)) (by omega) ⟨h1.len, fun i s hi => by
    rw [ifN (by rintro ⟨k, k1, k2⟩; have := (j7 k2).1; omega)]
    exact h1.get hi⟩ (fun j x j0 j1 ⟨x1, x2⟩ => by
    obtain ⟨i, hi, _⟩ := i5 (l := fr) j0 j1
    obtain ⟨s, hs, _⟩ := (frm i).1 (i8 hi)
    obtain ⟨i0, i1, _⟩ := j7 hs
    unfold P3
    rw [hi]
    simp only [ob, x2 i s hs]
    refine ⟨_, rfl, by rw [List.length_set]; exact x1, fun i' z hz => ?_⟩
    rw [ix_put i0 (by omega) (j7 hz).1]
    by_cases e : i' = i
    ·subst e
     rw [if_pos rfl, ifP ⟨j, by omega, hi⟩]
    ·rw [if_neg e, x2 i' z hz]
     congr 2
     have : (∃ k, k < j ∧ ix fr k = some i') ↔ ∃ k, k < j + 1 ∧ ix fr k = some i' := ⟨fun ⟨k, k1, k2⟩ => ⟨k, by omega, k2⟩, fun ⟨k, k1, k2⟩ => by
      by_cases ek : k = j
      ·subst ek; rw [hi] at k2; cases k2; exact absurd rfl e
      ·exact ⟨k, by omega, k2⟩⟩
     rw [B2 this])
   rw [k1]
   simp only [ob]
   rw [s7 (by omega) (by omega)]
   obtain ⟨i, hif⟩ : ∃ i, i ∈ fr := by
    cases fr with
    | nil => simp at cf
    | cons a l => exact ⟨a, by simp⟩
   obtain ⟨s, hs, hh⟩ := (frm i).1 hif
   have hrep : Rep all v' (fun s => if dec (HtA t (L + 1) s) = true then ((L : Nat) : Int) + 1 else f s) := ⟨k2, fun {i s} hi => by
    rw [k3 i s hi]
    have : (∃ k, k < (fr.length : Int) ∧ ix fr k = some i) ↔ HtA t (L + 1) s := ⟨fun ⟨k, _, hk⟩ => by
     obtain ⟨z, hz, hzh⟩ := (frm i).1 (i8 hk)
     rw [hi] at hz; cases hz; exact hzh, fun h => by
     obtain ⟨k, _, k1, hk⟩ := k9 ((frm i).2 ⟨s, hi, h⟩)
     exact ⟨k, k1, hk⟩⟩
    rw [B2 this]⟩
   refine .inl ⟨_, rfl, ⟨_, L + 1, hrep, by dsimp only; omega, fun z hz => ?_, s :: c, List.nodup_cons.2 ⟨fun hm => ?_, c1⟩, by simp [c2], fun z hz => ?_⟩, by dsimp only; omega⟩
   ·dsimp only
    by_cases hzh : HtA t (L + 1) z
    ·exact .inr ⟨L + 1, Nat.le_refl _, by rw [ifP hzh]; omega, hzh⟩
    ·rw [ifN hzh]
     rcases h3 z hz with ⟨q1, q2⟩ | ⟨k, q0, q1, q2⟩
     ·exact .inl ⟨q1, fun hd => hzh (.of_not hd q2)⟩
     ·exact .inr ⟨k, by omega, q1, q2⟩
   ·obtain ⟨_, j, j1, j2⟩ := c3 s hm
    have := j2.unique hh; omega
   ·rcases List.mem_cons.1 hz with rfl | hz
    ·exact ⟨i8 hs, L + 1, Nat.le_refl _, hh⟩
    ·obtain ⟨q0, j, q1, q2⟩ := c3 z hz
     exact ⟨q0, j, by omega, q2⟩)
 rw [e1]
 exact ⟨v, f, rfl, e2, e3⟩
theorem RankA.ht {all : LL} {f : List Int → Int} (h : RankA t all f) {s : List Int} (hs : s ∈ all) {k : Nat} (hk : HtA t k s) : f s = k := by
 rcases h.val s hs with ⟨_, e⟩ | ⟨m, e, hm⟩
 ·exact absurd hk.1 (e k)
 ·rw [e, hm.unique hk]
theorem RankA.nn {all : LL} {f : List Int → Int} (h : RankA t all f) {s : List Int} (hs : s ∈ all) (hf : 0 ≤ f s) : ∃ k : Nat, f s = k ∧ HtA t k s := by
 rcases h.val s hs with ⟨e, _⟩ | e
 ·omega
 ·exact e
theorem best_rank (ht : j6 t) {all : LL} (hc : ClO t all) {v : List Int} {f : List Int → Int} (hv : Rep all v f) (hr : RankA t all f) {s : List Int} (hs : s ∈ all) (hg : ¬ j3 t s) (hf : 0 ≤ f s) :
  ∃ b, n9 t all v s = some b ∧ BestV t f s b ∧ ∀ y ∈ sc t s b, y ∈ all ∧ 0 ≤ f y ∧ f y < f s := by
 obtain ⟨b, b1, b2⟩ := best_eq ht hc hs hv
 obtain ⟨k, k1, k2⟩ := hr.nn hs hf
 obtain ⟨m, rfl⟩ : ∃ m, k = m + 1 := by
  cases k with
  | zero => exact absurd k2.1 hg
  | succ m => exact ⟨m, rfl⟩
 rcases k2.1 with h | ⟨op, o1, o2, o3⟩
 ·exact absurd h hg
 have hy : ∀ y ∈ sc t s op, 0 ≤ f y ∧ f y ≤ m := fun y hy => by
  obtain ⟨j, j1, j2⟩ := HtA.of_dn (o3 y hy)
  rw [hr.ht (hc.sc hs o1 o2 hy) j2]; omega
 rcases b2 with ⟨_, b2⟩ | b2
 ·obtain ⟨y, hy1, hy2⟩ := b2 op o1 o2
  have := hy y hy1; omega
 ·refine ⟨b, b1, b2, fun y hyb => ?_⟩
  obtain ⟨⟨c1, c2⟩, w, c3, c4⟩ := b2
  have hya := hc.sc hs c1 c2 hyb
  have := c3.2.1 y hyb
  refine ⟨hya, this.1, ?_⟩
  -- the largest value after op
  obtain ⟨w', hw'⟩ : ∃ w', WW f (sc t s op) w' := by
   obtain ⟨w', q1, q2⟩ := worstG ht hc.ord (by have := hc.len; omega) (hc.set hs) o1 (fun y hy => hc.sc hs o1 o2 hy) hv
   rcases q2 with ⟨_, y, q3, q4⟩ | q2
   ·have := hy y q3; omega
   ·exact ⟨w', q2⟩
  obtain ⟨z, hz1, hz2⟩ := hw'.2.2
  have := hy z hz1
  have := c4 op o1 o2 w' hw'
  omega
end
section
variable {t : b9}
theorem policy_spec (ht : j6 t) : (A5 t = some ([], false) ∧ p7 t 2000 = some ([], false) ∧ o6 t = some ([], false, ⟨10, -7⟩)) ∨ ∃ all v f, A5 t = some (all, true) ∧ p7 t 2000 = some (all, true) ∧ ClO t all ∧ Rep all v f ∧ RankA t all f ∧
  ((f t.init = -1 ∧ o6 t = some ([], false, ⟨0, 0⟩)) ∨ ∃ ch, ChOk t ch ∧ (∀ s, RchC t ch s → s ∈ all ∧ 0 ≤ f s) ∧ (∀ s, RchC t ch s → ¬ j3 t s → BestV t f s (ch s) ∧ ∀ y ∈ nxC t ch s, f y < f s) ∧
   ((o6 t = some ([], false, ⟨10, -8⟩) ∧ ∃ l : LL, l.Nodup ∧ (∀ s ∈ l, RchC t ch s ∧ ¬ j3 t s) ∧ l.length = 201) ∨ ∃ p, o6 t = some (p, true, ⟨0, 0⟩) ∧ PolB t ch p ∧ p.length ≤ 200)) := by
 unfold o6
 rw [explore_ok ht]
 rcases reach_full ht with ⟨all, q1, q2, q3, q4, _⟩ | ⟨q1, q2⟩
 ·right
  have hc : ClO t all := ⟨q3, q4⟩
  have hlen := hc.len
  obtain ⟨v, f, r1, r2, r3⟩ := ranks_eq ht hc
  obtain ⟨i, hi, hvi⟩ := r2.of q3.init
  refine ⟨all, v, f, q1, q2, hc, r2, r3, ?_⟩
  rw [q1]
  simp only [ob, if_true]
  rw [if_neg (by simp), r1]
  simp only [ob, ab7 q4 (show all.length ≤ 500000 by omega) hi, hvi]
  by_cases cf : f t.init < 0
  ·rw [if_pos cf]
   refine .inl ⟨?_, rfl⟩
   rcases r3.val _ q3.init with ⟨e, _⟩ | ⟨k, e, _⟩ <;> omega
  ·rw [if_neg cf]
   right
   have inv : ∀ s, RchC t (fun s => (n9 t all v s).getD (-1)) s → s ∈ all ∧ 0 ≤ f s := fun s hs => by
    induction hs with
    | init => exact ⟨q3.init, by omega⟩
    | @step s y _ hg hy ih =>
     obtain ⟨b, b1, b2, b3⟩ := best_rank ht hc r2 r3 ih.1 hg ih.2
     have e : (n9 t all v s).getD (-1) = b := by rw [b1]; rfl
     unfold nxC at hy
     dsimp only at hy
     rw [e] at hy
     have := b3 y hy
     exact ⟨this.1, this.2.1⟩
   have step : ∀ s, RchC t (fun s => (n9 t all v s).getD (-1)) s → ¬ j3 t s → ∃ b, n9 t all v s = some b ∧ BestV t f s b ∧ ∀ y ∈ sc t s b, y ∈ all ∧ 0 ≤ f y ∧ f y < f s := fun s hs hg => best_rank ht hc r2 r3 (inv s hs).1 hg (inv s hs).2
   have hk : ChOk t (fun s => (n9 t all v s).getD (-1)) := fun s hs hg => by
    obtain ⟨b, b1, b2, b3⟩ := step s hs hg
    dsimp only
    rw [b1]; exact b2.1
   refine ⟨_, hk, inv, fun s hs hg => ?_, ?_⟩
   ·obtain ⟨b, b1, b2, b3⟩ := step s hs hg
    have e : (n9 t all v s).getD (-1) = b := by rw [b1]; rfl
    have e2 : (fun s => (n9 t all v s).getD (-1)) s = b := e
    refine ⟨by first | (rw [e2]; exact b2) | (rw [e]; exact b2), fun y hy => ?_⟩
    unfold nxC at hy
    rw [e2] at hy
    exact (b3 y hy).2.2
   ·obtain ⟨r, p1, p2⟩ := build_prog ht hk (choose := fun y1 => q7 y1 t all v) (fun s hs hg => by
     obtain ⟨b, b1, _⟩ := step s hs hg
     unfold q7
     rw [b1]; rfl)
    rw [p1]
    rcases p2 with ⟨rfl, p2⟩ | ⟨p, rfl, p2⟩
    ·exact .inl ⟨rfl, p2⟩
    ·exact .inr ⟨p, rfl, p2⟩
 ·left
  rw [q1]
  exact ⟨rfl, q2, rfl⟩
theorem policy_bad {f : k6} (hv : D2 t = some f) (hc : f.code ≠ 0) : o6 t = some ([], false, f) := by
 unfold o6
 rw [explore_bad hv hc]
 simp only [ob]
 rw [if_pos (fault_no hc)]
end
end Ab
end
section
namespace Ab
open Go
/-! ### Loops that do the same, till one of them gives up -/
theorem rngN_follow {S O : Type} {b1 b2 : Int → S → Option (S ⊕ O)} (F : O → Prop) : ∀ (k : Nat) (i : Int) (s : S) (r : S ⊕ O), rngN b1 k i s = some r →
  (∀ j s r, i ≤ j → j < i + k → b1 j s = some r → b2 j s = some r ∨ ∃ o, b2 j s = some (.inr o) ∧ F o) → rngN b2 k i s = some r ∨ ∃ o, rngN b2 k i s = some (.inr o) ∧ F o
 | 0, _, s, r, h, _ => .inl h
 | k + 1, i, s, r, h, hb => by
  simp only [rngN] at h ⊢
  cases h1 : b1 i s with
  | none => rw [h1] at h; cases h
  | some x =>
   rw [h1] at h
   rcases hb i s x (Int.le_refl _) (by omega) h1 with h2 | ⟨o, h2, h3⟩
   ·rw [h2]
    cases x with
    | inl s' => exact rngN_follow F k (i + 1) s' r h fun j s r g1 g2 => hb j s r (by omega) (by omega)
    | inr o => exact .inl h
   ·rw [h2]
    exact .inr ⟨o, rfl, h3⟩
theorem rngX_follow {S O : Type} {b1 b2 : Int → S → Option (S ⊕ O)} (F : O → Prop) {n : Int} {s : S} {r : S ⊕ O} (h : rngX 0 n b1 s = some r)
  (hb : ∀ j s r, 0 ≤ j → j < n → b1 j s = some r → b2 j s = some r ∨ ∃ o, b2 j s = some (.inr o) ∧ F o) : rngX 0 n b2 s = some r ∨ ∃ o, rngX 0 n b2 s = some (.inr o) ∧ F o :=
 rngN_follow F _ _ _ _ h fun j s r h1 h2 => hb j s r h1 (by omega)
theorem ai7 {S O : Type} {b1 b2 : S → Option (S ⊕ O)} (F : O → Prop) (hb : ∀ s r, b1 s = some r → b2 s = some r ∨ ∃ o, b2 s = some (.inr o) ∧ F o) : ∀ (k : Nat) (s : S) (r : O), C8 b1 k s = some r → C8 b2 k s = some r ∨ ∃ o, C8 b2 k s = some o ∧ F o
 | 0, _, _, h => by cases h
 | k + 1, s, r, h => by
  simp only [C8] at h ⊢
  cases h1 : b1 s with
  | none => rw [h1] at h; cases h
  | some x =>
   rw [h1] at h
   rcases hb s x h1 with h2 | ⟨o, h2, h3⟩
   ·rw [h2]
    cases x with
    | inl s' => exact ai7 F hb k s' r h
    | inr o => exact .inl h
   ·rw [h2]
    exact .inr ⟨o, rfl, h3⟩
theorem Loop_follow {S O : Type} {b1 b2 : S → Option (S ⊕ O)} (F : O → Prop) (hb : ∀ s r, b1 s = some r → b2 s = some r ∨ ∃ o, b2 s = some (.inr o) ∧ F o) {s : S} {r : O} (h : Loop b1 s = some r) : Loop b2 s = some r ∨ ∃ o, Loop b2 s = some o ∧ F o := by
 obtain ⟨k, hk⟩ := N3.1 h
 rcases ai7 F hb k s r hk with h | ⟨o, h1, h2⟩
 ·exact .inl (N3.2 ⟨k, h⟩)
 ·exact .inr ⟨o, N3.2 ⟨k, h1⟩, h2⟩
theorem rngN_post {S O : Type} {b : Int → S → Option (S ⊕ O)} (P : S → Prop) (Q : O → Prop) : ∀ (k : Nat) (i : Int) (s : S) (r : S ⊕ O), P s → rngN b k i s = some r →
  (∀ j s, P s → (∀ s', b j s = some (.inl s') → P s') ∧ ∀ o, b j s = some (.inr o) → Q o) → (∀ s', r = .inl s' → P s') ∧ ∀ o, r = .inr o → Q o
 | 0, _, s, r, hs, h, _ => by
  simp only [rngN, Option.some.injEq] at h
  subst h
  exact ⟨fun s' e => by cases e; exact hs, fun o e => by cases e⟩
 | k + 1, i, s, r, hs, h, hb => by
  simp only [rngN] at h
  cases h1 : b i s with
  | none => rw [h1] at h; cases h
  | some x =>
   rw [h1] at h
   cases x with
   | inl s' => exact rngN_post P Q k (i + 1) s' r ((hb i s hs).1 s' h1) h hb
   | inr o =>
    cases h
    exact ⟨fun s' e => (by cases e), fun o' e => by cases e; exact (hb i s hs).2 o h1⟩
theorem LoopN_post {S O : Type} {b : S → Option (S ⊕ O)} (P : S → Prop) (Q : O → Prop) (hb : ∀ s, P s → (∀ s', b s = some (.inl s') → P s') ∧ ∀ o, b s = some (.inr o) → Q o) : ∀ (k : Nat) (s : S) (o : O), P s → C8 b k s = some o → Q o
 | 0, _, _, _, h => by cases h
 | k + 1, s, o, hs, h => by
  simp only [C8] at h
  cases h1 : b s with
  | none => rw [h1] at h; cases h
  | some x =>
   rw [h1] at h
   cases x with
   | inl s' => exact LoopN_post P Q hb k s' o ((hb s hs).1 s' h1) h
   | inr o' => cases h; exact (hb s hs).2 o h1
section
variable {t : b9} {m : Int}
theorem low4 (hm : m ≤ 2000) (a36 : LL × (List Int)) (j : Int) (s : LL × (List Int)) (r : (LL × (List Int)) ⊕ (LL × Bool)) (h : l9 2000 a36 j s = some r) :
  l9 m a36 j s = some r ∨ ∃ o, l9 m a36 j s = some (.inr o) ∧ o = ([], false) := by
 obtain ⟨c1, c2⟩ := s
 unfold l9 at h ⊢
 dsimp only at h ⊢
 obtain ⟨x1, h1, h⟩ := b7 h
 rw [h1]
 simp only [ob]
 obtain ⟨x2, h2, h⟩ := b7 h
 rw [h2]
 simp only [ob]
 obtain ⟨x3, h3, h⟩ := b7 h
 rw [h3]
 simp only [ob]
 by_cases c : x3 = true
 ·rw [if_pos c] at h ⊢
  exact .inl h
 ·rw [if_neg c] at h ⊢
  by_cases c2 : m ≤ (c1.length : Int)
  ·rw [if_pos c2]
   exact .inr ⟨_, rfl, rfl⟩
  ·rw [if_neg (by omega)] at h
   rw [if_neg c2]
   left
   simp only [h1, ob, h2] at h ⊢
   exact h
theorem len4 (a36 : LL × (List Int)) (j : Int) (s : LL × (List Int)) (hs : (s.1.length : Int) ≤ m) : (∀ s', l9 m a36 j s = some (.inl s') → (s'.1.length : Int) ≤ m) ∧ ∀ o, l9 m a36 j s = some (.inr o) → o = ([], false) := by
 obtain ⟨c1, c2⟩ := s
 dsimp only at hs
 unfold l9
 dsimp only
 cases ix a36.1 j with
 | none => exact ⟨fun s' h => (by cases h), fun o h => by cases h⟩
 | some x1 =>
  simp only [ob]
  cases M4 x1 with
  | none => exact ⟨fun s' h => (by cases h), fun o h => by cases h⟩
  | some x2 =>
   simp only [ob]
   cases H9 c2 x2 with
   | none => exact ⟨fun s' h => (by cases h), fun o h => by cases h⟩
   | some x3 =>
    simp only [ob]
    unfold J5
    dsimp only
    by_cases c : x3 = true
    ·rw [if_pos c]
     exact ⟨fun s' h => by cases h; exact hs, fun o h => by cases h⟩
    ·rw [if_neg c]
     by_cases c2 : m ≤ (c1.length : Int)
     ·rw [if_pos c2]
      exact ⟨fun s' h => (by cases h), fun o h => by cases h; rfl⟩
     ·rw [if_neg c2]
      refine ⟨fun s' h => ?_, fun o h => ?_⟩
      ·obtain ⟨a, g1, h⟩ := b7 h
       obtain ⟨b, _, h⟩ := b7 h
       cases h
       rw [app] at g1
       split at g1
       ·cases g1; simp; omega
       ·cases g1
      ·obtain ⟨a, g1, h⟩ := b7 h
       obtain ⟨b, _, h⟩ := b7 h
       cases h
theorem low2 (hm : m ≤ 2000) (i j : Int) (s : LL × (List Int)) (r : (LL × (List Int)) ⊕ (LL × Bool)) (h : l5 t 2000 i j s = some r) :
  l5 t m i j s = some r ∨ ∃ o, l5 t m i j s = some (.inr o) ∧ o = ([], false) := by
 obtain ⟨c1, c2⟩ := s
 unfold l5 at h ⊢
 dsimp only at h ⊢
 obtain ⟨x1, h1, h⟩ := b7 h
 rw [h1]
 simp only [ob]
 obtain ⟨x2, h2, h⟩ := b7 h
 rw [h2]
 simp only [ob]
 by_cases c : (!x2) = true
 ·rw [if_pos c] at h ⊢
  exact .inl h
 ·rw [if_neg c, h1] at h
  rw [if_neg c]
  simp only [ob] at h
  obtain ⟨x3, h3, h⟩ := b7 h
  rw [h3]
  simp only [ob]
  obtain ⟨x4, h4, h⟩ := b7 h
  rcases rngX_follow (b2 := l9 m x3) (fun o => o = (([], false) : LL × Bool)) h4 (fun j s r _ _ hh => low4 hm x3 j s r hh) with h5 | ⟨o, h5, rfl⟩
  ·rw [h5]
   exact .inl h
  ·rw [h5]
   exact .inr ⟨_, rfl, rfl⟩
theorem len2 (i j : Int) (s : LL × (List Int)) (hs : (s.1.length : Int) ≤ m) : (∀ s', l5 t m i j s = some (.inl s') → (s'.1.length : Int) ≤ m) ∧ ∀ o, l5 t m i j s = some (.inr o) → o = ([], false) := by
 obtain ⟨c1, c2⟩ := s
 dsimp only at hs
 have key : ∀ r, l5 t m i j (c1, c2) = some r → (∀ s', r = .inl s' → (s'.1.length : Int) ≤ m) ∧ ∀ o, r = .inr o → o = ([], false) := fun r h => by
  unfold l5 at h
  dsimp only at h
  obtain ⟨x1, h1, h⟩ := b7 h
  obtain ⟨x2, h2, h⟩ := b7 h
  unfold J4 at h
  by_cases c : (!x2) = true
  ·rw [if_pos c] at h
   cases h
   exact ⟨fun s' e => by cases e; exact hs, fun o e => by cases e⟩
  ·rw [if_neg c] at h
   obtain ⟨x0, _, h⟩ := b7 h
   obtain ⟨x3, h3, h⟩ := b7 h
   obtain ⟨x4, h4, h⟩ := b7 h
   have p := rngN_post (b := l9 m x3) (fun s => (s.1.length : Int) ≤ m) (fun o => o = ([], false)) _ _ _ x4 hs h4 (fun j s hs => len4 x3 j s hs)
   cases x4 with
   | inl s' =>
    obtain ⟨d1, d2⟩ := s'
    cases h
    exact ⟨fun s' e => by cases e; exact p.1 _ rfl, fun o e => by cases e⟩
   | inr o =>
    cases h
    exact ⟨fun s' e => (by cases e), fun o' e => by cases e; exact p.2 _ rfl⟩
 exact ⟨fun s' h => (key _ h).1 s' rfl, fun o h => (key _ h).2 o rfl⟩
theorem reached_low (ht : j6 t) (h1 : 1 ≤ m) (hm : m ≤ 2000) : p7 t m = some ([], false) ∨ ∃ out, A5 t = some (out, true) ∧ p7 t 2000 = some (out, true) ∧ ClO t out ∧ p7 t m = some (out, true) ∧ (out.length : Int) ≤ m := by
 have hi := ht.init
 have low : ∀ s r, l8 t 2000 s = some r → l8 t m s = some r ∨ ∃ o, l8 t m s = some (.inr o) ∧ o = .inr ([], false) := fun ⟨c1, c2, i⟩ r h => by
  unfold l8 at h ⊢
  dsimp only at h ⊢
  by_cases c : i < (c1.length : Int)
  ·rw [if_pos c] at h ⊢
   obtain ⟨x4, h4, h⟩ := b7 h
   rcases rngX_follow (b2 := l5 t m i) (fun o => o = (([], false) : LL × Bool)) h4 (fun j s r _ _ hh => low2 hm i j s r hh) with h5 | ⟨o, h5, rfl⟩
   ·rw [h5]
    exact .inl h
   ·rw [h5]
    exact .inr ⟨_, rfl, rfl⟩
  ·rw [if_neg c] at h ⊢
   exact .inl h
 have len : ∀ s : LL × (List Int) × Int, (s.1.length : Int) ≤ m → (∀ s', l8 t m s = some (.inl s') → (s'.1.length : Int) ≤ m) ∧ ∀ o, l8 t m s = some (.inr o) → ∀ l, o = .inl l → (l.length : Int) ≤ m := fun ⟨c1, c2, i⟩ hs => by
  dsimp only at hs
  have key : ∀ r, l8 t m (c1, c2, i) = some r → (∀ s', r = .inl s' → (s'.1.length : Int) ≤ m) ∧ ∀ o, r = .inr o → ∀ l, o = .inl l → (l.length : Int) ≤ m := fun r h => by
   unfold l8 at h
   dsimp only at h
   by_cases c : i < (c1.length : Int)
   ·rw [if_pos c] at h
    obtain ⟨x4, h4, h⟩ := b7 h
    have p := rngN_post (b := l5 t m i) (fun s => (s.1.length : Int) ≤ m) (fun o => o = ([], false)) _ _ _ x4 hs h4 (fun j s hs => len2 i j s hs)
    cases x4 with
    | inl s' =>
     obtain ⟨d1, d2⟩ := s'
     cases h
     exact ⟨fun s' e => by cases e; exact p.1 _ rfl, fun o e => by cases e⟩
    | inr o =>
     cases h
     exact ⟨fun s' e => (by cases e), fun o' e l e2 => by cases e; cases e2⟩
   ·rw [if_neg c] at h
    cases h
    exact ⟨fun s' e => (by cases e), fun o e l e2 => by cases e; cases e2; exact hs⟩
  exact ⟨fun s' h => (key _ h).1 s' rfl, fun o h => (key _ h).2 o rfl⟩
 have start : ∀ m', p7 t m' = Option.bind (Loop (l8 t m') ([t.init], [(wsN t.init : Int)], 0)) fun | .inl c6 => (Option.bind (forR 0 (c6.length : Int) (J2 c6) []) fun out21 => some (out21, true)) | .inr x => some x := fun m' => by
  unfold p7
  rw [word_eq hi ht.n1]
  simp only [ob]
  rw [app, if_pos (by simp)]
  rfl
 rcases reach_full ht with ⟨out, q1, q2, q3, q4, l, q5, q6⟩ | ⟨q1, q2⟩
 ·rcases Loop_follow _ low q5 with h | ⟨o, h, rfl⟩
  ·right
   have hl : (l.length : Int) ≤ m := by
    obtain ⟨k, hk⟩ := N3.1 h
    exact LoopN_post (b := l8 t m) (fun s => (s.1.length : Int) ≤ m) (fun o => ∀ l, o = .inl l → (l.length : Int) ≤ m) len k _ _ (by simpa using h1) hk l rfl
   refine ⟨out, q1, q2, ⟨q3, q4⟩, ?_, by omega⟩
   rw [start, h]
   have e := q2
   rw [start, q5] at e
   exact e
  ·left
   rw [start, h]; rfl
 ·left
  have e := q2
  rw [start] at e
  obtain ⟨o, e1, e2⟩ := b7 e
  rcases Loop_follow _ low e1 with h | ⟨o, h, rfl⟩
  ·rw [start, h]; exact e2
  ·rw [start, h]; rfl
end
end Ab
end
section
namespace Ab
open Go
theorem rngX_hit {O : Type} {body : Int → Unit → Option (Unit ⊕ O)} {n w : Int} {b : O} (h0 : 0 ≤ w) (h1 : w < n) (hb : ∀ j, 0 ≤ j → j < w → body j () = some (.inl ())) (hw : body w () = some (.inr b)) : rngX 0 n body () = some (.inr b) := by
 rcases y8 (body := body) (n := n) (fun j => if j = w then some b else none) (by omega) (fun j j0 j1 hp => by
  have hj : j ≤ w := by
   rcases Int.lt_or_le w j with c | c
   ·have := hp w h0 c
    rw [if_pos rfl] at this; cases this
   ·exact c
  by_cases e : j = w
  ·subst e; rw [if_pos rfl]; exact hw
  ·rw [if_neg e]; exact hb j j0 (by omega)) with ⟨_, h⟩ | ⟨j, o, _, _, h, _, g⟩
 ·have := h w h0 h1
  rw [if_pos rfl] at this; cases this
 ·rw [g]
  split at h
  ·cases h; rfl
  ·cases h
def sumN (l : List Int) : Nat := (l.map Int.toNat).sum
theorem sumN_set : ∀ {l : List Int} {i : Nat} {x y : Int}, l[i]? = some y → 0 ≤ x → x < y → sumN (l.set i x) < sumN l
 | [], _, _, _, h, _, _ => by simp at h
 | a :: l, 0, x, y, h, h0, h1 => by
  simp only [List.getElem?_cons_zero, Option.some.injEq] at h
  subst h
  simp only [sumN, List.set_cons_zero, List.map_cons, List.sum_cons]
  omega
 | a :: l, i + 1, x, y, h, h0, h1 => by
  have := sumN_set (l := l) (i := i) (by simpa using h) h0 h1
  simp only [sumN, List.set_cons_succ, List.map_cons, List.sum_cons] at this ⊢
  omega
section
variable {t : b9}
def MX (g : List Int → Int) (l : LL) (m : Int) : Prop := (∀ y ∈ l, g y ≤ m) ∧ ∃ y ∈ l, g y = m
theorem MX.unique {g : List Int → Int} {l : LL} {m m' : Int} (h : MX g l m) (h' : MX g l m') : m = m' := by
 obtain ⟨a, y, hy, rfl⟩ := h
 obtain ⟨b, z, hz, rfl⟩ := h'
 have := a z hz; have := b y hy
 omega
theorem most_g (ht : j6 t) {all : LL} (hc : ClO t all) {s : List Int} (hs : s ∈ all) {op : Int} (h0 : 0 ≤ op ∧ op < t.operators.length) (hcan : oCan t s op) {v : List Int} {g : List Int → Int} (hv : Rep all v g) (hg : ∀ y ∈ all, 0 ≤ g y) :
  ∃ m, V5 t all v s op = some m ∧ MX g (sc t s op) m := by
 have hset := hc.set hs
 obtain ⟨st, ws, r1, _, r3, _⟩ := E5 ht h0.1 h0.2 hset
 have hst : ∀ y, y ∈ st ↔ y ∈ sc t s op := fun y => by rw [r3, sc, List.mem_map]
 unfold V5
 rw [oAfter_eq ht h0.1 h0.2 hset, r1]
 simp only [ob]
 obtain ⟨m, e1, e2, e3, e4⟩ := o9 (body := W3 all v (st, ws)) (n := (st.length : Int)) (s := 0) (fun j n => 0 ≤ n ∧ (∀ k y, k < j → ix st k = some y → g y ≤ n) ∧ (n = 0 ∨ ∃ y ∈ sc t s op, g y = n)) (by omega) ⟨Int.le_refl _, fun k y hk h => by have := (j7 h).1; omega, .inl rfl⟩ (fun j n j0 j1 ⟨a1, a2, a3⟩ => by
  obtain ⟨y, hy, _⟩ := i5 (l := st) j0 j1
  have hyn := (hst y).1 (i8 hy)
  have hya := hc.sc hs h0 hcan hyn
  obtain ⟨i, hi, hvi⟩ := hv.of hya
  unfold W3
  dsimp only
  rw [hy]
  simp only [ob, place_ord hc.ord hi, hvi]
  by_cases c : n < g y
  ·rw [if_pos c]
   refine ⟨_, rfl, hg y hya, fun k z hk hz => ?_, .inr ⟨y, hyn, rfl⟩⟩
   by_cases ek : k = j
   ·subst ek; rw [hy] at hz; cases hz; exact Int.le_refl _
   ·have := a2 k z (by omega) hz; omega
  ·rw [if_neg c]
   refine ⟨_, rfl, a1, fun k z hk hz => ?_, a3⟩
   by_cases ek : k = j
   ·subst ek; rw [hy] at hz; cases hz; omega
   ·exact a2 k z (by omega) hz)
 rw [e1]
 have a : ∀ y ∈ sc t s op, g y ≤ m := fun y hy => by
  obtain ⟨k, _, k1, hk⟩ := k9 ((hst y).2 hy)
  exact e3 k y k1 hk
 refine ⟨m, rfl, a, ?_⟩
 rcases e4 with rfl | h
 ·obtain ⟨y, hy⟩ := sc_ne (s := s) ht h0
  have := a y hy
  have := hg y (hc.sc hs h0 hcan hy)
  exact ⟨y, hy, by omega⟩
 ·exact h
end
section
variable {t : b9}
structure LowA (t : b9) (all : LL) (g : List Int → Int) : Prop where
 b : ∀ s ∈ all, 0 ≤ g s ∧ g s ≤ 1000000000
 dn : ∀ s ∈ all, g s < 1000000000 → DnA t (g s).toNat s
 goal : ∀ s ∈ all, j3 t s → g s = 0
def FixS (t : b9) (g : List Int → Int) (s : List Int) (n : Int) : Prop := ∀ op : Int, 0 ≤ op → op < n → oCan t s op → ∀ m, MX g (sc t s op) m → g s ≤ m + 1
theorem rank4 (ht : j6 t) {all : LL} (hc : ClO t all) {i : Int} {s : List Int} (hs : ix all i = some s) {v : List Int} {g : List Int → Int} (hv : Rep all v g) (hl : LowA t all g) (b : Bool) :
  ∃ v' g' b', forR 0 (t.operators.length : Int) (N6 t all i) (v, b) = some (v', b') ∧ Rep all v' g' ∧ LowA t all g' ∧ ((b' = b ∧ v' = v ∧ FixS t g s t.operators.length) ∨ (b' = true ∧ sumN v' < sumN v)) := by
 have hsm := i8 hs
 obtain ⟨⟨v', b'⟩, h1, g', h2, h3, h4⟩ := o9 (body := N6 t all i) (n := (t.operators.length : Int)) (s := (v, b)) (fun j x => ∃ g', Rep all x.1 g' ∧ LowA t all g' ∧ ((x.2 = b ∧ x.1 = v ∧ FixS t g s j) ∨ (x.2 = true ∧ sumN x.1 < sumN v))) (by omega) ⟨g, hv, hl, .inl ⟨rfl, rfl, fun op h0 h1 => by omega⟩⟩ (fun j ⟨x, bx⟩ j0 j1 ⟨g', h1, h2, h3⟩ => by
  dsimp only at h1 h3 ⊢
  unfold N6
  dsimp only
  rw [hs]
  simp only [ob, Y7 j0 j1, u3]
  by_cases cc : oCan t s j
  ·rw [ifNN cc]
   obtain ⟨m, m1, m2⟩ := most_g ht hc hsm ⟨j0, j1⟩ cc h1 (fun y hy => (h2.b y hy).1)
   rw [m1]
   simp only [ob, h1.get hs]
   have hm : 0 ≤ m ∧ m ≤ 1000000000 := by
    obtain ⟨y, hy, rfl⟩ := m2.2
    exact h2.b y (hc.sc hsm ⟨j0, j1⟩ cc hy)
   have hgs := h2.b s hsm
   rw [s7 (by omega) (by omega)]
   by_cases cm : m + 1 < g' s
   ·rw [if_pos cm]
    refine ⟨_, rfl, upd g' s (m + 1), h1.set hc.ord hs _, ⟨fun z hz => ?_, fun z hz => ?_, fun z hz hgz => ?_⟩, .inr ⟨rfl, ?_⟩⟩
    ·by_cases e : z = s
     ·subst e; rw [X5]; omega
     ·rw [Y8 e]; exact h2.b z hz
    ·by_cases e : z = s
     ·subst e; rw [X5]
      intro _
      rw [show (m + 1).toNat = m.toNat + 1 by omega]
      refine .inr ⟨j, ⟨j0, j1⟩, cc, fun y hy => ?_⟩
      have := m2.1 y hy
      exact (h2.dn y (hc.sc hsm ⟨j0, j1⟩ cc hy) (by omega)).mono (by omega)
     ·rw [Y8 e]; exact h2.dn z hz
    ·by_cases e : z = s
     ·subst e; have := h2.goal z hz hgz; omega
     ·rw [Y8 e]; exact h2.goal z hz hgz
    ·have := sumN_set (l := x) (i := i.toNat) (x := m + 1) (y := g' s) (j7 (h1.get hs)).2.2 (by omega) cm
     rcases h3 with ⟨_, e, _⟩ | ⟨_, e⟩
     ·rw [← e]; exact this
     ·exact Nat.lt_trans this e
   ·rw [if_neg cm]
    refine ⟨_, rfl, g', h1, h2, ?_⟩
    rcases h3 with ⟨e1, e2, e3⟩ | h3
    ·refine .inl ⟨e1, e2, fun op o0 o1 oc w hw => ?_⟩
     by_cases e : op = j
     ·subst e
      subst e2
      have hgg : ∀ z ∈ all, g z = g' z := fun z hz => by
       obtain ⟨iz, hiz, hgz⟩ := hv.of hz
       rw [h1.get hiz] at hgz
       exact (Option.some.inj hgz).symm
      have : MX g' (sc t s op) w := ⟨fun y hy => by rw [← hgg y (hc.sc hsm ⟨j0, j1⟩ cc hy)]; exact hw.1 y hy, by
       obtain ⟨y, hy, e⟩ := hw.2
       exact ⟨y, hy, by rw [← hgg y (hc.sc hsm ⟨j0, j1⟩ cc hy)]; exact e⟩⟩
      rw [hgg s hsm, this.unique m2]
      omega
     ·exact e3 op o0 (by omega) oc w hw
    ·exact .inr h3
  ·rw [ifP cc]
   refine ⟨_, rfl, g', h1, h2, ?_⟩
   rcases h3 with ⟨e1, e2, e3⟩ | h3
   ·refine .inl ⟨e1, e2, fun op o0 o1 oc w hw => ?_⟩
    by_cases e : op = j
    ·subst e; exact absurd oc cc
    ·exact e3 op o0 (by omega) oc w hw
   ·exact .inr h3)
 exact ⟨v', g', b', h1, h2, h3, h4⟩
noncomputable def gOf (f : List Int → Int) (s : List Int) : Int := if f s < 0 then 1000000000 else f s
theorem rRanks_eq (ht : j6 t) {all : LL} (hc : ClO t all) {f : List Int → Int} (hf : RankA t all f) : ∃ v, X3 t all = some v ∧ Rep all v (gOf f) := by
 have hlen := hc.len
 unfold X3
 rw [show mkL 8 (all.length : Int) (0 : Int) = some (List.replicate all.length 0) by rw [mkL, if_pos (by omega)]; simp]
 simp only [ob]
 obtain ⟨v0, a1, g0, a2, a3⟩ := o9 (body := T6 t all) (n := (all.length : Int)) (s := List.replicate all.length 0) (fun j v => ∃ g, Rep all v g ∧ ∀ i s, ix all i = some s → i < j → (j3 t s → g s = 0) ∧ (¬ j3 t s → g s = 1000000000)) (by omega) ⟨_, Rep.repl 0, fun i s hi h => by have := (j7 hi).1; omega⟩ (fun j v j0 j1 ⟨g, h1, h2⟩ => by
  obtain ⟨s, hs, _⟩ := i5 (l := all) j0 j1
  unfold T6
  rw [h1.get hs]
  simp only [ob, hs, goal_dec]
  have hu := h1.set hc.ord hs 1000000000
  by_cases hg : j3 t s
  ·rw [ifP hg]
   simp only [hu.get hs, ob]
   refine ⟨_, rfl, _, hu.set hc.ord hs 0, fun i z hz hi => ?_⟩
   by_cases e : i = j
   ·subst e
    rw [hs] at hz; cases hz
    rw [X5]
    exact ⟨fun _ => rfl, fun h => absurd hg h⟩
   ·have hne : z ≠ s := fun hz' => e (hc.ord.inj hz (by rw [hz']; exact hs))
    rw [Y8 hne, Y8 hne]
    exact h2 i z hz (by omega)
  ·rw [ifN hg]
   refine ⟨_, rfl, _, hu, fun i z hz hi => ?_⟩
   by_cases e : i = j
   ·subst e
    rw [hs] at hz; cases hz
    rw [X5]
    exact ⟨fun h => absurd h hg, fun _ => rfl⟩
   ·rw [Y8 (fun hz' => e (hc.ord.inj hz (by rw [hz']; exact hs)))]
    exact h2 i z hz (by omega))
 rw [a1]
 simp only [ob]
 have low0 : LowA t all g0 := by
  have key : ∀ s ∈ all, (j3 t s → g0 s = 0) ∧ (¬ j3 t s → g0 s = 1000000000) := fun s hs => by
   obtain ⟨i, _, i1, hi⟩ := k9 hs
   exact a3 i s hi i1
  refine ⟨fun s hs => ?_, fun s hs h => ?_, fun s hs hg => (key s hs).1 hg⟩
  ·by_cases hg : j3 t s
   ·rw [(key s hs).1 hg]; omega
   ·rw [(key s hs).2 hg]; omega
  ·by_cases hg : j3 t s
   ·exact .goal hg
   ·rw [(key s hs).2 hg] at h; omega
 obtain ⟨v, e1, g, e2, e3, e4⟩ := C4 (body := U2 t all) (fun x => ∃ g, Rep all x.1 g ∧ LowA t all g ∧ (x.2 = false → ∀ s ∈ all, FixS t g s t.operators.length)) (fun v => ∃ g, Rep all v g ∧ LowA t all g ∧ ∀ s ∈ all, FixS t g s t.operators.length) (fun x => 2 * sumN x.1 + (if x.2 = true then 1 else 0)) (s := (v0, true)) ⟨g0, a2, low0, fun h => by cases h⟩ (fun ⟨v, b⟩ ⟨g, h1, h2, h3⟩ => by
  dsimp only at h1 h3 ⊢
  unfold U2
  dsimp only
  cases b with
  | false =>
   rw [if_neg (by simp)]
   exact .inr ⟨v, rfl, g, h1, h2, h3 rfl⟩
  | true =>
   rw [if_pos rfl]
   obtain ⟨⟨v', b'⟩, k1, g', k2, k3, k4⟩ := o9 (body := T1 t all) (n := (all.length : Int)) (s := (v, false)) (fun j x => ∃ g', Rep all x.1 g' ∧ LowA t all g' ∧ ((x.2 = false ∧ x.1 = v ∧ ∀ i s, i < j → ix all i = some s → FixS t g s t.operators.length) ∨ (x.2 = true ∧ sumN x.1 < sumN v))) (by omega) ⟨g, h1, h2, .inl ⟨rfl, rfl, fun i s hi hs => by have := (j7 hs).1; omega⟩⟩ (fun j ⟨x, bx⟩ j0 j1 ⟨g', q1, q2, q3⟩ => by
    dsimp only at q1 q3 ⊢
    obtain ⟨s, hs, _⟩ := i5 (l := all) j0 j1
    obtain ⟨x', g'', b'', w1, w2, w3, w4⟩ := rank4 ht hc hs q1 q2 bx
    unfold T1
    dsimp only
    rw [w1]
    refine ⟨_, rfl, g'', w2, w3, ?_⟩
    dsimp only
    rcases w4 with ⟨rfl, rfl, w4⟩ | ⟨rfl, w4⟩
    ·rcases q3 with ⟨p1, rfl, p3⟩ | q3
     ·refine .inl ⟨p1, rfl, fun i z hi hz => ?_⟩
      by_cases e : i = j
      ·subst e
       rw [hs] at hz; cases hz
       -- the same values
       have hgg : ∀ z ∈ all, g z = g' z := fun z hz => by
        obtain ⟨iz, hiz, hgz⟩ := h1.of hz
        rw [q1.get hiz] at hgz
        exact (Option.some.inj hgz).symm
       intro op o0 o1 oc m hm
       have : MX g' (sc t s op) m := ⟨fun y hy => by rw [← hgg y (hc.sc (i8 hs) ⟨o0, o1⟩ oc hy)]; exact hm.1 y hy, by
        obtain ⟨y, hy, e⟩ := hm.2
        exact ⟨y, hy, by rw [← hgg y (hc.sc (i8 hs) ⟨o0, o1⟩ oc hy)]; exact e⟩⟩
       rw [hgg s (i8 hs)]
       exact w4 op o0 o1 oc m this
      ·exact p3 i z (by omega) hz
     ·exact .inr q3
    ·right
     refine ⟨rfl, ?_⟩
     rcases q3 with ⟨_, rfl, _⟩ | ⟨_, q3⟩ <;> omega)
   rw [k1]
   simp only [ob]
   dsimp only at k2 k4
   refine .inl ⟨_, rfl, ?_, ?_⟩
   ·rcases k4 with ⟨rfl, rfl, k4⟩ | ⟨rfl, k4⟩
    ·exact ⟨g, h1, h2, fun _ s hs => by
      obtain ⟨i, _, i1, hi⟩ := k9 hs
      exact k4 i s i1 hi⟩
    ·exact ⟨g', k2, k3, fun h => by cases h⟩
   ·dsimp only
    rcases k4 with ⟨rfl, rfl, k4⟩ | ⟨rfl, k4⟩
    ·simp
    ·simp; omega)
 rw [e1]
 refine ⟨v, rfl, e2.congr fun s hs => ?_⟩
 have le : ∀ k : Nat, ∀ s ∈ all, DnA t k s → g s ≤ k := fun k => by
  induction k with
  | zero => exact fun s hs h => by rw [e3.goal s hs h]; omega
  | succ k ih =>
   intro s hs h
   rcases h with h | ⟨op, o1, o2, o3⟩
   ·rw [e3.goal s hs h]; omega
   ·obtain ⟨m, _, m2⟩ := most_g ht hc hs o1 o2 e2 (fun y hy => (e3.b y hy).1)
    have := e4 s hs op o1.1 o1.2 o2 m m2
    obtain ⟨y, hy, rfl⟩ := m2.2
    have := ih y (hc.sc hs o1 o2 hy) (o3 y hy)
    omega
 have hb := e3.b s hs
 have hfl := hf.le s hs
 unfold gOf
 rcases hf.val s hs with ⟨q1, q2⟩ | ⟨k, q1, q2⟩
 ·rw [if_pos (by omega)]
  by_cases c : g s < 1000000000
  ·exact absurd (e3.dn s hs c) (q2 _)
  ·omega
 ·rw [if_neg (by omega)]
  have h1 := le k s hs q2.1
  have h2 := e3.dn s hs (by omega)
  rcases Nat.lt_or_ge (g s).toNat k with c | c
  ·exact absurd h2 (q2.2 _ c)
  ·omega
theorem gOf_nn {all : LL} {f : List Int → Int} : ∀ y ∈ all, 0 ≤ gOf f y := fun y _ => by unfold gOf; split <;> omega
theorem mx_ww {f : List Int → Int} {l : LL} {m : Int} (h : MX (gOf f) l m) (hm : m < 1000000000) : WW f l m := by
 have key : ∀ y ∈ l, 0 ≤ f y ∧ gOf f y = f y := fun y hy => by
  have := h.1 y hy
  unfold gOf at this ⊢
  split at this
  ·omega
  ·rename_i c; exact ⟨by omega, if_neg c⟩
 obtain ⟨a, y, hy, e⟩ := h
 refine ⟨by have := key y hy; omega, fun z hz => ?_, y, hy, by have := key y hy; omega⟩
 have := key z hz; have := a z hz
 omega
theorem ww_mx {f : List Int → Int} {l : LL} {w : Int} (h : WW f l w) : MX (gOf f) l w := by
 have key : ∀ y ∈ l, gOf f y = f y := fun y hy => by
  have := (h.2.1 y hy).1
  unfold gOf; rw [if_neg (by omega)]
 refine ⟨fun y hy => by rw [key y hy]; exact (h.2.1 y hy).2, ?_⟩
 obtain ⟨y, hy, e⟩ := h.2.2
 exact ⟨y, hy, by rw [key y hy]; exact e⟩
theorem sChoice_eq (ht : j6 t) {all : LL} (hc : ClO t all) {f : List Int → Int} (hf : RankA t all f) {v : List Int} (hv : Rep all v (gOf f)) {s : List Int} (hs : s ∈ all) {b : Int} (hb : BestV t f s b) : D1 t all v s = some b := by
 have hlen := hc.len
 obtain ⟨⟨b1, b2⟩, w, b3, b4⟩ := hb
 have hw : w ≤ 2000 := by
  obtain ⟨y, hy, rfl⟩ := b3.2.2
  have := hf.le y (hc.sc hs b1 b2 hy); omega
 have one : ∀ n : Int, 0 ≤ n → n ≤ w → ∀ op : Int, 0 ≤ op → op < t.operators.length → ∃ r, G6 t all v s n op () = some r ∧ ((r = .inr op ∧ oCan t s op ∧ WW f (sc t s op) n) ∨ (r = .inl () ∧ ¬ (oCan t s op ∧ WW f (sc t s op) n))) := fun n n0 n1 op o0 o1 => by
  unfold G6
  rw [Y7 o0 o1]
  simp only [ob]
  by_cases cc : oCan t s op
  ·rw [ifP cc]
   obtain ⟨m, m1, m2⟩ := most_g ht hc hs ⟨o0, o1⟩ cc hv gOf_nn
   rw [m1]
   simp only [ob]
   by_cases e : m = n
   ·rw [if_pos (decide_eq_true e)]
    subst e
    exact ⟨_, rfl, .inl ⟨rfl, cc, mx_ww m2 (by omega)⟩⟩
   ·rw [if_neg (by simpa using e)]
    refine ⟨_, rfl, .inr ⟨rfl, fun h => e (m2.unique (ww_mx h.2))⟩⟩
  ·rw [ifN cc]
   simp only [ob, Bool.false_eq_true, if_false]
   exact ⟨_, rfl, .inr ⟨rfl, fun h => cc h.1⟩⟩
 unfold D1
 rw [rngX_hit (w := w) (b := b) b3.1 (by omega) (fun n n0 n1 => by
  unfold G7
  rw [rngX_all (by omega) fun op o0 o1 => by
   obtain ⟨r, r1, r2⟩ := one n n0 (by omega) op o0 o1
   rw [r1]
   rcases r2 with ⟨_, r2, r3⟩ | ⟨rfl, _⟩
   ·have := b4 op ⟨o0, o1⟩ r2 n r3; omega
   ·rfl]
  rfl) (by
  unfold G7
  rw [rngX_hit (w := b) (b := b) b1.1 b1.2 (fun op o0 o1 => by
   obtain ⟨r, r1, r2⟩ := one w b3.1 (Int.le_refl _) op o0 (by omega)
   rw [r1]
   rcases r2 with ⟨_, r2, r3⟩ | ⟨rfl, _⟩
   ·have := (b4 op ⟨o0, by omega⟩ r2 w r3).2 o1; omega
   ·rfl) (by
   obtain ⟨r, r1, r2⟩ := one w b3.1 (Int.le_refl _) b b1.1 b1.2
   rw [r1]
   rcases r2 with ⟨rfl, _⟩ | ⟨_, h⟩
   ·rfl
   ·exact absurd ⟨b2, b3⟩ h)]
  rfl)]
 rfl
end
section
variable {t : b9}
theorem af2 (t : b9) : E8 t = some true := by
 unfold E8
 obtain ⟨e, e1, e2, e3⟩ := ac8 t
 rcases e3 with ⟨rfl, ht⟩ | ⟨hc, _⟩
 ·rw [e2]
  have hP := policy_spec ht
  obtain ⟨P, hPe⟩ : ∃ P, o6 t = some P := by
   rcases hP with ⟨_, _, h⟩ | ⟨all, v, f, _, _, _, _, _, ⟨_, h⟩ | ⟨ch, hk, h1, h2, ⟨h, _⟩ | ⟨q, h, hq, hl⟩⟩⟩
   ·exact ⟨_, h⟩
   ·exact ⟨_, h⟩
   ·exact ⟨_, h⟩
   ·exact ⟨_, h⟩
  have skip : ∀ {X : Option Bool}, p7 t 200 = some ([], false) → (Option.bind (o6 t) fun a12 => Option.bind (some (⟨0, 0⟩ : k6)) fun a17 => X) = X := fun _ => by rw [hPe]; rfl
  rcases reached_low (m := 200) ht (by decide) (by decide) with h200 | ⟨out, o1, o2, oc, o3, o4⟩
  ·rw [hPe]
   simp only [ob]
   rw [if_pos trivial, h200]
   simp only [ob]
   rw [if_pos (by rfl), ad8]; rfl
  ·rcases hP with ⟨h0, _, _⟩ | ⟨all, v, f, q1, q2, hc, hv, hr, hh⟩
   ·rw [o1] at h0; cases h0
   ·rw [o1] at q1; cases q1
    obtain ⟨rv, r1, r2⟩ := rRanks_eq ht hc hr
    obtain ⟨i, hi, hvi⟩ := r2.of hc.cl.init
    have hlen := hc.len
    have hle := hr.le _ hc.cl.init
    rcases hh with ⟨hn, h⟩ | ⟨ch, hk, h1, h2, hh⟩
    ·rw [h]
     simp only [ob]
     rw [if_pos trivial, o3]
     simp only [ob]
     rw [if_neg (by simp), r1]
     simp only [ob, place_ord hc.ord hi, hvi]
     rw [if_pos (by unfold gOf; rw [if_pos (by omega)]; decide)]
     simp [ad8]
    ·have hf0 := (h1 _ .init).2
     rcases hh with ⟨_, l, l1, l2, l3⟩ | ⟨p, h, hp, hl⟩
     ·have := Q3 l1 fun s hs => (h1 s (l2 s hs).1).1
      omega
     ·rw [h]
      simp only [ob]
      rw [if_pos trivial, o3]
      simp only [ob]
      rw [if_neg (by simp), r1]
      simp only [ob, place_ord hc.ord hi, hvi]
      rw [if_neg (by unfold gOf; rw [if_neg (by omega)]; omega)]
      obtain ⟨p', p1, p2⟩ := build_ref ht hk (all := out) (value := rv) (kind := 1) (fun s hs _ => (h1 s hs).1) (by omega) r2.len (fun s hs hg i v _ _ => by
       rw [if_pos rfl, sChoice_eq ht hc hr r2 (h1 s hs).1 (h2 s hs hg).1]
       simp)
      have := p2.unique hp
      subst this
      simp only [if_true, p1, ob, aj7, ad8]
 ·rw [policy_bad e1 hc, e2]
  simp only [ob]
  rw [if_neg hc]
  simp [ad8]
end
end Ab
end
