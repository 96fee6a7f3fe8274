/-
  Texts that the proof stands on.
-/
import Derived.Test.YtpccoiobnjnciaaKRwConNec5
set_option linter.all false
section
namespace Ab
open Go
theorem V0 {α : Type} [DecidableEq α] : ∀ {c S : List α}, c.Nodup → (∀ x ∈ c, x ∈ S) → c.length ≤ S.length
 | [], _, _, _ => Nat.zero_le _
 | a :: c, S, h, hs => by
  obtain ⟨h1, h2⟩ := List.nodup_cons.1 h
  have ha := hs a (by simp)
  have := V0 (c := c) (S := S.erase a) h2 fun x hx => by
   have hne : x ≠ a := fun e => h1 (e ▸ hx)
   exact (List.mem_erase_of_ne hne).2 (hs x (List.mem_cons_of_mem _ hx))
  rw [List.length_erase_of_mem ha] at this
  have : 0 < S.length := List.length_pos_of_mem ha
  simp only [List.length_cons]
  omega
section
variable {α : Type}
def Dn (G L : α → Prop) (nx : α → List α) : Nat → α → Prop
 | 0, s => G s
 | k + 1, s => G s ∨ (L s ∧ ∀ y ∈ nx s, Dn G L nx k y)
variable {G L : α → Prop} {nx : α → List α}
theorem Dn.goal {k : Nat} {s : α} (h : G s) : Dn G L nx k s := by
 cases k with
 | zero => exact h
 | succ k => exact .inl h
theorem Dn.succ : ∀ {k : Nat} {s : α}, Dn G L nx k s → Dn G L nx (k + 1) s
 | 0, s, h => .inl h
 | k + 1, s, h => by
  rcases h with h | ⟨h1, h2⟩
  ·exact .inl h
  ·exact .inr ⟨h1, fun y hy => (h2 y hy).succ⟩
theorem Dn.mono {k m : Nat} {s : α} (h : Dn G L nx k s) (hm : k ≤ m) : Dn G L nx m s := by
 induction hm with
 | refl => exact h
 | step _ ih => exact ih.succ
def Ht (G L : α → Prop) (nx : α → List α) (k : Nat) (s : α) : Prop := Dn G L nx k s ∧ ∀ j, j < k → ¬ Dn G L nx j s
theorem Ht.unique {k m : Nat} {s : α} (h : Ht G L nx k s) (h' : Ht G L nx m s) : k = m := by
 rcases Nat.lt_trichotomy k m with c | c | c
 ·exact absurd h.1 (h'.2 k c)
 ·exact c
 ·exact absurd h'.1 (h.2 m c)
theorem Ht.le {k m : Nat} {s : α} (h : Ht G L nx k s) (h' : Dn G L nx m s) : k ≤ m := by
 rcases Nat.lt_or_ge m k with c | c
 ·exact absurd h' (h.2 m c)
 ·exact c
theorem Ht.of_dn : ∀ {k : Nat} {s : α}, Dn G L nx k s → ∃ m, m ≤ k ∧ Ht G L nx m s
 | 0, s, h => ⟨0, Nat.le_refl _, h, fun j hj => by omega⟩
 | k + 1, s, h => by
  by_cases c : Dn G L nx k s
  ·obtain ⟨m, h1, h2⟩ := Ht.of_dn c
   exact ⟨m, by omega, h2⟩
  ·exact ⟨k + 1, Nat.le_refl _, h, fun j hj hd => c (hd.mono (by omega))⟩
theorem Ht.zero {s : α} (h : G s) : Ht G L nx 0 s := ⟨h, fun j hj => by omega⟩
theorem Ht.goal {k : Nat} {s : α} (h : Ht G L nx k s) (hg : G s) : k = 0 := h.unique (.zero hg)
theorem Ht.step {k : Nat} {s : α} (h : Ht G L nx k s) (hg : ¬ G s) (hne : ∀ s, L s → nx s ≠ []) : ∃ m, k = m + 1 ∧ L s ∧ (∀ y ∈ nx s, ∃ j, j ≤ m ∧ Ht G L nx j y) ∧ ∃ y ∈ nx s, Ht G L nx m y := by
 cases k with
 | zero => exact absurd h.1 hg
 | succ m =>
  rcases h.1 with g | ⟨h1, h2⟩
  ·exact absurd g hg
  ·refine ⟨m, rfl, h1, fun y hy => Ht.of_dn (h2 y hy), ?_⟩
   cases m with
   | zero =>
    obtain ⟨y, hy⟩ := List.exists_mem_of_ne_nil _ (hne s h1)
    exact ⟨y, hy, h2 y hy, fun j hj => by omega⟩
   | succ m =>
    have hn := h.2 (m + 1) (by omega)
    have : ∃ y ∈ nx s, ¬ Dn G L nx m y := Classical.byContradiction fun hc => hn (.inr ⟨h1, fun y hy => Classical.byContradiction fun hy2 => hc ⟨y, hy, hy2⟩⟩)
    obtain ⟨y, hy, hy2⟩ := this
    exact ⟨y, hy, h2 y hy, fun j hj hd => hy2 (hd.mono (by omega))⟩
end
end Ab
end
section
namespace Ab
open Go
/-! ### Maps -/
section
variable {K V : Type} [DecidableEq K]
theorem O9 {k : K} {v : V} : ∀ {m : List (K × V)}, mget m k = none → mset m k v = m ++ [(k, v)]
 | [], _ => rfl
 | p :: r, h => by
  simp only [mget] at h
  split at h
  ·cases h
  ·rename_i hne
   simp only [mset, if_neg hne, O9 h, List.cons_append]
theorem mset_keys {k : K} {v : V} : ∀ {m : List (K × V)}, mget m k ≠ none → (mset m k v).map (·.1) = m.map (·.1)
 | [], h => absurd rfl h
 | p :: r, h => by
  simp only [mget] at h
  simp only [mset]
  split
  ·rename_i e; simp [e]
  ·rename_i hne
   rw [if_neg hne] at h
   simp [mset_keys h]
theorem mget_mem {k : K} {v : V} : ∀ {m : List (K × V)}, mget m k = some v → (k, v) ∈ m
 | [], h => by cases h
 | p :: r, h => by
  simp only [mget] at h
  split at h
  ·rename_i e; cases h; subst e; exact List.mem_cons_self
  ·exact List.mem_cons_of_mem _ (mget_mem h)
theorem mget_none {k : K} : ∀ {m : List (K × V)}, mget m k = none → k ∉ m.map (·.1)
 | [], _ => by simp
 | p :: r, h => by
  simp only [mget] at h
  split at h
  ·cases h
  ·rename_i hne
   have := mget_none h
   simp only [List.map_cons, List.mem_cons, not_or]
   exact ⟨hne, this⟩
end
theorem H9 {α : Type} {l : List α} {i : Int} (h : i < 0) : ix l i = none := by
 unfold ix; rw [if_neg (by omega)]
theorem ac1 {α : Type} {l : List α} {x : α} {i : Int} : ix (l ++ [x]) i = if i = l.length then some x else ix l i := by
 by_cases h0 : 0 ≤ i
 ·obtain ⟨k, rfl⟩ := Int.eq_ofNat_of_zero_le h0
  rw [W3, W3]
  by_cases e : k = l.length
  ·subst e; simp
  ·rw [if_neg (by omega)]
   rcases Nat.lt_or_ge k l.length with h | h
   ·rw [List.getElem?_append_left h]
   ·rw [List.getElem?_eq_none (by simp; omega), List.getElem?_eq_none h]
 ·rw [H9 (by omega), H9 (by omega), if_neg (by omega)]
theorem af4 {α : Type} {l : List α} {x a : α} {i : Int} (h : ix l i = some a) : ix (l ++ [x]) i = some a := by
 rw [ac1, if_neg (by have := o6 h; omega), h]
theorem ix_snoc_new {α : Type} {l : List α} {x : α} : ix (l ++ [x]) (l.length : Int) = some x := by rw [ac1, if_pos rfl]
end Ab
end
section
namespace Ab
open Go
theorem numbers_eq (a b : List Int) : N2 a b = some (dec (a = b)) := by
 unfold N2
 by_cases hl : (a.length : Int) = b.length
 ·rw [if_pos hl]
  rcases V3 (body := M0 a b) (n := (a.length : Int)) (fun j => if dec (ix a j = ix b j) = true then none else some false) (by omega) (fun j h0 h1 _ => by
   obtain ⟨x, hx, _⟩ := n8 (l := a) h0 h1
   obtain ⟨y, hy, _⟩ := n8 (l := b) (i := j) h0 (by omega)
   unfold M0
   rw [hx, hy]
   simp only [oB]
   by_cases e : x = y
   ·rw [if_pos e, ifP (by rw [e])]
   ·rw [if_neg e, ifN (by simpa using e)]) with ⟨h1, h2⟩ | ⟨j, o, h0, h1, h2, _, h4⟩
  ·rw [h1, j6]
   ·rfl
   ·refine List.ext_getElem? fun k => ?_
    by_cases hk : k < a.length
    ·have := h2 k (by omega) (by omega)
     split at this
     ·rename_i e
      have := k8.1 e
      rwa [W3, W3] at this
     ·cases this
    ·rw [List.getElem?_eq_none (by omega), List.getElem?_eq_none (by omega)]
  ·rw [h4]
   split at h2
   ·cases h2
   ·rename_i e
    cases h2
    rw [p8 (fun h => e (j6 (by rw [h])))]; rfl
 ·rw [if_neg hl, p8 (fun h => hl (by rw [h]))]
theorem setN1 (a : Int) {n : Int} (h0 : 0 ≤ a) (h1 : a < n) : SetN [a] n := ⟨by simp, by simp [h0, h1]⟩
def n3 : d9 := ⟨2, [0], [1], [⟨[0], [1], [0], 1⟩, ⟨[], [1], [], 3⟩]⟩
theorem Q8 : i4 n3 where
 n0 := by decide
 n1 := by decide
 init := setN1 0 (by decide) (by decide)
 goal := setN1 1 (by decide) (by decide)
 ops := by decide
 op o ho := by
  simp only [n3, List.mem_cons, List.not_mem_nil, or_false] at ho
  rcases ho with rfl | rfl
  ·exact ⟨⟨setN1 0 (by decide) (by decide), setN1 1 (by decide) (by decide), setN1 0 (by decide) (by decide), by simp⟩, by decide, by decide⟩
  ·exact ⟨⟨setN_nil _, setN1 1 (by decide) (by decide), setN_nil _, by simp⟩, by decide, by decide⟩
theorem subL_drop {α : Type} {l : List α} {i : Int} (h0 : 0 ≤ i) (h1 : i ≤ l.length) : subL l i (l.length : Int) = some (l.drop i.toNat) := by
 rw [subL, if_pos (by omega)]
 rw [show ((l.length : Int)).toNat = l.length by omega, List.take_length]
theorem subL_take {α : Type} {l : List α} {i : Int} (h0 : 0 ≤ i) (h1 : i ≤ l.length) : subL l 0 i = some (l.take i.toNat) := by
 rw [subL, if_pos (by omega)]; rfl
end Ab
end
section
namespace Ab
open Go
def llt : List Int → List Int → Prop
 | [], [] => False
 | [], _ :: _ => True
 | _ :: _, [] => False
 | a :: l, b :: m => a < b ∨ a = b ∧ llt l m
theorem R0 : ∀ l : List Int, ¬ llt l l
 | [] => id
 | a :: l => fun h => by
  rcases h with h | ⟨_, h⟩
  ·omega
  ·exact R0 l h
theorem ae5 : ∀ {a b c : List Int}, llt a b → llt b c → llt a c
 | [], [], _, h, _ => h.elim
 | [], _ :: _, [], _, h => h.elim
 | [], _ :: _, _ :: _, _, _ => trivial
 | _ :: _, [], _, h, _ => h.elim
 | _ :: _, _ :: _, [], _, h => h.elim
 | x :: a, y :: b, z :: c, h, g => by
  rcases h with h | ⟨rfl, h⟩ <;> rcases g with g | ⟨rfl, g⟩
  ·exact .inl (by omega)
  ·exact .inl h
  ·exact .inl g
  ·exact .inr ⟨rfl, ae5 h g⟩
theorem llt_total : ∀ a b : List Int, llt a b ∨ a = b ∨ llt b a
 | [], [] => .inr (.inl rfl)
 | [], _ :: _ => .inl trivial
 | _ :: _, [] => .inr (.inr trivial)
 | x :: a, y :: b => by
  rcases Int.lt_trichotomy x y with h | rfl | h
  ·exact .inl (.inl h)
  ·rcases llt_total a b with h | rfl | h
   ·exact .inl (.inr ⟨rfl, h⟩)
   ·exact .inr (.inl rfl)
   ·exact .inr (.inr (.inr ⟨rfl, h⟩))
  ·exact .inr (.inr (.inl h))
theorem llt_asymm {a b : List Int} (h : llt a b) (g : llt b a) : False := R0 a (ae5 h g)
noncomputable def cmpL (a b : List Int) : Int := if dec (llt a b) = true then -1 else if dec (a = b) = true then 0 else 1
theorem cmpL_lt {a b : List Int} : cmpL a b < 0 ↔ llt a b := by
 unfold cmpL
 by_cases h : llt a b
 ·rw [ifP h]; simp [h]
 ·rw [ifN h]
  split <;> simp [h]
theorem cmpL_eq {a b : List Int} : cmpL a b = 0 ↔ a = b := by
 unfold cmpL
 by_cases h : llt a b
 ·rw [ifP h]
  constructor
  ·intro e; omega
  ·rintro rfl; exact absurd h (R0 _)
 ·rw [ifN h]
  by_cases g : a = b
  ·rw [ifP g]; simp [g]
  ·rw [ifN g]; simp [g]
theorem cmpInt_eq (x y : Int) : I6 x y = some (if x < y then -1 else if y < x then 1 else 0) := by
 unfold I6 B9
 simp only [decide_true, Bool.not_true, oB, Bool.false_eq_true, if_false]
 split
 ·rfl
 ·split <;> rfl
theorem llt_drop : ∀ {a b : List Int} (k : Nat), k ≤ a.length → k ≤ b.length → a.take k = b.take k → (llt a b ↔ llt (a.drop k) (b.drop k))
 | _, _, 0, _, _, _ => by simp
 | [], _, k + 1, h, _, _ => by simp at h
 | _ :: _, [], k + 1, _, h, _ => by simp at h
 | x :: a, y :: b, k + 1, h1, h2, h3 => by
  simp only [List.take_succ_cons, List.cons.injEq] at h3
  obtain ⟨rfl, h3⟩ := h3
  simp only [List.drop_succ_cons]
  rw [← llt_drop k (by simpa using h1) (by simpa using h2) h3]
  simp [llt]
theorem compare_eq (a b : List Int) : u6 a b = some (cmpL a b) := by
 unfold u6
 rcases ah7 (body := A5 a b) (n := (a.length : Int)) (s := ()) (fun j _ => j ≤ b.length ∧ a.take j.toNat = b.take j.toNat) (fun o => o = cmpL a b) (by omega) ⟨by omega, by simp⟩ (fun j _ j0 j1 ⟨k1, k2⟩ => by
  obtain ⟨x, hx, gx⟩ := n8 (l := a) j0 j1
  have hxl := (List.getElem?_eq_some_iff.1 gx).2
  unfold A5
  rw [hx]
  simp only [oB]
  have hd := llt_drop (a := a) (b := b) j.toNat (by omega) (by omega) k2
  have da : a.drop j.toNat = x :: a.drop (j.toNat + 1) := by rw [← hxl]; exact List.drop_eq_getElem_cons (by omega)
  by_cases c : (b.length : Int) ≤ j
  ·rw [if_pos c]
   refine .inr ⟨_, rfl, ?_⟩
   have db : b.drop j.toNat = [] := List.drop_of_length_le (by omega)
   rw [da, db] at hd
   unfold cmpL
   rw [ifN (fun h => (hd.1 h).elim), ifN]
   rintro rfl; omega
  ·rw [if_neg c]
   obtain ⟨y, hy, gy⟩ := n8 (l := b) (i := j) j0 (by omega)
   have hyl := (List.getElem?_eq_some_iff.1 gy).2
   have db : b.drop j.toNat = y :: b.drop (j.toNat + 1) := by rw [← hyl]; exact List.drop_eq_getElem_cons (by omega)
   rw [hy]
   simp only [oB, cmpInt_eq]
   rw [da, db] at hd
   have hne : x ≠ y → a ≠ b := fun h e => by subst e; rw [hx] at hy; cases hy; exact h rfl
   rcases Int.lt_trichotomy x y with h | rfl | h
   ·rw [if_pos h, if_neg (by decide)]
    refine .inr ⟨_, rfl, ?_⟩
    unfold cmpL
    rw [ifP (hd.2 (.inl h))]
   ·simp only [Int.lt_irrefl, if_false, if_true]
    refine .inl ⟨(), trivial, by omega, ?_⟩
    rw [show (j + 1).toNat = j.toNat + 1 by omega, List.take_add_one, List.take_add_one, gx, gy, k2]
   ·rw [if_neg (show ¬ x < y by omega), if_pos h, if_neg (by decide)]
    refine .inr ⟨_, rfl, ?_⟩
    unfold cmpL
    rw [ifN, ifN (hne (by omega))]
    intro g
    rcases hd.1 g with g | ⟨g, _⟩ <;> omega) with ⟨_, r1, r2, r3⟩ | ⟨o, r1, rfl⟩
 ·rw [r1]
  simp only [oB]
  have hd := llt_drop (a := a) (b := b) a.length (Nat.le_refl _) (by omega) (by simpa using r3)
  have da : a.drop a.length = [] := by simp
  rw [da] at hd
  have e3 : a = b.take a.length := by simpa using r3
  by_cases c : (a.length : Int) < b.length
  ·rw [if_pos c]
   have : b.drop a.length ≠ [] := by simp; omega
   unfold cmpL
   rw [ifP]
   rw [hd]
   cases h : b.drop a.length with
   | nil => exact absurd h this
   | cons x l => trivial
  ·rw [if_neg c]
   have : a = b := by rw [e3, List.take_of_length_le (by omega)]
   rw [cmpL_eq.2 this]
 ·rw [r1]; rfl
theorem cmp_ok : CmpOk u6 cmpL := by
 refine ⟨compare_eq, ⟨fun x => ?_, fun x y z h1 h2 => ?_, fun x y z h1 h2 => ?_⟩, fun a b h1 h2 => ?_⟩
 ·simp only [Go.Proofs.ltOf, decide_eq_false_iff_not, cmpL_lt]
  exact R0 x
 ·simp only [Go.Proofs.ltOf, decide_eq_true_eq, cmpL_lt] at h1 h2 ⊢
  exact ae5 h1 h2
 ·simp only [Go.Proofs.ltOf, decide_eq_false_iff_not, cmpL_lt] at h1 h2 ⊢
  intro h
  rcases llt_total x y with g | rfl | g
  ·exact h1 g
  ·exact h2 h
  ·exact h2 (ae5 g h)
 ·rw [cmpL_lt] at h1 h2
  rcases llt_total a b with g | g | g
  ·exact absurd g h1
  ·exact g
  ·exact absurd g h2
/-! ### Lists compared -/
/-! ### Ordered lists -/
abbrev Ord (l : List (List Int)) : Prop := l.Pairwise llt
theorem Ord.ext : ∀ {l m : List (List Int)}, Ord l → Ord m → (∀ x, x ∈ l ↔ x ∈ m) → l = m
 | [], [], _, _, _ => rfl
 | [], b :: m, _, _, h => absurd ((h b).2 (by simp)) (by simp)
 | a :: l, [], _, _, h => absurd ((h a).1 (by simp)) (by simp)
 | a :: l, b :: m, hl, hm, h => by
  obtain ⟨l1, l2⟩ := List.pairwise_cons.1 hl
  obtain ⟨m1, m2⟩ := List.pairwise_cons.1 hm
  have hab : a = b := by
   rcases List.mem_cons.1 ((h a).1 (by simp)) with e | e
   ·exact e
   ·rcases List.mem_cons.1 ((h b).2 (by simp)) with e' | e'
    ·exact e'.symm
    ·exact (llt_asymm (l1 b e') (m1 a e)).elim
  subst hab
  rw [Ord.ext l2 m2 fun x => ⟨fun hx => ?_, fun hx => ?_⟩]
  ·rcases List.mem_cons.1 ((h x).1 (by simp [hx])) with e | e
   ·subst e; exact absurd (l1 x hx) (R0 x)
   ·exact e
  ·rcases List.mem_cons.1 ((h x).2 (by simp [hx])) with e | e
   ·subst e; exact absurd (m1 x hx) (R0 x)
   ·exact e
end Ab
end
section
namespace Ab
open Go
theorem wsN_tb : ∀ {l : List Int}, Inc l → (∀ x ∈ l, 0 ≤ x) → ∀ k : Nat, (wsN l).testBit k = dec ((k : Int) ∈ l)
 | [], _, _, k => by simp [wsN, dec]
 | a :: l, h, h0, k => by
  have hc := List.pairwise_cons.1 h
  obtain ⟨q, hq⟩ : 2 ^ (a.toNat + 1) ∣ wsN l := wsN_dvd fun x hx => by have := hc.1 x hx; have := h0 a (by simp); omega
  have ih := wsN_tb hc.2 (fun x hx => h0 x (List.mem_cons_of_mem _ hx)) k
  have e : wsN (a :: l) = wsN l ||| 2 ^ a.toNat := by
   rw [hq, ← Nat.two_pow_add_eq_or_of_lt (Nat.pow_lt_pow_right (by omega) (by omega)) q, ← hq]
   simp only [wsN]; omega
  rw [e, Nat.testBit_or, ih, Nat.testBit_two_pow]
  have ha := h0 a (by simp)
  by_cases c : (k : Int) = a
  ·have : a.toNat = k := by omega
   simp [this, c]
  ·have : ¬ a.toNat = k := by omega
   simp [this, c]
theorem SetN.tb {s : List Int} {n : Int} (h : SetN s n) (k : Nat) : (wsN s).testBit k = dec ((k : Int) ∈ s) := wsN_tb h.1 (fun x hx => (h.2 x hx).1) k
theorem SetN.w32 {s : List Int} {n : Int} (h : SetN s n) (hn : n ≤ 24) : wsN s < 4294967296 := by
 refine Nat.lt_pow_two_of_testBit (n := 32) _ fun i hi => ?_
 rw [h.tb, dec_false]
 intro q
 have := (h.2 _ q).2
 omega
theorem wrap32 {n : Nat} (h : n < 4294967296) : IntKind.wrap .u32 (n : Int) = n := by
 simp only [IntKind.wrap, IntKind.bits, IntKind.signed, Bool.false_and, Bool.false_eq_true, if_false]
 omega
theorem bit_and {a b : Nat} (ha : a < 4294967296) : Go.bits .and .u32 (a : Int) (b : Int) = ((a &&& b : Nat) : Int) := by
 have e : (BitVec.ofNat 32 a &&& BitVec.ofNat 32 b).toNat = a &&& b := by
  rw [BitVec.toNat_and, BitVec.toNat_ofNat, BitVec.toNat_ofNat]
  refine Nat.eq_of_testBit_eq fun i => ?_
  simp only [Nat.testBit_and, Nat.testBit_mod_two_pow]
  by_cases c : i < 32
  ·simp [c]
  ·have : a.testBit i = false := Nat.testBit_lt_two_pow (Nat.lt_of_lt_of_le ha (Nat.pow_le_pow_right (n := 2) (by omega) (show 32 ≤ i by omega)))
   simp [this]
 rw [← e]
 simp only [Go.bits, BitVec.ofInt_natCast, IntKind.bits]
 exact wrap32 (BitVec.ofNat 32 a &&& BitVec.ofNat 32 b).isLt
theorem bit_or {a b : Nat} (ha : a < 4294967296) (hb : b < 4294967296) : Go.bits .or .u32 (a : Int) (b : Int) = ((a ||| b : Nat) : Int) := by
 have e : (BitVec.ofNat 32 a ||| BitVec.ofNat 32 b).toNat = a ||| b := by
  rw [BitVec.toNat_or, BitVec.toNat_ofNat, BitVec.toNat_ofNat, Nat.mod_eq_of_lt (by simpa using ha), Nat.mod_eq_of_lt (by simpa using hb)]
 rw [← e]
 simp only [Go.bits, BitVec.ofInt_natCast, IntKind.bits]
 exact wrap32 (BitVec.ofNat 32 a ||| BitVec.ofNat 32 b).isLt
theorem bit_andNot {a b : Nat} (ha : a < 4294967296) : ∃ c : Nat, Go.bits .andNot .u32 (a : Int) (b : Int) = (c : Int) ∧ c < 4294967296 ∧ ∀ k, c.testBit k = (a.testBit k && !b.testBit k) := by
 refine ⟨(BitVec.ofNat 32 a &&& ~~~BitVec.ofNat 32 b).toNat, ?_, (BitVec.ofNat 32 a &&& ~~~BitVec.ofNat 32 b).isLt, fun k => ?_⟩
 ·simp only [Go.bits, BitVec.ofInt_natCast, IntKind.bits]
  exact wrap32 (BitVec.ofNat 32 a &&& ~~~BitVec.ofNat 32 b).isLt
 ·rw [BitVec.testBit_toNat, BitVec.getLsbD_and, BitVec.getLsbD_not, BitVec.getLsbD_ofNat, BitVec.getLsbD_ofNat]
  by_cases c : k < 32
  ·simp [c]
  ·have : a.testBit k = false := Nat.testBit_lt_two_pow (Nat.lt_of_lt_of_le ha (Nat.pow_le_pow_right (n := 2) (by omega) (show 32 ≤ k by omega)))
   simp [c, this]
theorem sub_word {s p : List Int} {n : Int} (hs : SetN s n) (hp : SetN p n) (hn : n ≤ 24) : Go.bits .and .u32 (wsN s : Int) (wsN p : Int) = (wsN p : Int) ↔ ∀ x ∈ p, x ∈ s := by
 rw [bit_and (hs.w32 hn)]
 constructor
 ·intro h x hx
  have h0 := (hp.2 x hx).1
  have e : (wsN s &&& wsN p) = wsN p := by omega
  have := congrArg (fun n => Nat.testBit n x.toNat) e
  simp only [Nat.testBit_and, hs.tb, hp.tb, show ((x.toNat : Nat) : Int) = x by omega, j6 hx, Bool.and_true, k8] at this
  exact this
 ·intro h
  have e : (wsN s &&& wsN p) = wsN p := by
   refine Nat.eq_of_testBit_eq fun i => ?_
   rw [Nat.testBit_and, hs.tb, hp.tb, dec_and]
   exact I9 ⟨fun q => q.2, fun q => ⟨h _ q, q⟩⟩
  rw [e]
theorem next_word {s d a : List Int} {n : Int} (hs : SetN s n) (hd : SetN d n) (ha : SetN a n) (hn : n ≤ 24) :
  Go.bits .or .u32 (Go.bits .andNot .u32 (wsN s : Int) (wsN d : Int)) (wsN a : Int) = (wsN (y7 (fun x => x ∈ a ∨ x ∈ s ∧ x ∉ d) n) : Int) := by
 obtain ⟨c, c1, c2, c3⟩ := bit_andNot (b := wsN d) (hs.w32 hn)
 have hr : SetN (y7 (fun x => x ∈ a ∨ x ∈ s ∧ x ∉ d) n) n := X1 _ _
 rw [c1, bit_or c2 (ha.w32 hn)]
 have e : c ||| wsN a = wsN (y7 (fun x => x ∈ a ∨ x ∈ s ∧ x ∉ d) n) := by
  refine Nat.eq_of_testBit_eq fun i => ?_
  rw [Nat.testBit_or, c3, hs.tb, hd.tb, ha.tb, hr.tb, Y6, dec_and, dec_or]
  refine I9 ?_
  rw [B8]
  constructor
  ·rintro (⟨q1, q2⟩ | q)
   ·exact ⟨(hs.2 _ q1).1, (hs.2 _ q1).2, .inr ⟨q1, q2⟩⟩
   ·exact ⟨(ha.2 _ q).1, (ha.2 _ q).2, .inl q⟩
  ·rintro ⟨_, _, q | q⟩
   ·exact .inr q
   ·exact .inl q
 rw [e]
theorem ad5 {s : List Int} {n : Int} (hs : SetN s n) (hn : n ≤ 24) : F8 s = some (wsN s : Int) := by
 unfold F8
 obtain ⟨w, h1, h2⟩ := y5 (body := S8 s) (n := (s.length : Int)) (s := 0) (fun j w => w = (wsN (s.take j.toNat) : Int)) (by omega) (by simp [wsN]) (fun j w j0 j1 hP => by
  obtain ⟨a, ha, ga⟩ := n8 (l := s) j0 j1
  have hb := hs.2 a (z8 ha)
  have ht : s.take (j + 1).toNat = s.take j.toNat ++ [a] := by rw [show (j + 1).toNat = j.toNat + 1 by omega, List.take_add_one, ga]; rfl
  have h1 : SetN (s.take j.toNat) n := ⟨List.Pairwise.sublist (List.take_sublist _ _) hs.1, fun x hx => hs.2 x (List.mem_of_mem_take hx)⟩
  have h2 : SetN (s.take j.toNat ++ [a]) n := by rw [← ht]; exact ⟨List.Pairwise.sublist (List.take_sublist _ _) hs.1, fun x hx => hs.2 x (List.mem_of_mem_take hx)⟩
  have h3 : SetN [a] n := ⟨List.pairwise_singleton _ _, fun x hx => by simp at hx; subst hx; exact hb⟩
  have e1 : shlW .u32 1 a = (wsN [a] : Int) := by
   have := h3.w32 hn
   unfold shlW
   simp only [wsN, Nat.add_zero] at this ⊢
   rw [show min a.toNat (IntKind.u32).bits = a.toNat by simp only [IntKind.bits]; omega, Int.one_mul]
   have ep : (2 : Int) ^ a.toNat = ((2 ^ a.toNat : Nat) : Int) := by push_cast; rfl
   rw [ep]; exact wrap32 this
  refine ⟨Go.bits .or .u32 w (shlW .u32 1 a), by simp only [S8, ha, oB, chk0, if_neg (show ¬ a < 0 by omega)], ?_⟩
  rw [e1, hP, bit_or (h1.w32 hn) (h3.w32 hn), ht]
  have e : wsN (s.take j.toNat) ||| wsN [a] = wsN (s.take j.toNat ++ [a]) := by
   refine Nat.eq_of_testBit_eq fun i => ?_
   rw [Nat.testBit_or, h1.tb, h2.tb, h3.tb, dec_or]
   exact I9 (by simp)
  rw [e])
 rw [h1, h2, Int.toNat_natCast, List.take_length]
 rfl
noncomputable def F2 (w : Nat) (n : Nat) : List Int := (nums 0 n).filter fun x => w.testBit x.toNat
theorem facts_eq {w : Nat} (hw : w < 4294967296) : N4 (w : Int) = some (F2 w 32) := by
 unfold N4
 obtain ⟨r, h1, h2⟩ := y5 (body := Q5 (w : Int)) (n := 32) (s := []) (fun j c => c = F2 w j.toNat) (by omega) (by simp [F2, nums]) (fun j c j0 j1 hP => by
  subst hP
  have hlen : (F2 w j.toNat).length ≤ 32 := by
   refine Nat.le_trans (List.length_filter_le _ _) ?_
   rw [len_nums]; omega
  have hn : nums 0 (j + 1).toNat = nums 0 j.toNat ++ [j] := by
   refine Inc.ext (ai3 _ _) (List.pairwise_append.2 ⟨ai3 _ _, List.pairwise_singleton _ _, fun x hx y hy => ?_⟩) fun x => ?_
   ·simp at hy; subst hy; have := P6.1 hx; omega
   ·rw [List.mem_append, P6, P6, List.mem_singleton]; omega
  have e1 : shrW .u32 (w : Int) j = ((w >>> j.toNat : Nat) : Int) := by
   unfold shrW
   rw [show min j.toNat (IntKind.u32).bits = j.toNat by simp only [IntKind.bits]; omega]
   have ep : (2 : Int) ^ j.toNat = ((2 ^ j.toNat : Nat) : Int) := by push_cast; rfl
   rw [ep, Nat.shiftRight_eq_div_pow, Int.fdiv_eq_ediv_of_nonneg _ (Int.natCast_nonneg _)]
   rfl
  have h2 : w >>> j.toNat < 4294967296 := Nat.lt_of_le_of_lt (Nat.shiftRight_le _ _) hw
  have e2 : Go.bits .and .u32 ((w >>> j.toNat : Nat) : Int) 1 = ((w >>> j.toNat &&& 1 : Nat) : Int) := bit_and (b := 1) h2
  have e3 : (w >>> j.toNat &&& 1 = 1) ↔ w.testBit j.toNat = true := by
   rw [Nat.testBit]; simp [Nat.and_comm]
  unfold Q5
  rw [e1, e2]
  by_cases c : w.testBit j.toNat = true
  ·rw [if_pos (by have := e3.2 c; omega), app, if_pos (by simp; omega)]
   exact ⟨_, rfl, by simp [F2, hn, List.filter_append, c]⟩
  ·rw [if_neg (fun q => c (e3.1 (by omega)))]
   exact ⟨_, rfl, by simp [F2, hn, List.filter_append, c]⟩)
 rw [h1, h2]; rfl
theorem bitsOf_inj {a b : Nat} (ha : a < 4294967296) (hb : b < 4294967296) (h : F2 a 32 = F2 b 32) : a = b := by
 refine Nat.eq_of_testBit_eq fun i => ?_
 by_cases c : i < 32
 ·have key : ∀ w : Nat, (i : Int) ∈ F2 w 32 ↔ w.testBit i = true := fun w => by
   simp only [F2, List.mem_filter, P6, Int.toNat_natCast]
   exact ⟨fun q => q.2, fun q => ⟨by omega, q⟩⟩
  have := (key a).symm.trans ((by rw [h]) : ((i : Int) ∈ F2 a 32 ↔ (i : Int) ∈ F2 b 32)) |>.trans (key b)
  cases h1 : a.testBit i <;> cases h2 : b.testBit i <;> simp [h1, h2] at this ⊢
 ·have low : ∀ w : Nat, w < 4294967296 → w.testBit i = false := fun w hw => Nat.testBit_lt_two_pow (Nat.lt_of_lt_of_le hw (Nat.pow_le_pow_right (n := 2) (by omega) (show 32 ≤ i by omega)))
  rw [low a ha, low b hb]
theorem words_cmp : CmpOk (fun a b : U32 => E7 a.1 b.1) (fun a b => cmpL (F2 a.1.toNat 32) (F2 b.1.toNat 32)) := by
 obtain ⟨h1, h2, h3⟩ := cmp_ok
 refine ⟨fun a b => ?_, ⟨fun x => h2.irrefl _, fun x y z => h2.trans _ _ _, fun x y z => h2.ntrans _ _ _⟩, fun a b q1 q2 => ?_⟩
 ·have ea := facts_eq (w := a.1.toNat) (by have := a.2; omega)
  have eb := facts_eq (w := b.1.toNat) (by have := b.2; omega)
  rw [show ((a.1.toNat : Nat) : Int) = a.1 by have := a.2; omega] at ea
  rw [show ((b.1.toNat : Nat) : Int) = b.1 by have := b.2; omega] at eb
  simp only [E7, ea, eb, oB, h1]
 ·have := bitsOf_inj (a := a.1.toNat) (b := b.1.toNat) (by have := a.2; omega) (by have := b.2; omega) (h3 _ _ q1 q2)
  have ha := a.2; have hb := b.2
  exact Subtype.ext (by omega)
theorem sortW {l : List Int} (hl : l.length ≤ 1000000) (hw : ∀ x ∈ l, 0 ≤ x ∧ x < 4294967296) : ∃ l', sortFU E7 l = some l' ∧ l'.Perm l := by
 unfold sortFU
 rw [dif_pos hw, sortFL_eq (by simp; omega) words_cmp]
 refine ⟨_, rfl, ?_⟩
 have := (List.mergeSort_perm (l.attach.map fun x => (⟨x.1, hw x.1 x.2⟩ : U32)) (fun x y => decide (¬ cmpL (F2 y.1.toNat 32) (F2 x.1.toNat 32) < 0))).map (fun z : U32 => z.1)
 simpa using this
end Ab
end
section
namespace Ab
open Go
inductive Rt (t : d9) : List Int → Prop
 | init : Rt t t.init
 | step {s : List Int} {op : Int} (h : Rt t s) (h0 : 0 ≤ op) (h1 : op < t.operators.length) (hc : can t s op) : Rt t (aft t s op)
theorem Rt.setN {t : d9} (ht : i4 t) {s : List Int} (h : Rt t s) : SetN s t.facts := by
 cases h with
 | init => exact ht.init
 | step => exact T8 _ _ _
theorem Rt.ends {t : d9} : ∀ {plan s e : List Int}, Rt t s → (∀ x ∈ plan, (0 : Int) ≤ x ∧ x < t.operators.length) → ends t s plan = some e → Rt t e
 | [], s, e, hs, _, h => by simp only [Ab.ends, Option.some.injEq] at h; subst h; exact hs
 | op :: r, s, e, hs, hv, h => by
  simp only [Ab.ends] at h
  split at h
  ·rename_i hc
   have := hv op List.mem_cons_self
   exact Rt.ends (hs.step this.1 this.2 (k8.1 hc)) (fun x hx => hv x (List.mem_cons_of_mem _ hx)) h
  ·cases h
theorem Rt.way {t : d9} {s : List Int} (h : Rt t s) : ∃ plan : List Int, (∀ x ∈ plan, (0 : Int) ≤ x ∧ x < t.operators.length) ∧ Ab.ends t t.init plan = some s := by
 induction h with
 | init => exact ⟨[], by simp, rfl⟩
 | @step s op h h0 h1 hc ih =>
  obtain ⟨p, p1, p2⟩ := ih
  refine ⟨p ++ [op], fun x hx => ?_, ?_⟩
  ·rcases List.mem_append.1 hx with hx | hx
   ·exact p1 x hx
   ·simp only [List.mem_singleton] at hx; subst hx; exact ⟨h0, h1⟩
  ·rw [ends_append, p2]
   simp only [oB, Ab.ends]
   rw [if_pos (j6 hc)]
def Cls (t : d9) (l : List (List Int)) (s : List Int) : Prop := ∀ op : Int, 0 ≤ op → op < t.operators.length → can t s op → aft t s op ∈ l
theorem Rt.mem {t : d9} {l : List (List Int)} (hi : t.init ∈ l) (hc : ∀ s ∈ l, Cls t l s) {s : List Int} (h : Rt t s) : s ∈ l := by
 induction h with
 | init => exact hi
 | step h h0 h1 hcan ih => exact hc _ ih _ h0 h1 hcan
def Many (t : d9) : Prop := ∃ l : List (List Int), l.Nodup ∧ l.length = 2001 ∧ ∀ s ∈ l, Rt t s
end Ab
end
section
namespace Ab
open Go
abbrev Mk := i6
def wd (s : List Int) : Int := (wsN s : Int)
def mkOf (o : f5) : Mk := ⟨wd o.pre, wd o.add, wd o.del, o.cost⟩
def mks (t : d9) : List Mk := t.operators.map mkOf
def canW (m : Mk) (x : Int) : Prop := Go.bits .and .u32 x m.pre = m.pre
def tgtW (m : Mk) (x : Int) : Int := Go.bits .or .u32 (Go.bits .andNot .u32 x m.del) m.add
theorem wd_inj {t : d9} (ht : i4 t) {s s' : List Int} (h : SetN s t.facts) (h' : SetN s' t.facts) (e : wd s = wd s') : s = s' :=
 h.word_inj h' (by unfold wd at e; omega)
theorem wd_u32 {t : d9} (ht : i4 t) {s : List Int} (h : SetN s t.facts) : 0 ≤ wd s ∧ wd s < 4294967296 := by
 have := h.w32 ht.n1; unfold wd; omega
theorem O6 {t : d9} (ht : i4 t) {op : Int} (h0 : 0 ≤ op) (h1 : op < t.operators.length) : M5 (opAt t op) t.facts ∧ R6 (opAt t op) := ht.op _ (z8 (ix_op h0 h1))
theorem ah6 {t : d9} (ht : i4 t) {s : List Int} (h : SetN s t.facts) {op : Int} (h0 : 0 ≤ op) (h1 : op < t.operators.length) : canW (mkOf (opAt t op)) (wd s) ↔ can t s op :=
 sub_word h (O6 ht h0 h1).1.1 ht.n1
theorem tgtW_eq {t : d9} (ht : i4 t) {s : List Int} (h : SetN s t.facts) {op : Int} (h0 : 0 ≤ op) (h1 : op < t.operators.length) : tgtW (mkOf (opAt t op)) (wd s) = wd (aft t s op) :=
 next_word h (O6 ht h0 h1).1.2.2.1 (O6 ht h0 h1).1.2.1 ht.n1
theorem mks_mem {t : d9} {m : Mk} (h : m ∈ mks t) : ∃ op : Int, 0 ≤ op ∧ op < t.operators.length ∧ m = mkOf (opAt t op) := by
 obtain ⟨o, ho, rfl⟩ := List.mem_map.1 h
 obtain ⟨i, h0, h1, h2⟩ := A7 ho
 rw [ix_op h0 h1] at h2; cases h2
 exact ⟨i, h0, h1, rfl⟩
theorem mks_of {t : d9} {op : Int} (h0 : 0 ≤ op) (h1 : op < t.operators.length) : mkOf (opAt t op) ∈ mks t := List.mem_map.2 ⟨_, z8 (ix_op h0 h1), rfl⟩
theorem of_eq {t : d9} (ht : i4 t) : X5 t = some (wd t.init, wd t.goal, mks t) := by
 unfold X5
 rw [ad5 ht.init ht.n1, ad5 ht.goal ht.n1]
 simp only [oB]
 obtain ⟨r, h1, h2⟩ := y5 (body := S7 t) (n := (t.operators.length : Int)) (s := []) (fun j c => c = (t.operators.take j.toNat).map mkOf) (by omega) (by simp) (fun j c j0 j1 hP => by
  have ho := O6 ht j0 j1
  have hx := ix_op j0 j1
  have ga := (o6 hx).2.2
  have hl := ht.ops
  have htk : t.operators.take (j + 1).toNat = t.operators.take j.toNat ++ [opAt t j] := by rw [show (j + 1).toNat = j.toNat + 1 by omega, List.take_add_one, ga]; rfl
  unfold S7
  rw [hx]
  simp only [oB, ad5 ho.1.1 ht.n1, ad5 ho.1.2.1 ht.n1, ad5 ho.1.2.2.1 ht.n1]
  refine ⟨c ++ [mkOf (opAt t j)], ?_, ?_⟩
  ·unfold app
   rw [if_pos (by rw [hP]; simp; omega)]; rfl
  ·rw [hP, htk]; simp)
 rw [h1, h2, Int.toNat_natCast, List.take_length]
 rfl
def Rwd (t : d9) (x : Int) : Prop := ∃ s, Rt t s ∧ x = wd s
theorem states_of {t : d9} : ∀ {l : List Int}, (∀ x ∈ l, Rwd t x) → ∃ ss : List (List Int), ss.map wd = l ∧ ∀ s ∈ ss, Rt t s
 | [], _ => ⟨[], rfl, by simp⟩
 | x :: l, h => by
  obtain ⟨s, s1, s2⟩ := h x (by simp)
  obtain ⟨ss, h1, h2⟩ := states_of (l := l) fun y hy => h y (List.mem_cons_of_mem _ hy)
  exact ⟨s :: ss, by simp [h1, s2], by simp [s1]; exact h2⟩
theorem ac9 {α β : Type} {f : α → β} : ∀ {l : List α}, (l.map f).Nodup → l.Nodup
 | [], _ => List.nodup_nil
 | x :: l, h => by
  simp only [List.map_cons, List.nodup_cons] at h
  exact List.nodup_cons.2 ⟨fun hx => h.1 (List.mem_map.2 ⟨x, hx, rfl⟩), ac9 h.2⟩
theorem many_of {t : d9} {l : List Int} (hn : l.Nodup) (hl : 2000 < l.length) (h : ∀ x ∈ l, Rwd t x) : Many t := by
 obtain ⟨ss, h1, h2⟩ := states_of (l := l.take 2001) fun x hx => h x (List.mem_of_mem_take hx)
 refine ⟨ss, ac9 (f := wd) (by rw [h1]; exact hn.sublist (List.take_sublist _ _)), ?_, h2⟩
 have := congrArg List.length h1
 simp only [List.length_map, List.length_take] at this
 omega
theorem Rwd.next {t : d9} (ht : i4 t) {x : Int} (h : Rwd t x) {m : Mk} (hm : m ∈ mks t) (hc : canW m x) : Rwd t (tgtW m x) := by
 obtain ⟨s, s1, rfl⟩ := h
 obtain ⟨op, h0, h1, rfl⟩ := mks_mem hm
 have hs := s1.setN ht
 exact ⟨_, .step s1 h0 h1 ((ah6 ht hs h0 h1).1 hc), tgtW_eq ht hs h0 h1⟩
theorem Rwd.all {t : d9} (ht : i4 t) {l : List Int} (hi : wd t.init ∈ l) (hc : ∀ x ∈ l, ∀ m ∈ mks t, canW m x → tgtW m x ∈ l) {x : Int} (h : Rwd t x) : x ∈ l := by
 obtain ⟨s, h, rfl⟩ := h
 induction h with
 | init => exact hi
 | step h h0 h1 hcan ih =>
  have hs := h.setN ht
  have := hc _ ih _ (mks_of h0 h1) ((ah6 ht hs h0 h1).2 hcan)
  rwa [tgtW_eq ht hs h0 h1] at this
abbrev MpU := List (Int × Unit)
theorem mgetU {m : MpU} {x : Int} : mget m x = none ↔ x ∉ m.map (·.1) := by
 constructor
 ·exact mget_none
 ·intro h
  cases e : mget m x with
  | none => rfl
  | some u => exact absurd (List.mem_map.2 ⟨_, mget_mem e, rfl⟩) h
structure AlW (t : d9) (q : List Int) (f : MpU) (a : List Int) : Prop where
 nd : (f.map (·.1)).Nodup
 pm : (f.map (·.1)).Perm (q ++ a)
 rw : ∀ x ∈ f.map (·.1), Rwd t x
theorem all_in {t : d9} (ht : i4 t) {q a : List Int} {f : MpU} {x : Int} (hx : Rwd t x) (h : AlW t q f a) (hf : f.length ≤ 2000) (u : Unit) {c : List Int} (hc : o4 c 0 ((c.length : Int) - 1) = q) :
  ∃ f' q', E8 (mks t) c f x u = some (f', q') ∧ AlW t q' f' a ∧ (∀ y ∈ f.map (·.1), y ∈ f'.map (·.1)) ∧ ∀ m ∈ mks t, canW m x → tgtW m x ∈ f'.map (·.1) := by
 unfold E8
 have hml : (mks t).length ≤ 40 := by simp [mks]; exact ht.ops
 obtain ⟨r, h1, h2, h3, h4, h5⟩ := y5 (body := E5 (mks t) x u) (n := ((mks t).length : Int)) (s := (f, o4 c 0 ((c.length : Int) - 1)))
  (fun j s => AlW t s.2 s.1 a ∧ (∀ y ∈ f.map (·.1), y ∈ s.1.map (·.1)) ∧ s.1.length ≤ 2000 + j ∧ ∀ i m, i < j → ix (mks t) i = some m → canW m x → tgtW m x ∈ s.1.map (·.1)) (by omega)
  ⟨by rw [hc]; exact h, fun _ h => h, by simp only; omega, fun i m hi hm => by have := (o6 hm).1; omega⟩ (fun j s j0 j1 hP => by
   obtain ⟨f', q'⟩ := s
   obtain ⟨p1, p2, p3, p4⟩ := hP
   simp only at p1 p2 p3 p4
   obtain ⟨m, hm, _⟩ := n8 j0 j1
   have hmm := z8 hm
   unfold E5
   simp only [hm, oB]
   by_cases c1 : Go.bits .and .u32 x m.pre = m.pre
   ·rw [if_pos c1]
    have c1' : canW m x := c1
    have ee : Go.bits .or .u32 (Go.bits .andNot .u32 x m.del) m.add = tgtW m x := rfl
    rw [ee]
    by_cases c2 : mget f' (tgtW m x) = none
    ·rw [if_pos (by simp [c2])]
     have hq : q'.length ≤ f'.length := by have := p1.pm.length_eq; simp at this; omega
     have ha : app 4 q' [tgtW m x] = some (q' ++ [tgtW m x]) := by unfold app; rw [if_pos (by simp; omega)]
     simp only [ha, oB]
     have hmem := mgetU.1 c2
     refine ⟨_, rfl, ⟨?_, ?_, ?_⟩, ?_, ?_, ?_⟩
     ·simp only [O9 c2, List.map_append]
      refine List.nodup_append.2 ⟨p1.nd, by simp, fun y hy z hz e => ?_⟩
      simp at hz; subst hz; subst e; exact hmem hy
     ·simp only [O9 c2, List.map_append, List.map_cons, List.map_nil]
      refine (p1.pm.append_right _).trans ?_
      rw [List.append_assoc, List.append_assoc]
      exact List.Perm.append_left _ List.perm_append_comm
     ·intro y hy
      simp only [O9 c2, List.map_append, List.mem_append, List.map_cons, List.map_nil, List.mem_singleton] at hy
      rcases hy with hy | rfl
      ·exact p1.rw y hy
      ·exact hx.next ht hmm c1'
     ·intro y hy
      simp only [O9 c2, List.map_append, List.mem_append]
      exact .inl (p2 y hy)
     ·simp only [O9 c2, List.length_append, List.length_singleton]; omega
     ·intro i m' hi hm' hc'
      simp only [O9 c2, List.map_append, List.mem_append]
      by_cases e : i = j
      ·subst e; rw [hm] at hm'; cases hm'; exact .inr (by simp)
      ·exact .inl (p4 i m' (by omega) hm' hc')
    ·rw [if_neg (by simp; cases e : mget f' (tgtW m x) with | none => exact absurd e c2 | some _ => simp)]
     refine ⟨_, rfl, p1, p2, by simp only; omega, fun i m' hi hm' hc' => ?_⟩
     by_cases e : i = j
     ·subst e; rw [hm] at hm'; cases hm'
      exact Classical.byContradiction fun q => c2 (mgetU.2 q)
     ·exact p4 i m' (by omega) hm' hc'
   ·rw [if_neg c1]
    refine ⟨_, rfl, p1, p2, by simp only; omega, fun i m' hi hm' hc' => ?_⟩
    by_cases e : i = j
    ·subst e; rw [hm] at hm'; cases hm'; exact absurd hc' c1
    ·exact p4 i m' (by omega) hm' hc')
 refine ⟨r.1, r.2, by rw [h1]; rfl, h2, h3, fun m hm hcan => ?_⟩
 obtain ⟨i, i0, i1, hi⟩ := A7 hm
 exact h5 i m i1 hi hcan
theorem all_spec {t : d9} (ht : i4 t) (goal : Int) : ∃ l b, D5 (wd t.init) goal (mks t) = some (l, b) ∧ (b = false → Many t) ∧ (b = true → l.Nodup ∧ l.length ≤ 2000 ∧ ∀ x, x ∈ l ↔ Rwd t x) := by
 unfold D5
 simp only [u9, oB]
 have hi0 : Rwd t (wd t.init) := ⟨_, .init, rfl⟩
 obtain ⟨o, h1, h2⟩ := T3 (body := E6 (wd t.init) goal (mks t)) (s := ([wd t.init], mset ([] : MpU) (wd t.init) (), []))
  (fun s => AlW t s.1 s.2.1 s.2.2 ∧ wd t.init ∈ s.2.1.map (·.1) ∧ s.2.1.length ≤ 2000 ∧ ∀ x ∈ s.2.2, ∀ m ∈ mks t, canW m x → tgtW m x ∈ s.2.1.map (·.1))
  (fun o => match o with | .inl l => l.Nodup ∧ l.length ≤ 2000 ∧ ∀ x, x ∈ l ↔ Rwd t x | .inr x => x = ([], false) ∧ Many t)
  (fun s => 2000 - s.2.2.length) ⟨⟨by simp [mset], by simp [mset], by simp [mset]; exact hi0⟩, by simp [mset], by simp [mset], by simp⟩ (by
   rintro ⟨q, f, a⟩ ⟨p1, p2, p3, p4⟩
   simp only at p1 p2 p3 p4
   have hlen : f.length = q.length + a.length := by have := p1.pm.length_eq; simpa using this
   unfold E6
   by_cases c : 0 < q.length
   ·simp only [show (0 : Int) < (q.length : Int) by omega, if_true]
    obtain ⟨x, hx, gx⟩ := n8 (l := q) (i := (q.length : Int) - 1) (by omega) (by omega)
    have hq : o4 q 0 ((q.length : Int) - 1) ++ [x] = q := by
     have : o4 q 0 ((q.length : Int) - 1) = q.take (q.length - 1) := by
      simp only [o4, Int.toNat_zero, List.drop_zero]
      rw [show ((q.length : Int) - 1).toNat = q.length - 1 by omega]
     rw [this]
     have e : q.take (q.length - 1 + 1) = q.take (q.length - 1) ++ [x] := by
      rw [List.take_add_one]
      rw [show ((q.length : Int) - 1).toNat = q.length - 1 by omega] at gx
      rw [gx]; rfl
     rw [← e, show q.length - 1 + 1 = q.length by omega, List.take_length]
    have hxm : x ∈ f.map (·.1) := p1.pm.mem_iff.2 (List.mem_append_left _ (z8 hx))
    have hxr := p1.rw x hxm
    have ha : app 4 a [x] = some (a ++ [x]) := by unfold app; rw [if_pos (by simp; omega)]
    have p1' : AlW t (o4 q 0 ((q.length : Int) - 1)) f (a ++ [x]) := ⟨p1.nd, p1.pm.trans (by
     rw (occs := .pos [1]) [← hq]
     rw [List.append_assoc]
     exact List.Perm.append_left _ List.perm_append_comm), p1.rw⟩
    obtain ⟨f', q', k1, k2, k3, k4⟩ := all_in ht hxr p1' p3 () rfl
    simp only [hx, ha, cutV, oB, z6]
    rw [if_pos (by omega)]
    simp only [oB, k1]
    by_cases big : 2000 < f'.length
    ·rw [if_pos (by omega)]
     exact .inr ⟨_, rfl, rfl, many_of k2.nd (by simpa using big) k2.rw⟩
    ·rw [if_neg (by omega)]
     have hlen' : f'.length = q'.length + (a ++ [x]).length := by have := k2.pm.length_eq; simpa using this
     refine .inl ⟨_, rfl, ⟨k2, k3 _ p2, by simp only; omega, fun y hy m hm hc => ?_⟩, by simp only [List.length_append, List.length_singleton] at hlen' ⊢; omega⟩
     simp only [List.mem_append, List.mem_singleton] at hy
     rcases hy with hy | rfl
     ·exact k3 _ (p4 y hy m hm hc)
     ·exact k4 m hm hc
   ·have : q = [] := List.eq_nil_of_length_eq_zero (by omega)
    subst this
    refine .inr ⟨.inl a, by simp, ?_⟩
    have hp : (f.map (·.1)).Perm a := by simpa using p1.pm
    refine ⟨hp.nodup_iff.1 p1.nd, by simp at hlen; omega, fun x => ⟨fun hx => p1.rw x (hp.mem_iff.2 hx), fun hx => ?_⟩⟩
    exact Rwd.all ht (hp.mem_iff.1 p2) (fun y hy m hm hc => hp.mem_iff.1 (p4 y hy m hm hc)) hx)
 rw [h1]
 rcases o with l | o
 ·exact ⟨l, true, rfl, by simp, fun _ => h2⟩
 ·obtain ⟨rfl, h3⟩ := h2
  exact ⟨[], false, rfl, fun _ => h3, by simp⟩
end Ab
end
section
namespace Ab
open Go
abbrev En := d4
def Hp (L : List Int) (E : List En) : Prop := ∀ i h, ix L i = some h → ∃ e, ix E h = some e ∧ e.fat = i
structure Sme (L : List Int) (E : List En) (L' : List Int) (E' : List En) : Prop where
 len : L'.length = L.length
 mem : ∀ h, h ∈ L' ↔ h ∈ L
 elen : E'.length = E.length
 e : ∀ h a, ix E h = some a → ∃ a', ix E' h = some a' ∧ a'.item = a.item ∧ a'.key = a.key
theorem Sme.refl (L : List Int) (E : List En) : Sme L E L E := ⟨rfl, fun _ => Iff.rfl, rfl, fun h a ha => ⟨a, ha, rfl, rfl⟩⟩
theorem Sme.trans {L L' L'' : List Int} {E E' E'' : List En} (h : Sme L E L' E') (g : Sme L' E' L'' E'') : Sme L E L'' E'' := by
 refine ⟨g.len.trans h.len, fun x => (g.mem x).trans (h.mem x), g.elen.trans h.elen, fun x a ha => ?_⟩
 obtain ⟨b, b1, b2, b3⟩ := h.e x a ha
 obtain ⟨c, c1, c2, c3⟩ := g.e x b b1
 exact ⟨c, c1, c2.trans b2, c3.trans b3⟩
theorem Hp.inj {L : List Int} {E : List En} (h : Hp L E) {i j x : Int} (h1 : ix L i = some x) (h2 : ix L j = some x) : i = j := by
 obtain ⟨e, e1, e2⟩ := h i x h1
 obtain ⟨f, f1, f2⟩ := h j x h2
 rw [e1] at f1; cases f1; rw [← e2, ← f2]
theorem mem_ixI {α : Type} {l : List α} {x : α} : x ∈ l ↔ ∃ i : Int, ix l i = some x := by
 constructor
 ·intro h
  obtain ⟨k, hk⟩ := List.getElem?_of_mem h
  exact ⟨k, by rw [W3]; exact hk⟩
 ·rintro ⟨i, h⟩; exact z8 h
theorem less_ok {L : List Int} {E : List En} (h : Hp L E) {i k : Int} (hi : 0 ≤ i) (hi' : i < L.length) (hk : 0 ≤ k) (hk' : k < L.length) : ∃ b, l0 i k L E = some b := by
 obtain ⟨x, x1, _⟩ := n8 hi hi'
 obtain ⟨y, y1, _⟩ := n8 hk hk'
 obtain ⟨e, e1, _⟩ := h i x x1
 obtain ⟨f, f1, _⟩ := h k y y1
 exact ⟨_, by simp only [l0, x1, y1, e1, f1, oB]; rfl⟩
theorem swap_ok {L : List Int} {E : List En} (h : Hp L E) {i k : Int} (hi : 0 ≤ i) (hi' : i < L.length) (hk : 0 ≤ k) (hk' : k < L.length) :
  ∃ L' E', l7 i k L E = some (L', E') ∧ Hp L' E' ∧ Sme L E L' E' ∧ (∀ x, ix L i = some x → ix L' k = some x) := by
 obtain ⟨x, x1, _⟩ := n8 hi hi'
 obtain ⟨y, y1, _⟩ := n8 hk hk'
 obtain ⟨e, e1, e2⟩ := h i x x1
 obtain ⟨f, f1, f2⟩ := h k y y1
 obtain ⟨ex0, ex1, _⟩ := o6 e1
 obtain ⟨ey0, ey1, _⟩ := o6 f1
 have hL : ∀ j, ix ((L.set i.toNat y).set k.toNat x) j = if j = k then some x else if j = i then some y else ix L j := by
  intro j
  by_cases hj : 0 ≤ j
  ·rw [Y0 hk (by simp; omega) hj]
   split
   ·rfl
   ·rw [Y0 hi hi' hj]
  ·rw [H9 (by omega), H9 (by omega), if_neg (by omega), if_neg (by omega)]
 have q1 : ix ((L.set i.toNat y).set k.toNat x) i = some y := by
  rw [hL]
  by_cases c : i = k
  ·subst c; rw [x1] at y1; cases y1; simp
  ·rw [if_neg c, if_pos rfl]
 have q2 : ix ((L.set i.toNat y).set k.toNat x) k = some x := by rw [hL, if_pos rfl]
 have hE : ∀ j, ix (E.set y.toNat (⟨f.item, f.key, f.time, i⟩ : En)) j = if j = y then some ⟨f.item, f.key, f.time, i⟩ else ix E j := by
  intro j
  by_cases hj : 0 ≤ j
  ·rw [Y0 ey0 ey1 hj]
  ·rw [H9 (by omega), H9 (by omega), if_neg (by omega)]
 obtain ⟨g, g1, g2, g3⟩ : ∃ g, ix (E.set y.toNat (⟨f.item, f.key, f.time, i⟩ : En)) x = some g ∧ g.item = e.item ∧ g.key = e.key := by
  rw [hE]
  by_cases c : x = y
  ·subst c; rw [e1] at f1; cases f1; exact ⟨_, if_pos rfl, rfl, rfl⟩
  ·exact ⟨e, by rw [if_neg c, e1], rfl, rfl⟩
 have hE2 : ∀ j, ix ((E.set y.toNat (⟨f.item, f.key, f.time, i⟩ : En)).set x.toNat (⟨g.item, g.key, g.time, k⟩ : En)) j = if j = x then some ⟨g.item, g.key, g.time, k⟩ else if j = y then some ⟨f.item, f.key, f.time, i⟩ else ix E j := by
  intro j
  by_cases hj : 0 ≤ j
  ·rw [Y0 ex0 (by simp; omega) hj, hE]
  ·rw [H9 (by omega), H9 (by omega), if_neg (by omega), if_neg (by omega)]
 refine ⟨_, _, by simp only [l7, x1, y1, q1, q2, f1, g1, oB]; rfl, ?_, ⟨by simp, fun z => ?_, by simp, fun z a ha => ?_⟩, ?_⟩
 ·intro j z hz
  rw [hL] at hz
  by_cases c : j = k
  ·rw [if_pos c] at hz; cases hz
   exact ⟨_, by rw [hE2, if_pos rfl], c.symm⟩
  ·rw [if_neg c] at hz
   by_cases d : j = i
   ·rw [if_pos d] at hz; cases hz
    have : y ≠ x := fun q => by subst q; exact c (d.trans (h.inj x1 y1))
    exact ⟨_, by rw [hE2, if_neg this, if_pos rfl], d.symm⟩
   ·rw [if_neg d] at hz
    obtain ⟨a, a1, a2⟩ := h j z hz
    refine ⟨a, ?_, a2⟩
    rw [hE2, if_neg (fun q => by subst q; exact d (h.inj hz x1)), if_neg (fun q => by subst q; exact c (h.inj hz y1)), a1]
 ·rw [mem_ixI, mem_ixI]
  constructor
  ·rintro ⟨j, hj⟩
   rw [hL] at hj
   split at hj
   ·cases hj; exact ⟨i, x1⟩
   ·split at hj
    ·cases hj; exact ⟨k, y1⟩
    ·exact ⟨j, hj⟩
  ·rintro ⟨j, hj⟩
   by_cases c : j = k
   ·subst c; rw [y1] at hj; cases hj; exact ⟨i, q1⟩
   ·by_cases d : j = i
    ·subst d; rw [x1] at hj; cases hj; exact ⟨k, q2⟩
    ·exact ⟨j, by rw [hL, if_neg c, if_neg d, hj]⟩
 ·rw [hE2]
  by_cases c : z = x
  ·subst c; rw [e1] at ha; cases ha; exact ⟨_, if_pos rfl, g2, g3⟩
  ·rw [if_neg c]
   by_cases d : z = y
   ·subst d; rw [f1] at ha; cases ha; exact ⟨_, if_pos rfl, rfl, rfl⟩
   ·exact ⟨a, by rw [if_neg d, ha], rfl, rfl⟩
 ·intro z hz; rw [x1] at hz; cases hz; exact q2
theorem same_swap : r9 = l7 := rfl
theorem same_down : C8 = w4 := rfl
structure Kp (nv : Int) (L : List Int) (E : List En) (l : List Int) (e : List En) : Prop where
 hp : Hp l e
 sm : Sme L E l e
 hi : ∀ j, nv ≤ j → ix l j = ix L j
theorem ix_sw {L L' : List Int} {E E' : List En} {i k : Int} (h : l7 i k L E = some (L', E')) (hk0 : 0 ≤ k) (hi0 : 0 ≤ i) (hi1 : i < L.length) (hk1 : k < L.length) {j : Int} (h1 : j ≠ i) (h2 : j ≠ k) : ix L' j = ix L j := by
 unfold l7 at h
 simp only [Option.bind_eq_some_iff] at h
 obtain ⟨a, _, b, _, c, _, d, _, e, _, f, _, g⟩ := h
 cases g
 by_cases hj : 0 ≤ j
 ·rw [Y0 hk0 (by simp; omega) hj, if_neg h2, Y0 hi0 hi1 hj, if_neg h1]
 ·rw [H9 (by omega), H9 (by omega)]
theorem down_body {nv i : Int} {L l : List Int} {E e : List En} (g : Kp nv L E l e) (hn : nv ≤ L.length) (hb : L.length ≤ 1000000) {c : Int} (hc : 0 ≤ c) (hc' : c < L.length) :
  (∃ l' e' c', s6 nv (l, e, c) = some (.inl (l', e', c')) ∧ Kp nv L E l' e' ∧ c < c' ∧ c' < nv) ∨ s6 nv (l, e, c) = some (.inr (l, e, c)) := by
 have hl := g.sm.len
 unfold s6
 have e1 : w64 (w64 (2 * c) + 1) = 2 * c + 1 := by rw [A6 (n := 2 * c) (by omega) (by omega), A6 (by omega) (by omega)]
 simp only [e1]
 by_cases c1 : nv ≤ 2 * c + 1
 ·rw [if_pos (by simp [c1])]; exact .inr rfl
 rw [if_neg (by simp; omega)]
 have e2 : w64 (2 * c + 1 + 1) = 2 * c + 2 := by rw [A6 (by omega) (by omega)]; omega
 simp only [e2]
 obtain ⟨j, j1, j2, j3⟩ : ∃ j, (Option.bind (if 2 * c + 2 < nv then Option.bind (l0 (2 * c + 2) (2 * c + 1) l e) fun a32 => some a32 else some false) fun t69 => if t69 = true then some (2 * c + 2) else some (2 * c + 1)) = some j ∧ c < j ∧ j < nv := by
  by_cases c2 : 2 * c + 2 < nv
  ·obtain ⟨b, hb'⟩ := less_ok g.hp (i := 2 * c + 2) (k := 2 * c + 1) (by omega) (by omega) (by omega) (by omega)
   rw [if_pos c2, hb']
   cases b
   ·exact ⟨2 * c + 1, rfl, by omega, by omega⟩
   ·exact ⟨2 * c + 2, rfl, by omega, by omega⟩
  ·rw [if_neg c2]
   exact ⟨2 * c + 1, rfl, by omega, by omega⟩
 rw [j1, Option.bind_some]
 obtain ⟨b, hb'⟩ := less_ok g.hp (i := j) (k := c) (by omega) (by omega) (by omega) (by omega)
 rw [hb', Option.bind_some]
 cases b
 ·exact .inr rfl
 ·obtain ⟨l', e', s1, s2, s3, _⟩ := swap_ok g.hp (i := c) (k := j) (by omega) (by omega) (by omega) (by omega)
  simp only [s1, oB, W7, s3.len]
  refine .inl ⟨l', e', j, rfl, ⟨s2, g.sm.trans s3, fun q hq => ?_⟩, j2, j3⟩
  rw [ix_sw s1 (by omega) (by omega) (by omega) (by omega) (by omega) (by omega), g.hi q hq]
theorem down_ok {nv t0 : Int} {L : List Int} {M : List (Int × Int)} {E : List En} (h : Hp L E) {i : Int} (hi : 0 ≤ i) (hi' : i < L.length) (hn : nv ≤ L.length) (hb : L.length ≤ 1000000) :
  ∃ L' E' b, w4 i nv t0 L M E = some (L', E', b) ∧ Kp nv L E L' E' := by
 unfold w4
 obtain ⟨o, o1, o2⟩ := T3 (body := s6 nv) (s := (L, E, i))
  (fun s => Kp nv L E s.1 s.2.1 ∧ 0 ≤ s.2.2 ∧ s.2.2 < L.length) (fun o => Kp nv L E o.1 o.2.1) (fun s => (nv - s.2.2).toNat)
  ⟨⟨h, .refl _ _, fun _ _ => rfl⟩, hi, hi'⟩ (by
   rintro ⟨l, e, c⟩ ⟨g1, g2, g3⟩
   simp only at g1 g2 g3
   rcases down_body (i := i) g1 hn hb g2 g3 with ⟨l', e', c', q1, q2, q3, q4⟩ | q
   ·exact .inl ⟨_, q1, ⟨q2, by change 0 ≤ c'; omega, by change c' < _; omega⟩, by change (nv - c').toNat < (nv - c).toNat; omega⟩
   ·exact .inr ⟨_, q, g1⟩)
 obtain ⟨a, b, c⟩ := o
 exact ⟨a, b, _, by rw [o1]; rfl, o2⟩
theorem up_ok {t0 : Int} {L : List Int} {M : List (Int × Int)} {E : List En} (h : Hp L E) {i : Int} (hi : 0 ≤ i) (hi' : i < L.length) (hb : L.length ≤ 1000000) :
  ∃ L' E', y9 i t0 L M E = some (L', E') ∧ Hp L' E' ∧ Sme L E L' E' := by
 unfold y9
 obtain ⟨o, o1, o2⟩ := T3 (body := C7) (s := (L, E, i))
  (fun s => (Hp s.1 s.2.1 ∧ Sme L E s.1 s.2.1) ∧ 0 ≤ s.2.2 ∧ s.2.2 < L.length) (fun o => Hp o.1 o.2 ∧ Sme L E o.1 o.2) (fun s => s.2.2.toNat)
  ⟨⟨h, .refl _ _⟩, hi, hi'⟩ (by
   rintro ⟨l, e, c⟩ ⟨⟨g1, g4⟩, g2, g3⟩
   simp only at g1 g2 g3 g4
   have hl := g4.len
   unfold C7
   have e1 : w64 (c - 1) = c - 1 := A6 (by omega) (by omega)
   have e3 : (c - 1).tdiv 2 = if c = 0 then 0 else (c - 1) / 2 := by
    split
    ·rename_i q; subst q; rfl
    ·rw [Int.tdiv_eq_ediv_of_nonneg (by omega)]
   have e2 : w64 ((c - 1).tdiv 2) = if c = 0 then 0 else (c - 1) / 2 := by
    rw [e3]; split
    ·rfl
    ·exact A6 (by omega) (by omega)
   simp only [e1, e2, chkN, show ((2 : Int) = 0) = False by simp, if_false, oB]
   by_cases c0 : c = 0
   ·subst c0
    rw [if_pos (by simp)]
    exact .inr ⟨_, rfl, g1, g4⟩
   ·simp only [if_neg c0]
    rw [if_neg (by omega)]
    obtain ⟨b, hb'⟩ := less_ok g1 (i := c) (k := (c - 1) / 2) (by omega) (by omega) (by omega) (by omega)
    rw [hb']
    cases b
    ·exact .inr ⟨_, rfl, g1, g4⟩
    ·obtain ⟨l', e', s1, s2, s3, _⟩ := swap_ok g1 (i := (c - 1) / 2) (k := c) (by omega) (by omega) (by omega) (by omega)
     simp only [oB, Bool.not_true, Bool.false_eq_true, if_false, s1, W7, s3.len, if_true]
     exact .inl ⟨_, rfl, ⟨⟨s2, g4.trans s3⟩, by simp only; omega, by simp only; omega⟩, by simp only; omega⟩)
 exact ⟨o.1, o.2, by rw [o1]; rfl, o2⟩
theorem fix_ok {t0 : Int} {L : List Int} {M : List (Int × Int)} {E : List En} (h : Hp L E) {i : Int} (hi : 0 ≤ i) (hi' : i < L.length) (hb : L.length ≤ 1000000) :
  ∃ L' E', x5 i t0 L M E = some (L', E') ∧ Hp L' E' ∧ Sme L E L' E' := by
 unfold x5
 obtain ⟨L', E', b, h1, h2⟩ := down_ok (nv := L.length) (t0 := t0) (M := M) h hi hi' (by omega) hb
 simp only [m6, h1, oB]
 cases b
 ·obtain ⟨L2, E2, k1, k2, k3⟩ := up_ok (t0 := t0) (M := M) h2.hp hi (by rw [h2.sm.len]; exact hi') (by rw [h2.sm.len]; exact hb)
  exact ⟨L2, E2, by simp [k1], k2, h2.sm.trans k3⟩
 ·exact ⟨L', E', by simp, h2.hp, h2.sm⟩
theorem push_ok {t0 : Int} {L : List Int} {M : List (Int × Int)} {E : List En} (h : Hp L E) {x : Int} {e : En} (hx : ix E x = some e) (hn : x ∉ L) (hb : L.length ≤ 999999) :
  ∃ L' E', v7 x t0 E L M = some (E', L') ∧ Hp L' E' ∧ Sme (L ++ [x]) E L' E' := by
 unfold v7 w6
 obtain ⟨x0, x1, _⟩ := o6 hx
 have ha : app 8 L [x] = some (L ++ [x]) := by unfold app; rw [if_pos (by simp; omega)]
 have hE : ∀ j, ix (E.set x.toNat (⟨e.item, e.key, e.time, (L.length : Int)⟩ : En)) j = if j = x then some ⟨e.item, e.key, e.time, (L.length : Int)⟩ else ix E j := by
  intro j
  by_cases hj : 0 ≤ j
  ·rw [Y0 x0 x1 hj]
  ·rw [H9 (by omega), H9 (by omega), if_neg (by omega)]
 simp only [hx, ha, oB, m6]
 have e1 : w64 (((L ++ [x]).length : Int) - 1) = (L.length : Int) := by rw [show (((L ++ [x]).length : Int) - 1) = (L.length : Int) by simp]; exact A6 (by omega) (by omega)
 have hh : Hp (L ++ [x]) (E.set x.toNat (⟨e.item, e.key, e.time, (L.length : Int)⟩ : En)) := by
  intro i z hz
  rw [ac1] at hz
  by_cases c : i = L.length
  ·rw [if_pos c] at hz; cases hz
   exact ⟨_, by rw [hE, if_pos rfl], c.symm⟩
  ·rw [if_neg c] at hz
   obtain ⟨a, a1, a2⟩ := h i z hz
   exact ⟨a, by rw [hE, if_neg (fun q => by subst q; exact hn (z8 hz)), a1], a2⟩
 obtain ⟨L', E', k1, k2, k3⟩ := up_ok (t0 := t0) (M := M) hh (i := L.length) (by omega) (by simp; omega) (by simp; omega)
 refine ⟨L', E', by rw [e1, k1]; rfl, k2, Sme.trans ⟨rfl, fun _ => Iff.rfl, by simp, fun z a hz => ?_⟩ k3⟩
 rw [hE]
 by_cases c : z = x
 ·subst c; rw [hx] at hz; cases hz; exact ⟨_, if_pos rfl, rfl, rfl⟩
 ·exact ⟨a, by rw [if_neg c, hz], rfl, rfl⟩
theorem pop_ok {t0 : Int} {L : List Int} {M : List (Int × Int)} {E : List En} (h : Hp L E) (hl : 0 < L.length) (hb : L.length ≤ 1000000) :
  ∃ L' E' x, B3 t0 L M E = some (E', L', x) ∧ Hp L' E' ∧ Sme L E (L' ++ [x]) E' ∧ x ∉ L' := by
 unfold B3
 have e1 : w64 ((L.length : Int) - 1) = (L.length : Int) - 1 := A6 (by omega) (by omega)
 obtain ⟨l, e, s1, s2, s3, _⟩ := swap_ok h (i := 0) (k := (L.length : Int) - 1) (by omega) (by omega) (by omega) (by omega)
 have hl' := s3.len
 obtain ⟨L1, E1, b, d1, d2⟩ := down_ok (nv := (L.length : Int) - 1) (t0 := t0) (M := M) s2 (i := 0) (by omega) (by omega) (by omega) (by omega)
 have hs := s3.trans d2.sm
 have hl1 := hs.len
 obtain ⟨x, x1, _⟩ := n8 (l := L1) (i := (L.length : Int) - 1) (by omega) (by omega)
 have hcut : subL L1 0 ((L1.length : Int) - 1) = some L1.dropLast := by
  unfold subL
  rw [if_pos (by omega)]
  simp only [Int.toNat_zero, List.drop_zero, List.dropLast_eq_take]
  rw [show ((L1.length : Int) - 1).toNat = L1.length - 1 by omega]
 have hsnoc : L1.dropLast ++ [x] = L1 := by
  have hne : L1 ≠ [] := by intro q; rw [q] at hl1; simp at hl1; omega
  have := (o6 x1).2.2
  rw [show ((L.length : Int) - 1).toNat = L1.length - 1 by omega] at this
  have hlast : L1.getLast hne = x := by
   rw [List.getLast_eq_getElem]
   have := List.getElem?_eq_some_iff.1 this
   exact this.2
  rw [← hlast]; exact List.dropLast_concat_getLast hne
 have hd : Hp L1.dropLast E1 := fun i z hz => d2.hp i z (by
  have := af4 (x := x) hz; rwa [hsnoc] at this)
 refine ⟨L1.dropLast, E1, x, ?_, hd, by rw [hsnoc]; exact hs, fun hx => ?_⟩
 ·rw [same_swap, same_down]
  simp only [m6, e1, s1, oB, W7, hl', if_true, d1, x8, hcut]
  rw [show (L1.length : Int) - 1 = (L.length : Int) - 1 by omega, x1]; rfl
 ·obtain ⟨i, hi⟩ := mem_ixI.1 hx
  have h2 := af4 (x := x) hi
  rw [hsnoc] at h2
  have := d2.hp.inj h2 x1
  have h3 := (o6 hi).2.1
  simp at h3; omega
end Ab
end
section
namespace Ab
open Go
theorem mset_nodup {k v : Int} {m : List (Int × Int)} (h : (m.map (·.1)).Nodup) : ((mset m k v).map (·.1)).Nodup := by
 by_cases c : mget m k = none
 ·rw [O9 c, List.map_append]
  refine List.nodup_append.2 ⟨h, by simp, fun a ha b hb e => ?_⟩
  simp at hb; subst hb; subst e; exact mget_none c ha
 ·rw [mset_keys c]; exact h
theorem mget_of_mem {k v : Int} : ∀ {m : List (Int × Int)}, (m.map (·.1)).Nodup → (k, v) ∈ m → mget m k = some v
 | [], _, h => by simp at h
 | p :: r, hn, h => by
  simp only [List.map_cons, List.nodup_cons] at hn
  simp only [mget]
  rcases List.mem_cons.1 h with e | h
  ·subst e; simp
  ·rw [if_neg (fun e => hn.1 (by rw [← e]; exact List.mem_map.2 ⟨_, h, rfl⟩))]
   exact mget_of_mem hn.2 h
theorem mdel_sub {k : Int} : ∀ {m : List (Int × Int)}, (mdel m k).Sublist m
 | [] => List.Sublist.slnil
 | p :: r => by
  simp only [mdel]
  split
  ·exact List.sublist_cons_self _ _
  ·exact mdel_sub.cons_cons _
theorem mget_mdel {k : Int} : ∀ {m : List (Int × Int)}, (m.map (·.1)).Nodup → ∀ x, mget (mdel m k) x = if x = k then none else mget m x
 | [], _, x => by simp [mdel, mget]
 | p :: r, hn, x => by
  simp only [List.map_cons, List.nodup_cons] at hn
  simp only [mdel]
  by_cases c : k = p.1
  ·rw [if_pos c]
   by_cases d : x = k
   ·rw [if_pos d]
    cases e : mget r x with
    | none => rfl
    | some v => exact absurd (List.mem_map.2 ⟨_, mget_mem e, rfl⟩) (by rw [d, c]; exact hn.1)
   ·rw [if_neg d]
    simp only [mget]
    rw [if_neg (fun e => d (e.trans c.symm))]
  ·rw [if_neg c]
   simp only [mget, mget_mdel hn.2]
   by_cases d : x = k
   ·rw [if_pos d, if_pos d, if_neg (by rw [d]; exact c)]
   ·rw [if_neg d, if_neg d]
structure Qu (M : List (Int × Int)) (L : List Int) (E : List En) : Prop where
 hp : Hp L E
 keys : (M.map (·.1)).Nodup
 mem : ∀ x h, mget M x = some h ↔ h ∈ L ∧ ∃ e, ix E h = some e ∧ e.item = x
def qkey (M : List (Int × Int)) (E : List En) (x : Int) : Option Int := (mget M x).bind fun h => (ix E h).map (·.key)
theorem Sme.item {L L' : List Int} {E E' : List En} (h : Sme L E L' E') (x y : Int) : (∃ e, ix E' x = some e ∧ e.item = y) ↔ ∃ e, ix E x = some e ∧ e.item = y := by
 constructor
 ·rintro ⟨e, e1, e2⟩
  obtain ⟨a, b, _⟩ := o6 e1
  obtain ⟨f, f1, _⟩ := n8 (l := E) a (by rw [← h.elen]; exact b)
  obtain ⟨g, g1, g2, _⟩ := h.e x f f1
  rw [e1] at g1; cases g1
  exact ⟨f, f1, g2.symm.trans e2⟩
 ·rintro ⟨e, e1, e2⟩
  obtain ⟨g, g1, g2, _⟩ := h.e x e e1
  exact ⟨g, g1, g2.trans e2⟩
theorem Sme.key {L L' : List Int} {E E' : List En} (h : Sme L E L' E') (x : Int) : (ix E' x).map (·.key) = (ix E x).map (·.key) := by
 cases e1 : ix E x with
 | some e =>
  obtain ⟨g, g1, _, g3⟩ := h.e x e e1
  rw [g1]; simp [g3]
 | none =>
  cases e2 : ix E' x with
  | none => rfl
  | some e =>
   obtain ⟨a, b, _⟩ := o6 e2
   obtain ⟨f, f1, _⟩ := n8 (l := E) a (by rw [← h.elen]; exact b)
   rw [e1] at f1; cases f1
theorem Qu.sme {M : List (Int × Int)} {L L' : List Int} {E E' : List En} (h : Qu M L E) (hp : Hp L' E') (hs : Sme L E L' E') : Qu M L' E' ∧ ∀ x, qkey M E' x = qkey M E x := by
 refine ⟨⟨hp, h.keys, fun x y => ?_⟩, fun x => ?_⟩
 ·rw [h.mem, hs.mem, hs.item]
 ·unfold qkey
  cases mget M x with
  | none => rfl
  | some y => simp [hs.key]
theorem Qu.nil : Qu [] [] [] := ⟨fun i h e => by simp [ix] at e, by simp, fun x h => by simp [mget]⟩
theorem Qu.val {M : List (Int × Int)} {L : List Int} {E : List En} (h : Qu M L E) {z : Int} (hz : z ∈ L) : z.toNat < E.length := by
 obtain ⟨i, _, _, hi⟩ := A7 hz
 obtain ⟨e, e1, _⟩ := h.hp i z hi
 exact f8 e1
theorem Qu.chk1 {M : List (Int × Int)} {L : List Int} {E : List En} (h : Qu M L E) : chkH E.length L = some () := by
 unfold chkH; rw [if_pos (fun z hz => h.val hz)]
theorem Qu.chk2 {M : List (Int × Int)} {L : List Int} {E : List En} (h : Qu M L E) : chkH E.length (M.map (·.2)) = some () := by
 unfold chkH
 rw [if_pos]
 intro z hz
 obtain ⟨p, hp, rfl⟩ := List.mem_map.1 hz
 exact h.val ((h.mem p.1 p.2).1 (mget_of_mem h.keys hp)).1
theorem Qu.item_inj {M : List (Int × Int)} {L : List Int} {E : List En} (h : Qu M L E) {a b : Int} {e f : En} (ha : a ∈ L) (hb : b ∈ L) (he : ix E a = some e) (hf : ix E b = some f) (hi : e.item = f.item) : a = b := by
 have h1 := (h.mem e.item a).2 ⟨ha, e, he, rfl⟩
 have h2 := (h.mem e.item b).2 ⟨hb, f, hf, hi.symm⟩
 rw [h1] at h2; exact Option.some.inj h2
theorem Hp.nodup {L : List Int} {E : List En} (h : Hp L E) : L.Nodup := by
 refine List.pairwise_iff_getElem.2 fun i j hi hj hij e => ?_
 have h1 : ix L (j : Int) = some L[j] := ix_ltN hj
 have h2 : ix L (i : Int) = some L[j] := by rw [← e]; exact ix_ltN hi
 have := h.inj h1 h2
 omega
theorem Qu.le {M : List (Int × Int)} {L : List Int} {E : List En} (h : Qu M L E) {vs : List Int} (hv : ∀ x, qkey M E x ≠ none → x ∈ vs) : L.length ≤ vs.length := by
 have h1 : (L.map fun z => ((ix E z).map (·.item)).getD 0).Nodup := by
  refine List.pairwise_map.2 ?_
  have := h.hp.nodup
  refine List.Pairwise.imp_of_mem (R := (· ≠ ·)) (fun {a b} ha hb hab e => hab ?_) this
  obtain ⟨i, _, _, hi⟩ := A7 ha
  obtain ⟨j, _, _, hj⟩ := A7 hb
  obtain ⟨x, x1, _⟩ := h.hp i a hi
  obtain ⟨y, y1, _⟩ := h.hp j b hj
  refine h.item_inj ha hb x1 y1 ?_
  simpa [x1, y1] using e
 have := V0 h1 (S := vs) (fun x hx => by
  obtain ⟨a, ha, rfl⟩ := List.mem_map.1 hx
  obtain ⟨i, _, _, hi⟩ := A7 ha
  obtain ⟨e, e1, _⟩ := h.hp i a hi
  refine hv _ ?_
  have := (h.mem e.item a).2 ⟨ha, e, e1, rfl⟩
  simp [e1, qkey, this])
 simpa using this
theorem set_ok {M : List (Int × Int)} {L : List Int} {E : List En} (h : Qu M L E) (hb : L.length ≤ 999999) (item key t0 : Int) :
  ∃ M' L' E', m9 item key t0 L M E = some (M', L', E') ∧ Qu M' L' E' ∧ ∀ x, qkey M' E' x = if x = item then some key else qkey M E x := by
 unfold m9
 cases hm : mget M item with
 | some z =>
  simp only [Option.isSome_some, if_true, oB]
  obtain ⟨hz, e, e1, e2⟩ := (h.mem item z).1 hm
  obtain ⟨z0, z1, _⟩ := o6 e1
  obtain ⟨i, i0, i1, hi⟩ := A7 hz
  have hf : e.fat = i := by
   obtain ⟨f, f1, f2⟩ := h.hp i z hi
   rw [e1] at f1; cases f1; exact f2
  simp only [e1, oB, List.set_set]
  have hE : ∀ j, ix (E.set z.toNat (⟨e.item, key, w64 (t0 + 1), e.fat⟩ : En)) j = if j = z then some ⟨e.item, key, w64 (t0 + 1), e.fat⟩ else ix E j := by
   intro j
   by_cases hj : 0 ≤ j
   ·rw [Y0 z0 z1 hj]
   ·rw [H9 (by omega), H9 (by omega), if_neg (by omega)]
  have h1 : Hp L (E.set z.toNat (⟨e.item, key, w64 (t0 + 1), e.fat⟩ : En)) := by
   intro j y hy
   rw [hE]
   by_cases c : y = z
   ·subst c; exact ⟨_, if_pos rfl, hf.trans (h.hp.inj hi hy)⟩
   ·rw [if_neg c]; exact h.hp j y hy
  obtain ⟨L', E', k1, k2, k3⟩ := fix_ok (t0 := w64 (t0 + 1)) (M := M) h1 (i := e.fat) (by omega) (by omega) (by omega)
  have hq : Qu M L (E.set z.toNat (⟨e.item, key, w64 (t0 + 1), e.fat⟩ : En)) := ⟨h1, h.keys, fun x y => by
   rw [h.mem, hE]
   by_cases c : y = z
   ·subst c
    simp [e1]
   ·rw [if_neg c]⟩
  obtain ⟨q1, q2⟩ := hq.sme k2 k3
  refine ⟨M, L', E', by rw [k1]; rfl, q1, fun x => ?_⟩
  rw [q2]
  unfold qkey
  by_cases c : x = item
  ·subst c; rw [if_pos rfl, hm]; simp [hE]
  ·rw [if_neg c]
   cases hx : mget M x with
   | none => rfl
   | some y =>
    have : y ≠ z := fun q => by
     subst q
     obtain ⟨_, f, f1, f2⟩ := (h.mem x y).1 hx
     rw [e1] at f1; cases f1; exact c (f2.symm.trans e2)
    simp [hE, if_neg this]
 | none =>
  simp only [Option.isSome_none, Bool.false_eq_true, if_false, h.chk1, h.chk2, oB]
  have hn : (E.length : Int) ∉ L := fun q => by have := h.val q; simp at this
  have h1 : Hp L (E ++ [(⟨item, key, w64 (t0 + 1), 0⟩ : En)]) := fun i z hz => by
   obtain ⟨e, e1, e2⟩ := h.hp i z hz
   exact ⟨e, af4 e1, e2⟩
  obtain ⟨L', E', k1, k2, k3⟩ := push_ok (t0 := w64 (t0 + 1)) (M := mset M item (E.length : Int)) h1 (x := (E.length : Int)) ix_snoc_new hn hb
  refine ⟨_, L', E', by rw [k1]; rfl, ⟨k2, mset_nodup h.keys, fun x y => ?_⟩, fun x => ?_⟩
  ·rw [C9, k3.mem, k3.item, List.mem_append, List.mem_singleton, ac1]
   by_cases c : x = item
   ·subst c
    rw [if_pos rfl]
    by_cases d : y = (E.length : Int)
    ·rw [if_pos d]; simp [d]
    ·rw [if_neg d]
     constructor
     ·intro q; exact absurd (Option.some.inj q).symm d
     ·rintro ⟨a | a, b⟩
      ·exact absurd ((h.mem x y).2 ⟨a, b⟩) (by rw [hm]; simp)
      ·exact absurd a d
   ·rw [if_neg c, h.mem]
    by_cases d : y = (E.length : Int)
    ·rw [if_pos d]; subst d
     constructor
     ·rintro ⟨q, _⟩; exact absurd q hn
     ·rintro ⟨_, e, e1, e2⟩; cases e1; exact absurd e2.symm c
    ·rw [if_neg d]; simp [d]
  ·unfold qkey
   rw [C9]
   by_cases c : x = item
   ·rw [if_pos c, if_pos c]
    simp [k3.key, ac1]
   ·rw [if_neg c, if_neg c]
    cases hx : mget M x with
    | none => rfl
    | some y =>
     have : y ≠ (E.length : Int) := fun q => hn (by rw [← q]; exact ((h.mem x y).1 hx).1)
     simp [k3.key, ac1, if_neg this]
theorem take_ok {M : List (Int × Int)} {L : List Int} {E : List En} (h : Qu M L E) (hl : 0 < L.length) (hb : L.length ≤ 1000000) (t0 : Int) :
  ∃ M' L' E' it k, r8 t0 L M E = some (M', E', L', it, k, true) ∧ Qu M' L' E' ∧ qkey M E it = some k ∧ (∀ x, qkey M' E' x = if x = it then none else qkey M E x) ∧ L'.length + 1 = L.length := by
 unfold r8
 rw [if_neg (by omega)]
 obtain ⟨L', E', z, k1, k2, k3, k4⟩ := pop_ok (t0 := t0) (M := M) h.hp hl hb
 have hz : z ∈ L := (k3.mem z).1 (by simp)
 obtain ⟨i, _, _, hi⟩ := A7 hz
 obtain ⟨e, e1, e2⟩ := h.hp i z hi
 obtain ⟨f, f1, f2, f3⟩ := k3.e z e e1
 have hm := (h.mem e.item z).2 ⟨hz, e, e1, rfl⟩
 refine ⟨mdel M f.item, L', E', f.item, f.key, by simp only [k1, oB, f1], ⟨k2, List.Nodup.sublist (mdel_sub.map _) h.keys, fun x y => ?_⟩, ?_, fun x => ?_, ?_⟩
 ·rw [mget_mdel h.keys]
  by_cases c : x = f.item
  ·rw [if_pos c]
   constructor
   ·intro q; cases q
   ·rintro ⟨a, b⟩
    have := (h.mem x y).2 ⟨(k3.mem y).1 (by simp [a]), (k3.item y x).1 b⟩
    rw [c, f2, hm] at this
    cases this; exact absurd a k4
  ·rw [if_neg c, h.mem, ← k3.mem, k3.item, List.mem_append, List.mem_singleton]
   constructor
   ·rintro ⟨a | a, b⟩
    ·exact ⟨a, b⟩
    ·subst a
     obtain ⟨g, g1, g2⟩ := b
     rw [e1] at g1; cases g1
     exact absurd (g2.symm.trans f2.symm) c
   ·rintro ⟨a, b⟩; exact ⟨.inl a, b⟩
 ·unfold qkey; rw [f2, hm]; simp [e1, f3]
 ·unfold qkey
  rw [mget_mdel h.keys]
  by_cases c : x = f.item
  ·rw [if_pos c, if_pos c]; rfl
  ·rw [if_neg c, if_neg c]
   cases mget M x with
   | none => rfl
   | some y => simp [k3.key]
 ·have := k3.len; simpa using this
theorem same_set : x7 = m9 := rfl
end Ab
end
section
namespace Ab
open Go
abbrev MpI := List (Int × Int)
def J0 (g x : Int) : Prop := Go.bits .and .u32 x g = g
def cst (c : MpI) (x : Int) : Int := (mget c x).getD 0
inductive PthW (vs : List Int) (ms : List Mk) (g : Int) : Int → Int → Prop
 | goal {x : Int} (h : x ∈ vs) (hg : J0 g x) : PthW vs ms g x 0
 | step {x k : Int} {m : Mk} (h : x ∈ vs) (hm : m ∈ ms) (hc : canW m x) (hp : PthW vs ms g (tgtW m x) k) : PthW vs ms g x (k + m.cost)
structure Gr (vs : List Int) (ms : List Mk) : Prop where
 cl : ∀ x ∈ vs, ∀ m ∈ ms, canW m x → tgtW m x ∈ vs
 co : ∀ m ∈ ms, 0 ≤ m.cost ∧ m.cost ≤ 100
 ml : ms.length ≤ 40
 vl : vs.length ≤ 2000
structure Cd (vs : List Int) (ms : List Mk) (g : Int) (c : MpI) : Prop where
 dom : ∀ x ∈ vs, ∃ k, mget c x = some k ∧ 0 ≤ k ∧ k ≤ 1000000000 ∧ (k = 1000000000 ∨ PthW vs ms g x k)
 goal : ∀ x ∈ vs, J0 g x → mget c x = some 0
structure Iv (vs : List Int) (ms : List Mk) (g : Int) (c M : MpI) (L : List Int) (E : List En) (exc : Int → Prop) : Prop where
 cd : Cd vs ms g c
 qu : Qu M L E
 qk : ∀ x k, qkey M E x = some k → x ∈ vs ∧ mget c x = some k
 arc : ∀ x ∈ vs, ∀ m ∈ ms, canW m x → ¬ exc (tgtW m x) → qkey M E (tgtW m x) = none → cst c x ≤ cst c (tgtW m x) + m.cost
theorem Iv.len {vs : List Int} {ms : List Mk} {g : Int} {c M : MpI} {L : List Int} {E : List En} {exc : Int → Prop} (h : Iv vs ms g c M L E exc) : L.length ≤ vs.length :=
 h.qu.le fun x hx => by
  cases e : qkey M E x with
  | none => exact absurd e hx
  | some k => exact (h.qk x k e).1
def sm (vs : List Int) (c : MpI) : Nat := (vs.map fun x => (cst c x).toNat).sum
theorem sum_le {α : Type} {f g : α → Nat} : ∀ {l : List α}, (∀ x ∈ l, f x ≤ g x) → (l.map f).sum ≤ (l.map g).sum
 | [], _ => by simp
 | x :: l, h => by
  have h1 := h x (by simp)
  have h2 := sum_le (l := l) fun y hy => h y (List.mem_cons_of_mem _ hy)
  simp only [List.map_cons, List.sum_cons]; omega
theorem sum_lt {α : Type} {f g : α → Nat} : ∀ {l : List α}, (∀ x ∈ l, f x ≤ g x) → (∃ x ∈ l, f x < g x) → (l.map f).sum < (l.map g).sum
 | [], _, h => by simp at h
 | x :: l, h, ⟨y, hy, hlt⟩ => by
  have h1 := h x (by simp)
  have h2 := sum_le (l := l) fun y hy => h y (List.mem_cons_of_mem _ hy)
  simp only [List.map_cons, List.sum_cons]
  rcases List.mem_cons.1 hy with rfl | hy
  ·omega
  ·have := sum_lt (l := l) (fun y hy => h y (List.mem_cons_of_mem _ hy)) ⟨y, hy, hlt⟩
   omega
theorem ac5 {c : MpI} {x v : Int} (z : Int) : cst (mset c x v) z = if z = x then v else cst c z := by
 unfold cst; rw [C9]; split <;> rfl
theorem sm_lt {vs : List Int} {c : MpI} {x v : Int} (hx : x ∈ vs) (h0 : 0 ≤ v) (hv : v < cst c x) : sm vs (mset c x v) < sm vs c := by
 refine sum_lt (fun z _ => ?_) ⟨x, hx, ?_⟩
 ·rw [ac5]
  split
  ·rename_i e; subst e; omega
  ·exact Nat.le_refl _
 ·rw [ac5, if_pos rfl]; omega
theorem relax_ok {vs : List Int} {ms : List Mk} {g : Int} {c M : MpI} {L : List Int} {E : List En} {exc : Int → Prop} (hg : Gr vs ms) (h : Iv vs ms g c M L E exc) {x v : Int} (hx : x ∈ vs) (h0 : 0 ≤ v) (hv : v < cst c x) (hp : PthW vs ms g x v) (t0 : Int) :
  ∃ M' L' E', m9 x v t0 L M E = some (M', L', E') ∧ Iv vs ms g (mset c x v) M' L' E' exc ∧ ∀ z, qkey M' E' z = if z = x then some v else qkey M E z := by
 have hlen := h.len
 have hvl := hg.vl
 obtain ⟨M', L', E', k1, k2, k3⟩ := set_ok h.qu (by omega) x v t0
 refine ⟨M', L', E', k1, ⟨⟨fun z hz => ?_, fun z hz hgz => ?_⟩, k2, fun z k hk => ?_, fun z hz m hm hc he hq => ?_⟩, k3⟩
 ·rw [C9]
  by_cases e : z = x
  ·subst e
   obtain ⟨k, q1, q2, q3, _⟩ := h.cd.dom z hz
   have : cst c z = k := by unfold cst; rw [q1]; rfl
   exact ⟨v, if_pos rfl, h0, by omega, .inr hp⟩
  ·rw [if_neg e]; exact h.cd.dom z hz
 ·rw [C9]
  by_cases e : z = x
  ·subst e
   have : cst c z = 0 := by unfold cst; rw [h.cd.goal z hz hgz]; rfl
   omega
  ·rw [if_neg e]; exact h.cd.goal z hz hgz
 ·rw [k3] at hk
  rw [C9]
  by_cases e : z = x
  ·rw [if_pos e] at hk ⊢; cases hk; exact ⟨by rw [e]; exact hx, rfl⟩
  ·rw [if_neg e] at hk ⊢; exact h.qk z k hk
 ·rw [k3] at hq
  by_cases e : tgtW m z = x
  ·rw [if_pos e] at hq; cases hq
  ·rw [if_neg e] at hq
   have := h.arc z hz m hm hc he hq
   rw [ac5, ac5, if_neg e]
   by_cases f : z = x
   ·rw [if_pos f]; subst f; omega
   ·rw [if_neg f]; exact this
abbrev Bkm := List (Int × List q9)
def BkOk (vs : List Int) (ms : List Mk) (b : Bkm) : Prop := ∀ y a, a ∈ rowM b y ↔ ∃ x ∈ vs, ∃ m ∈ ms, canW m x ∧ tgtW m x = y ∧ a = ⟨x, m.cost⟩
abbrev St5 := MpI × MpI × List En × Int × List Int
theorem relax_all {vs : List Int} {ms : List Mk} {g : Int} {b : Bkm} {c M : MpI} {L : List Int} {E : List En} {y k : Int} (hg : Gr vs ms) (hb : BkOk vs ms b) (h : Iv vs ms g c M L E (· = y)) (hy : y ∈ vs) (hk : mget c y = some k) (hq : qkey M E y = none) (t0 : Int) (bb : Bool) :
  ∃ s : St5, forR 0 ((rowM b y).length : Int) (F4 b (M, E, L, y, k, bb)) (c, M, E, t0, L) = some s ∧ Iv vs ms g s.1 s.2.1 s.2.2.2.2 s.2.2.1 (fun _ => False) ∧ ((sm vs s.1 = sm vs c ∧ s.2.2.2.2 = L) ∨ sm vs s.1 < sm vs c) := by
 obtain ⟨s, h1, h2, h3, h4, h5, h6⟩ := y5 (body := F4 b (M, E, L, y, k, bb)) (n := ((rowM b y).length : Int)) (s := ((c, M, E, t0, L) : St5))
  (fun j s => Iv vs ms g s.1 s.2.1 s.2.2.2.2 s.2.2.1 (· = y) ∧ mget s.1 y = some k ∧ qkey s.2.1 s.2.2.1 y = none ∧ (∀ i a, i < j → ix (rowM b y) i = some a → cst s.1 a.ffrom ≤ k + a.cost) ∧ ((sm vs s.1 = sm vs c ∧ s.2.2.2.2 = L) ∨ sm vs s.1 < sm vs c)) (by omega)
  ⟨h, hk, hq, fun i a hi ha => by have := (o6 ha).1; omega, .inl ⟨rfl, rfl⟩⟩ (fun j s j0 j1 hP => by
   obtain ⟨c', M', E', t', L'⟩ := s
   obtain ⟨p1, p2, p3, p4, p5⟩ := hP
   simp only at p1 p2 p3 p4 p5
   obtain ⟨a, ha, _⟩ := n8 (l := rowM b y) j0 j1
   obtain ⟨x, hx, m, hm, hc, hty, rfl⟩ := (hb y a).1 (z8 ha)
   have hco := hg.co m hm
   obtain ⟨k', q1, q2, q3, q4⟩ := p1.cd.dom y hy
   rw [p2] at q1; cases q1
   have hw : w64 (k + m.cost) = k + m.cost := A6 (by omega) (by omega)
   unfold F4
   simp only [ha, oB, hw]
   have hcx : Option.getD (mget c' x) 0 = cst c' x := rfl
   rw [hcx]
   by_cases cc : k + m.cost < cst c' x
   ·rw [if_pos cc]
    have hpy : PthW vs ms g y k := by
     rcases q4 with q4 | q4
     ·obtain ⟨k2, r1, r2, r3, _⟩ := p1.cd.dom x hx
      have : cst c' x = k2 := by unfold cst; rw [r1]; rfl
      omega
     ·exact q4
    have hxy : x ≠ y := fun e => by
     subst e
     have : cst c' x = k := by unfold cst; rw [p2]; rfl
     omega
    obtain ⟨M2, L2, E2, k1, k2, k3⟩ := relax_ok hg p1 hx (by omega) cc (.step hx hm hc (by rw [hty]; exact hpy)) t'
    rw [same_set, k1]
    have hsm := sm_lt (vs := vs) (c := c') hx (by omega) cc
    refine ⟨_, rfl, k2, ?_, ?_, fun i a' hi ha' => ?_, .inr (by simp only; rcases p5 with p5 | p5 <;> omega)⟩
    ·simp only [C9]; rw [if_neg (Ne.symm hxy)]; exact p2
    ·simp only [k3]; rw [if_neg (Ne.symm hxy)]; exact p3
    ·simp only [ac5]
     by_cases e : i = j
     ·subst e; rw [ha] at ha'; cases ha'; simp
     ·have := p4 i a' (by omega) ha'
      split
      ·rename_i f; rw [f] at this; omega
      ·exact this
   ·rw [if_neg cc]
    refine ⟨_, rfl, p1, p2, p3, fun i a' hi ha' => ?_, p5⟩
    by_cases e : i = j
    ·subst e; rw [ha] at ha'; cases ha'; simp only; omega
    ·exact p4 i a' (by omega) ha')
 refine ⟨s, h1, ⟨h2.cd, h2.qu, h2.qk, fun x hx m hm hc _ hqn => ?_⟩, h6⟩
 by_cases e : tgtW m x = y
 ·have hmem := (hb y ⟨x, m.cost⟩).2 ⟨x, hx, m, hm, hc, e, rfl⟩
  obtain ⟨i, i0, i1, hi⟩ := A7 hmem
  have := h5 i _ i1 hi
  change cst s.1 x ≤ k + m.cost at this
  rw [e]
  have e2 : cst s.1 y = k := by unfold cst; rw [h3]; rfl
  omega
 ·exact h2.arc x hx m hm hc e hqn
structure Best (vs : List Int) (ms : List Mk) (g : Int) (c : MpI) : Prop where
 cd : Cd vs ms g c
 least : ∀ x k, PthW vs ms g x k → cst c x ≤ k
theorem main_ok {vs : List Int} {ms : List Mk} {g : Int} {b : Bkm} {c M : MpI} {L : List Int} {E : List En} (hg : Gr vs ms) (hb : BkOk vs ms b) (h : Iv vs ms g c M L E fun _ => False) (t0 : Int) :
  ∃ r, Loop (F1 b) (c, M, E, t0, L) = some r ∧ Best vs ms g r := by
 have hvl := hg.vl
 refine T3 (body := F1 b) (s := ((c, M, E, t0, L) : St5)) (fun s : St5 => Iv vs ms g s.1 s.2.1 s.2.2.2.2 s.2.2.1 fun _ => False) (fun r => Best vs ms g r)
  (fun s => sm vs s.1 * 2001 + s.2.2.2.2.length) h ?_
 rintro ⟨c, M, E, t, L⟩ p
 simp only at p
 have hlen := p.len
 unfold F1
 simp only [y6, oB]
 by_cases cl : 0 < L.length
 ·rw [if_pos (by omega)]
  obtain ⟨M', L', E', y, k, k1, k2, k3, k4, k5⟩ := take_ok p.qu cl (by omega) t
  obtain ⟨hy, hk⟩ := p.qk y k k3
  have h' : Iv vs ms g c M' L' E' (· = y) := ⟨p.cd, k2, fun x k hx => by
    rw [k4] at hx
    by_cases e : x = y
    ·rw [if_pos e] at hx; cases hx
    ·rw [if_neg e] at hx; exact p.qk x k hx, fun x hx m hm hc he hq => by
    rw [k4, if_neg he] at hq
    exact p.arc x hx m hm hc (fun q => q) hq⟩
  obtain ⟨s, s1, s2, s3⟩ := relax_all hg hb h' hy hk (by rw [k4, if_pos rfl]) t true
  have hl2 := s2.len
  simp only [k1, oB, s1]
  refine .inl ⟨s, rfl, s2, ?_⟩
  change sm vs s.1 * 2001 + s.2.2.2.2.length < sm vs c * 2001 + L.length
  rcases s3 with ⟨s3, s4⟩ | s3
  ·rw [s3, s4]; omega
  ·omega
 ·rw [if_neg (by omega)]
  refine .inr ⟨c, rfl, p.cd, ?_⟩
  have hL : L = [] := List.eq_nil_of_length_eq_zero (by omega)
  have hq : ∀ x, qkey M E x = none := fun x => by
   unfold qkey
   cases e : mget M x with
   | none => rfl
   | some z => have := ((p.qu.mem x z).1 e).1; rw [hL] at this; cases this
  intro x k hp
  induction hp with
  | goal hx hgx => unfold cst; rw [p.cd.goal _ hx hgx]; simp
  | step hx hm hc hp ih =>
   have := p.arc _ hx _ hm hc (fun q => q) (hq _)
   omega
theorem rowM_mset {b : Bkm} {k : Int} {v : List q9} (y : Int) : rowM (mset b k v) y = if y = k then v else rowM b y := by
 unfold rowM; rw [C9]; split <;> rfl
theorem back_ok {ms : List Mk} {b : Bkm} {x : Int} (hml : ms.length ≤ 40) {B : Nat} (hB : ∀ y, (rowM b y).length ≤ B) (hB' : B ≤ 1000000) :
  ∃ b', J5 ms b x = some b' ∧ (∀ y, (rowM b' y).length ≤ B + 40) ∧ ∀ y a, a ∈ rowM b' y ↔ a ∈ rowM b y ∨ ∃ m ∈ ms, canW m x ∧ tgtW m x = y ∧ a = ⟨x, m.cost⟩ := by
 unfold J5
 obtain ⟨b', h1, h2, h3⟩ := y5 (body := J4 ms x) (n := (ms.length : Int)) (s := b)
  (fun j c => (∀ y, ((rowM c y).length : Int) ≤ B + j) ∧ ∀ y a, a ∈ rowM c y ↔ a ∈ rowM b y ∨ ∃ i m, i < j ∧ ix ms i = some m ∧ canW m x ∧ tgtW m x = y ∧ a = ⟨x, m.cost⟩) (by omega)
  ⟨fun y => by have := hB y; omega, fun y a => ⟨.inl, fun q => by
   rcases q with q | ⟨i, m, hi, hm, _⟩
   ·exact q
   ·have := (o6 hm).1; omega⟩⟩ (fun j c j0 j1 hP => by
   obtain ⟨p1, p2⟩ := hP
   obtain ⟨m, hm, _⟩ := n8 j0 j1
   unfold J4
   simp only [hm, oB]
   by_cases c1 : Go.bits .and .u32 x m.pre = m.pre
   ·rw [if_pos c1]
    have ee : Go.bits .or .u32 (Go.bits .andNot .u32 x m.del) m.add = tgtW m x := rfl
    rw [ee]
    have hl := p1 (tgtW m x)
    have ha : app 16 (rowM c (tgtW m x)) [(⟨x, m.cost⟩ : q9)] = some (rowM c (tgtW m x) ++ [⟨x, m.cost⟩]) := by unfold app; rw [if_pos (by simp; omega)]
    simp only [ha, oB]
    refine ⟨_, rfl, fun y => ?_, fun y a => ?_⟩
    ·rw [rowM_mset]
     split
     ·simp; omega
     ·have := p1 y; omega
    ·rw [rowM_mset]
     have key : (∃ i m', i < j + 1 ∧ ix ms i = some m' ∧ canW m' x ∧ tgtW m' x = y ∧ a = ⟨x, m'.cost⟩) ↔ (∃ i m', i < j ∧ ix ms i = some m' ∧ canW m' x ∧ tgtW m' x = y ∧ a = ⟨x, m'.cost⟩) ∨ (tgtW m x = y ∧ a = ⟨x, m.cost⟩) := by
      constructor
      ·rintro ⟨i, m', q1, q2, q3, q4, q5⟩
       by_cases e : i = j
       ·subst e; rw [hm] at q2; cases q2; exact .inr ⟨q4, q5⟩
       ·exact .inl ⟨i, m', by omega, q2, q3, q4, q5⟩
      ·rintro (⟨i, m', q1, q2⟩ | ⟨q1, q2⟩)
       ·exact ⟨i, m', by omega, q2⟩
       ·exact ⟨j, m, by omega, hm, c1, q1, q2⟩
     rw [key]
     by_cases e : y = tgtW m x
     ·rw [if_pos e, List.mem_append, List.mem_singleton, ← e, p2]
      simp [or_assoc]
     ·rw [if_neg e, p2]
      have : ¬ tgtW m x = y := fun q => e q.symm
      simp [this]
   ·rw [if_neg c1]
    refine ⟨_, rfl, fun y => by have := p1 y; omega, fun y a => ?_⟩
    rw [p2]
    refine or_congr_right ⟨?_, ?_⟩
    ·rintro ⟨i, m', q1, q2⟩; exact ⟨i, m', by omega, q2⟩
    ·rintro ⟨i, m', q1, q2, q3, q4⟩
     by_cases e : i = j
     ·subst e; rw [hm] at q2; cases q2; exact absurd q3 c1
     ·exact ⟨i, m', by omega, q2, q3, q4⟩)
 refine ⟨b', by rw [h1]; rfl, fun y => by have := h2 y; omega, fun y a => ?_⟩
 rw [h3]
 refine or_congr_right ⟨?_, ?_⟩
 ·rintro ⟨i, m, _, q2, q3⟩; exact ⟨m, z8 q2, q3⟩
 ·rintro ⟨m, q2, q3⟩
  obtain ⟨i, _, i1, hi⟩ := A7 q2
  exact ⟨i, m, i1, hi, q3⟩
abbrev St6 := Bkm × MpI × MpI × List En × Int × List Int
theorem first_ok {vs : List Int} {ms : List Mk} (start g : Int) (hg : Gr vs ms) :
  ∃ s : St6, forR 0 (vs.length : Int) (F3 vs start g ms) ([], [], [], [], 0, []) = some s ∧ BkOk vs ms s.1 ∧ Iv vs ms g s.2.1 s.2.2.1 s.2.2.2.2.2 s.2.2.2.1 fun _ => False := by
 have hvl := hg.vl
 have hml := hg.ml
 obtain ⟨s, h1, h2, h3, h4, h5, h6⟩ := y5 (body := F3 vs start g ms) (n := (vs.length : Int)) (s := (([], [], [], [], 0, []) : St6))
  (fun j s => (∀ y a, a ∈ rowM s.1 y ↔ ∃ x ∈ vs.take j.toNat, ∃ m ∈ ms, canW m x ∧ tgtW m x = y ∧ a = ⟨x, m.cost⟩) ∧ (∀ y, (rowM s.1 y).length ≤ j.toNat * 40) ∧
   (∀ x, x ∈ vs.take j.toNat → mget s.2.1 x = some (if dec (J0 g x) = true then 0 else 1000000000)) ∧ Qu s.2.2.1 s.2.2.2.2.2 s.2.2.2.1 ∧ ∀ x, qkey s.2.2.1 s.2.2.2.1 x = if dec (x ∈ vs.take j.toNat ∧ J0 g x) = true then some 0 else none) (by omega)
  ⟨fun y a => by simp [rowM, mget], fun y => by simp [rowM, mget], by simp, Qu.nil, fun x => by simp [qkey, mget, dec]⟩ (fun j s j0 j1 hP => by
   obtain ⟨b, c, M, E, t, L⟩ := s
   obtain ⟨p1, p2, p3, p4, p5⟩ := hP
   simp only at p1 p2 p3 p4 p5
   obtain ⟨x, hx, gx⟩ := n8 j0 j1
   have hj : (j + 1).toNat = j.toNat + 1 := by omega
   have htk : vs.take (j + 1).toNat = vs.take j.toNat ++ [x] := by rw [hj, List.take_add_one, gx]; rfl
   have hlen : L.length ≤ vs.length := p4.le fun z hz => by
    rw [p5] at hz
    by_cases e : z ∈ vs.take j.toNat ∧ J0 g z
    ·exact List.mem_of_mem_take e.1
    ·rw [if_neg (by rw [p8 e]; simp)] at hz; exact absurd rfl hz
   obtain ⟨b', b1, b2, b3⟩ := back_ok (x := x) hml (B := j.toNat * 40) p2 (by omega)
   have hback : ∀ y a, a ∈ rowM b' y ↔ ∃ x ∈ vs.take (j + 1).toNat, ∃ m ∈ ms, canW m x ∧ tgtW m x = y ∧ a = ⟨x, m.cost⟩ := fun y a => by
    rw [b3, p1, htk]
    simp only [List.mem_append, List.mem_singleton, or_and_right, exists_or, exists_eq_left]
   have hrow : ∀ y, (rowM b' y).length ≤ (j + 1).toNat * 40 := fun y => by have := b2 y; omega
   unfold F3
   simp only [hx, oB, H3, z6]
   by_cases cg : Go.bits .and .u32 x g = g
   ·rw [if_pos cg]
    have cg' : J0 g x := cg
    obtain ⟨M', L', E', k1, k2, k3⟩ := set_ok p4 (by omega) x 0 t
    simp only [k1, oB, b1]
    refine ⟨_, rfl, hback, hrow, fun z hz => ?_, k2, fun z => ?_⟩
    ·simp only [C9]
     by_cases e : z = x
     ·subst e; rw [if_pos rfl, if_pos (j6 cg')]
     ·rw [if_neg e, if_neg e]
      refine p3 z ?_
      rw [htk] at hz; simp [e] at hz; exact hz
    ·simp only [k3, p5, htk]
     by_cases e : z = x
     ·subst e; rw [if_pos rfl, if_pos (j6 ⟨by simp, cg'⟩)]
     ·rw [if_neg e]
      have : (z ∈ vs.take j.toNat ++ [x] ∧ J0 g z) ↔ (z ∈ vs.take j.toNat ∧ J0 g z) := by simp [e]
      rw [I9 this]
   ·rw [if_neg cg]
    have cg' : ¬ J0 g x := cg
    simp only [oB, b1]
    refine ⟨_, rfl, hback, hrow, fun z hz => ?_, p4, fun z => ?_⟩
    ·simp only [C9]
     by_cases e : z = x
     ·subst e; rw [if_pos rfl, if_neg (by rw [p8 cg']; simp)]
     ·rw [if_neg e]
      refine p3 z ?_
      rw [htk] at hz; simp [e] at hz; exact hz
    ·simp only [p5, htk]
     have : (z ∈ vs.take j.toNat ++ [x] ∧ J0 g z) ↔ (z ∈ vs.take j.toNat ∧ J0 g z) := by
      constructor
      ·rintro ⟨q1, q2⟩
       rcases List.mem_append.1 q1 with q1 | q1
       ·exact ⟨q1, q2⟩
       ·simp at q1; subst q1; exact absurd q2 cg'
      ·rintro ⟨q1, q2⟩; exact ⟨List.mem_append_left _ q1, q2⟩
     rw [I9 this])
 have ht : vs.take (vs.length : Int).toNat = vs := by rw [Int.toNat_natCast, List.take_length]
 rw [ht] at h2 h4 h6
 have hc : ∀ x ∈ vs, ¬ J0 g x → mget s.2.1 x = some 1000000000 := fun x hx hn => by rw [h4 x hx, if_neg (by rw [p8 hn]; simp)]
 have hc0 : ∀ x ∈ vs, J0 g x → mget s.2.1 x = some 0 := fun x hx hn => by rw [h4 x hx, if_pos (j6 hn)]
 refine ⟨s, h1, h2, ⟨fun x hx => ?_, hc0⟩, h5, fun x k hk => ?_, fun x hx m hm hcan _ hq => ?_⟩
 ·by_cases e : J0 g x
  ·exact ⟨0, hc0 x hx e, by omega, by omega, .inr (.goal hx e)⟩
  ·exact ⟨1000000000, hc x hx e, by omega, by omega, .inl rfl⟩
 ·rw [h6] at hk
  by_cases e : x ∈ vs ∧ J0 g x
  ·rw [if_pos (j6 e)] at hk; cases hk; exact ⟨e.1, hc0 x e.1 e.2⟩
  ·rw [if_neg (by rw [p8 e]; simp)] at hk; cases hk
 ·have hy := hg.cl x hx m hm hcan
  rw [h6] at hq
  have hn : ¬ J0 g (tgtW m x) := fun q => by rw [if_pos (j6 ⟨hy, q⟩)] at hq; cases hq
  have h0 := (hg.co m hm).1
  unfold cst
  rw [hc _ hy hn, h4 x hx]
  simp only [Option.getD_some]
  split <;> omega
theorem costs_ok {vs : List Int} {ms : List Mk} (start g : Int) (hg : Gr vs ms) : ∃ c, K1 vs start g ms = some c ∧ Best vs ms g c := by
 unfold K1
 obtain ⟨s, s1, s2, s3⟩ := first_ok start g hg
 obtain ⟨r, r1, r2⟩ := main_ok hg s2 s3 s.2.2.2.2.1
 refine ⟨r, ?_, r2⟩
 obtain ⟨a, b, c, d, e, f⟩ := s
 simp only [E4, oB, s1]
 rw [r1]; rfl
end Ab
end
section
namespace Ab
open Go
def Val (t : d9) (plan : List Int) : Prop := ∀ x ∈ plan, (0 : Int) ≤ x ∧ x < t.operators.length
def w5 (t : d9) : List Int → Int
 | [] => 0
 | op :: r => w5 t r + (opAt t op).cost
def Few (t : d9) : Prop := ∃ l : List (List Int), l.Nodup ∧ l.length ≤ 2000 ∧ ∀ s, s ∈ l ↔ Rt t s
theorem ak0 {t : d9} (ht : i4 t) : ∀ {plan : List Int}, Val t plan → 0 ≤ w5 t plan
 | [], _ => by simp [w5]
 | op :: r, h => by
  have h1 := ak0 ht (plan := r) fun x hx => h x (List.mem_cons_of_mem _ hx)
  have h2 := h op (by simp)
  have h3 := (O6 ht h2.1 h2.2).2.1
  simp only [w5]; omega
section
variable {t : d9} {vs : List Int}
theorem pth_of (ht : i4 t) (hv : ∀ x, x ∈ vs ↔ Rwd t x) : ∀ {plan s : List Int}, Rt t s → Val t plan → F5 t s plan → PthW vs (mks t) (wd t.goal) (wd s) (w5 t plan)
 | [], s, hs, _, ⟨e, h1, h2⟩ => by
  simp only [ends, Option.some.injEq] at h1; subst h1
  exact .goal ((hv _).2 ⟨s, hs, rfl⟩) ((sub_word (hs.setN ht) ht.goal ht.n1).2 h2)
 | op :: r, s, hs, hp, ⟨e, h1, h2⟩ => by
  have h3 := hp op (by simp)
  simp only [ends] at h1
  split at h1
  ·rename_i hc
   have hc := k8.1 hc
   have ih := pth_of ht hv (plan := r) (hs.step h3.1 h3.2 hc) (fun x hx => hp x (List.mem_cons_of_mem _ hx)) ⟨e, h1, h2⟩
   rw [← tgtW_eq ht (hs.setN ht) h3.1 h3.2] at ih
   exact .step ((hv _).2 ⟨s, hs, rfl⟩) (mks_of h3.1 h3.2) ((ah6 ht (hs.setN ht) h3.1 h3.2).2 hc) ih
  ·cases h1
theorem plan_of (ht : i4 t) {x k : Int} (h : PthW vs (mks t) (wd t.goal) x k) : ∀ {s : List Int}, Rt t s → x = wd s → ∃ plan, Val t plan ∧ F5 t s plan ∧ w5 t plan = k := by
 induction h with
 | goal hx hg =>
  intro s hs e; subst e
  exact ⟨[], by simp [Val], ⟨s, rfl, (sub_word (hs.setN ht) ht.goal ht.n1).1 hg⟩, rfl⟩
 | step hx hm hc hp ih =>
  intro s hs e; subst e
  obtain ⟨op, h0, h1, rfl⟩ := mks_mem hm
  have hcan := (ah6 ht (hs.setN ht) h0 h1).1 hc
  obtain ⟨plan, p1, ⟨e, p2, p3⟩, p4⟩ := ih (hs.step h0 h1 hcan) (tgtW_eq ht (hs.setN ht) h0 h1)
  refine ⟨op :: plan, fun y hy => ?_, ⟨e, ?_, p3⟩, by simp [w5, p4, mkOf]⟩
  ·rcases List.mem_cons.1 hy with rfl | hy
   ·exact ⟨h0, h1⟩
   ·exact p1 y hy
  ·simp only [ends]; rw [if_pos (j6 hcan)]; exact p2
end
/-! ### A way that is not long -/
inductive Hop (vs : List Int) (ms : List Mk) (g : Int) : Nat → Int → Prop
 | goal {x : Int} (h : x ∈ vs) (hg : J0 g x) : Hop vs ms g 0 x
 | step {x : Int} {n : Nat} {m : Mk} (h : x ∈ vs) (hm : m ∈ ms) (hc : canW m x) (hp : Hop vs ms g n (tgtW m x)) : Hop vs ms g (n + 1) x
section
variable {vs : List Int} {ms : List Mk} {g : Int}
theorem Hop.of {x k : Int} (h : PthW vs ms g x k) : ∃ n, Hop vs ms g n x := by
 induction h with
 | goal hx hg => exact ⟨0, .goal hx hg⟩
 | step hx hm hc _ ih => obtain ⟨n, hn⟩ := ih; exact ⟨n + 1, .step hx hm hc hn⟩
theorem Hop.mem {n : Nat} {x : Int} (h : Hop vs ms g n x) : x ∈ vs := by cases h <;> assumption
theorem Hop.cost (hg : Gr vs ms) {n : Nat} {x : Int} (h : Hop vs ms g n x) : ∃ k, PthW vs ms g x k ∧ k ≤ 100 * n := by
 induction h with
 | goal hx hgx => exact ⟨0, .goal hx hgx, by omega⟩
 | step hx hm hc _ ih =>
  obtain ⟨k, k1, k2⟩ := ih
  have := hg.co _ hm
  exact ⟨_, .step hx hm hc k1, by push_cast; omega⟩
def MHop (vs : List Int) (ms : List Mk) (g : Int) (n : Nat) (x : Int) : Prop := Hop vs ms g n x ∧ ∀ m, m < n → ¬ Hop vs ms g m x
theorem MHop.of : ∀ {n : Nat} {x : Int}, Hop vs ms g n x → ∃ m, m ≤ n ∧ MHop vs ms g m x := by
 intro n
 induction n using Nat.strongRecOn with
 | _ n ih =>
  intro x h
  by_cases c : ∃ m, m < n ∧ Hop vs ms g m x
  ·obtain ⟨m, m1, m2⟩ := c
   obtain ⟨q, q1, q2⟩ := ih m m1 m2
   exact ⟨q, by omega, q2⟩
  ·exact ⟨n, Nat.le_refl _, h, fun m hm hh => c ⟨m, hm, hh⟩⟩
theorem MHop.chain : ∀ {n : Nat} {x : Int}, MHop vs ms g n x → ∃ l : List Int, l.length = n + 1 ∧ l.Nodup ∧ ∀ y ∈ l, y ∈ vs ∧ ∃ m, m ≤ n ∧ MHop vs ms g m y
 | 0, x, h => ⟨[x], rfl, by simp, fun y hy => by simp at hy; subst hy; exact ⟨h.1.mem, 0, Nat.le_refl _, h⟩⟩
 | n + 1, x, h => by
  cases h.1 with
  | @step _ _ m hx hm hc hp =>
   have h' : MHop vs ms g n (tgtW m x) := ⟨hp, fun q hq hh => h.2 (q + 1) (by omega) (.step hx hm hc hh)⟩
   obtain ⟨l, l1, l2, l3⟩ := MHop.chain h'
   refine ⟨x :: l, by simp [l1], List.nodup_cons.2 ⟨fun hxl => ?_, l2⟩, fun y hy => ?_⟩
   ·obtain ⟨_, q, q1, q2⟩ := l3 x hxl
    exact h.2 q (by omega) q2.1
   ·rcases List.mem_cons.1 hy with rfl | hy
    ·exact ⟨hx, n + 1, Nat.le_refl _, h⟩
    ·obtain ⟨y1, q, q1, q2⟩ := l3 y hy
     exact ⟨y1, q, by omega, q2⟩
theorem pth_small (hg : Gr vs ms) {x k : Int} (h : PthW vs ms g x k) : ∃ k', PthW vs ms g x k' ∧ k' ≤ 199900 := by
 obtain ⟨n, hn⟩ := Hop.of h
 obtain ⟨m, _, hm⟩ := MHop.of hn
 obtain ⟨l, l1, l2, l3⟩ := hm.chain
 have := V0 l2 (S := vs) fun y hy => (l3 y hy).1
 have hv := hg.vl
 obtain ⟨k', k1, k2⟩ := hm.1.cost hg
 exact ⟨k', k1, by omega⟩
end
theorem words_of {t : d9} (ht : i4 t) {vs : List Int} (hl : vs.length ≤ 2000) (hv : ∀ x, x ∈ vs ↔ Rwd t x) : Gr vs (mks t) := ⟨fun x hx m hm hc => (hv _).2 (((hv x).1 hx).next ht hm hc), fun m hm => by
 obtain ⟨op, h0, h1, rfl⟩ := mks_mem hm
 exact (O6 ht h0 h1).2, by simp [mks]; exact ht.ops, hl⟩
theorem few_of {t : d9} (ht : i4 t) {vs : List Int} (hn : vs.Nodup) (hl : vs.length ≤ 2000) (hv : ∀ x, x ∈ vs ↔ Rwd t x) : Few t := by
 obtain ⟨ss, h1, h2⟩ := states_of (t := t) (l := vs) fun x hx => (hv x).1 hx
 refine ⟨ss, ac9 (f := wd) (by rw [h1]; exact hn), ?_, fun s => ⟨h2 s, fun hs => ?_⟩⟩
 ·have := congrArg List.length h1
  simp only [List.length_map] at this; omega
 ·have : wd s ∈ ss.map wd := by rw [h1]; exact (hv _).2 ⟨s, hs, rfl⟩
  obtain ⟨s', s1, s2⟩ := List.mem_map.1 this
  rw [wd_inj ht (hs.setN ht) ((h2 s' s1).setN ht) s2.symm]; exact s1
theorem checked_spec (t : d9) : (¬ i4 t ∧ ∃ f, p9 t = some f ∧ f.code ≠ 0 ∧ A9 t = some (.inl (f.code, f.index))) ∨ (i4 t ∧ Many t ∧ A9 t = some (.inl (10, -7))) ∨
  (i4 t ∧ Few t ∧ ∃ vs : List Int, vs.Nodup ∧ vs.length ≤ 2000 ∧ (∀ x, x ∈ vs ↔ Rwd t x) ∧ A9 t = some (.inr (wd t.init, wd t.goal, mks t, vs))) := by
 obtain ⟨f, h1, _, h3⟩ := aa1 t
 unfold A9
 rw [h1]
 simp only [oB]
 rcases h3 with ⟨rfl, ht⟩ | ⟨hc, hn⟩
 ·rw [if_neg (by simp), of_eq ht]
  obtain ⟨l, b, a1, a2, a3⟩ := all_spec ht (wd t.goal)
  simp only [oB, a1]
  cases b with
  | false => exact .inr (.inl ⟨ht, a2 rfl, rfl⟩)
  | true =>
   obtain ⟨q1, q2, q3⟩ := a3 rfl
   obtain ⟨vs, v1, v2⟩ := sortW (l := l) (by omega) (fun x hx => by
    obtain ⟨s, s1, rfl⟩ := (q3 x).1 hx
    exact wd_u32 ht (s1.setN ht))
   have hv : ∀ x, x ∈ vs ↔ Rwd t x := fun x => v2.mem_iff.trans (q3 x)
   have hvn : vs.Nodup := v2.nodup_iff.2 q1
   have hvl : vs.length ≤ 2000 := by rw [v2.length_eq]; exact q2
   exact .inr (.inr ⟨ht, few_of ht hvn hvl hv, vs, hvn, hvl, hv, by simp [v1]⟩)
 ·rw [if_pos (by simp [hc])]
  exact .inl ⟨hn, f, rfl, hc, rfl⟩
inductive OptR (t : d9) : Int × i9 → Prop
 | bad {f : i9} (h : ¬ i4 t) (hf : p9 t = some f) (hc : f.code ≠ 0) : OptR t (0, f)
 | many (h : i4 t) (hm : Many t) : OptR t (0, ⟨10, -7⟩)
 | none (h : i4 t) (hf : Few t) (hn : ∀ plan, Val t plan → ¬ F5 t t.init plan) : OptR t (1000000000, ⟨0, 0⟩)
 | some {k : Int} {plan : List Int} (h : i4 t) (hf : Few t) (h0 : 0 ≤ k) (h1 : k ≤ 199900) (hv : Val t plan) (hw : F5 t t.init plan) (hk : w5 t plan = k) (hl : ∀ p, Val t p → F5 t t.init p → k ≤ w5 t p) : OptR t (k, ⟨0, 0⟩)
theorem P8 (t : d9) : ∃ r, A0 t = some r ∧ OptR t r := by
 unfold A0
 rcases checked_spec t with ⟨h, f, h1, h2, h3⟩ | ⟨h, h1, h2⟩ | ⟨ht, h1, vs, v1, v2, v3, h2⟩
 ·rw [h3]
  simp only [oB]
  rw [if_pos (by simp [h2])]
  exact ⟨_, rfl, .bad h h1 h2⟩
 ·rw [h2]
  simp only [oB]
  rw [if_pos (by simp)]
  exact ⟨_, rfl, .many h h1⟩
 ·rw [h2]
  simp only [oB]
  rw [if_neg (by simp)]
  have hg := words_of ht v2 v3
  obtain ⟨c, c1, c2⟩ := costs_ok (wd t.init) (wd t.goal) hg
  simp only [c1, oB, u9]
  have hi : wd t.init ∈ vs := (v3 _).2 ⟨_, .init, rfl⟩
  obtain ⟨k, k1, k2, k3, k4⟩ := c2.cd.dom _ hi
  have hck : cst c (wd t.init) = k := by unfold cst; rw [k1]; rfl
  refine ⟨_, rfl, ?_⟩
  rw [k1]
  simp only [Option.getD_some]
  by_cases e : ∃ k', PthW vs (mks t) (wd t.goal) (wd t.init) k'
  ·obtain ⟨k0, e⟩ := e
   obtain ⟨k', e1, e2⟩ := pth_small hg e
   have hle := c2.least _ _ e1
   rcases k4 with k4 | k4
   ·omega
   ·obtain ⟨plan, p1, p2, p3⟩ := plan_of ht k4 .init rfl
    refine .some ht h1 k2 (by omega) p1 p2 p3 fun p q1 q2 => ?_
    have := c2.least _ _ (pth_of ht v3 .init q1 q2)
    omega
  ·rcases k4 with rfl | k4
   ·exact .none ht h1 fun p q1 q2 => e ⟨_, pth_of ht v3 .init q1 q2⟩
   ·exact absurd ⟨_, k4⟩ e
end Ab
end
section
namespace Ab
open Go
def reqT (t : d9) (op : Int) : d9 := ⟨t.facts + 1, t.init, t.goal ++ [t.facts], t.operators.set op.toNat ⟨(opAt t op).pre, (opAt t op).add ++ [t.facts], (opAt t op).del, (opAt t op).cost⟩⟩
def forT (t : d9) (op : Int) : d9 := ⟨t.facts, t.init, t.goal, t.operators.take op.toNat ++ t.operators.drop (op.toNat + 1)⟩
theorem aa8 {l : List Int} (h : l.length ≤ 1000000) : k6 l = some l := by
 unfold k6 app
 rw [if_pos (by simp; omega)]; rfl
theorem SetN.len24 {l : List Int} {n : Int} (h : SetN l n) (hn : n ≤ 24) : l.length ≤ 24 := by have := h.len; omega
theorem cclone_body {t : d9} (ht : i4 t) {j : Int} (j0 : 0 ≤ j) (j1 : j < t.operators.length) : D0 t j (t.operators.take j.toNat) = some (t.operators.take (j + 1).toNat) := by
 have ho := O6 ht j0 j1
 have hx := ix_op j0 j1
 have ga := (o6 hx).2.2
 have hl := ht.ops
 have htk : t.operators.take (j + 1).toNat = t.operators.take j.toNat ++ [opAt t j] := by rw [show (j + 1).toNat = j.toNat + 1 by omega, List.take_add_one, ga]; rfl
 have h1 := ho.1.1.len24 ht.n1
 have h2 := ho.1.2.1.len24 ht.n1
 have h3 := ho.1.2.2.1.len24 ht.n1
 unfold D0
 simp only [hx, oB, aa8 (show (opAt t j).pre.length ≤ 1000000 by omega), aa8 (show (opAt t j).add.length ≤ 1000000 by omega), aa8 (show (opAt t j).del.length ≤ 1000000 by omega)]
 rw [app, if_pos (by simp; omega), htk]; rfl
theorem cclone_eq {t : d9} (ht : i4 t) : D9 t = some (t.init, t.goal, t.operators) := by
 unfold D9
 have h1 := ht.init.len24 ht.n1
 have h2 := ht.goal.len24 ht.n1
 simp only [aa8 (show t.init.length ≤ 1000000 by omega), aa8 (show t.goal.length ≤ 1000000 by omega), oB]
 obtain ⟨r, r1, rfl⟩ := y5 (body := D0 t) (n := (t.operators.length : Int)) (s := []) (fun j c => c = t.operators.take j.toNat) (by omega) (by simp) (fun j c j0 j1 hP => ⟨_, by rw [hP]; exact cclone_body ht j0 j1, rfl⟩)
 rw [r1, Int.toNat_natCast, List.take_length]; rfl
theorem clone_same : L6 = D9 := rfl
end Ab
end
section
namespace Ab
open Go
def up (n : Int) (s : List Int) (b : Bool) : List Int := s ++ if b = true then [n] else []
theorem X9 {n x : Int} {s : List Int} {b : Bool} : x ∈ up n s b ↔ x ∈ s ∨ b = true ∧ x = n := by
 unfold up; cases b <;> simp
theorem setN_up {n : Int} {s : List Int} {b : Bool} (h0 : 0 ≤ n) (h : SetN s n) : SetN (up n s b) (n + 1) := by
 refine ⟨?_, fun x hx => ?_⟩
 ·unfold up
  refine List.pairwise_append.2 ⟨h.1, by cases b <;> simp, fun a ha c hc => ?_⟩
  have := h.2 a ha
  cases b
  ·simp at hc
  ·simp at hc; omega
 ·rcases X9.1 hx with hx | ⟨_, rfl⟩
  ·have := h.2 x hx; omega
  ·omega
section
variable {t : d9} {op : Int}
theorem req_len : (reqT t op).operators.length = t.operators.length := by simp [reqT]
theorem ac6 (h0 : 0 ≤ op) (h1 : op < t.operators.length) {q : Int} (q0 : 0 ≤ q) : opAt (reqT t op) q = if q = op then ⟨(opAt t op).pre, (opAt t op).add ++ [t.facts], (opAt t op).del, (opAt t op).cost⟩ else opAt t q := by
 show ((t.operators.set op.toNat _)[q.toNat]?).getD noOp = _
 rw [List.getElem?_set]
 by_cases e : q = op
 ·subst e; rw [if_pos rfl, if_pos rfl, if_pos (by omega)]; rfl
 ·rw [if_neg e, if_neg (by omega)]; rfl
theorem pre_req (h0 : 0 ≤ op) (h1 : op < t.operators.length) {q : Int} (q0 : 0 ≤ q) : (opAt (reqT t op) q).pre = (opAt t q).pre := by
 rw [ac6 h0 h1 q0]; split
 ·rename_i e; rw [e]
 ·rfl
theorem del_req (h0 : 0 ≤ op) (h1 : op < t.operators.length) {q : Int} (q0 : 0 ≤ q) : (opAt (reqT t op) q).del = (opAt t q).del := by
 rw [ac6 h0 h1 q0]; split
 ·rename_i e; rw [e]
 ·rfl
theorem cost_req (h0 : 0 ≤ op) (h1 : op < t.operators.length) {q : Int} (q0 : 0 ≤ q) : (opAt (reqT t op) q).cost = (opAt t q).cost := by
 rw [ac6 h0 h1 q0]; split
 ·rename_i e; rw [e]
 ·rfl
theorem add_req (h0 : 0 ≤ op) (h1 : op < t.operators.length) {q x : Int} (q0 : 0 ≤ q) : x ∈ (opAt (reqT t op) q).add ↔ x ∈ (opAt t q).add ∨ q = op ∧ x = t.facts := by
 rw [ac6 h0 h1 q0]; split
 ·rename_i e; subst e; simp
 ·rename_i e; simp [e]
theorem can_req (ht : i4 t) (h0 : 0 ≤ op) (h1 : op < t.operators.length) {q : Int} (q0 : 0 ≤ q) (q1 : q < t.operators.length) {s : List Int} {b : Bool} : can (reqT t op) (up t.facts s b) q ↔ can t s q := by
 unfold can
 rw [pre_req h0 h1 q0]
 have hp := (O6 ht q0 q1).1.1
 refine ⟨fun h x hx => ?_, fun h x hx => X9.2 (.inl (h x hx))⟩
 rcases X9.1 (h x hx) with k | ⟨_, rfl⟩
 ·exact k
 ·have := hp.2 _ hx; omega
theorem aft_req (ht : i4 t) (h0 : 0 ≤ op) (h1 : op < t.operators.length) {q : Int} (q0 : 0 ≤ q) (q1 : q < t.operators.length) {s : List Int} {b : Bool} (hs : SetN s t.facts) : aft (reqT t op) (up t.facts s b) q = up t.facts (aft t s q) (b || decide (q = op)) := by
 obtain ⟨k1, k2, k3, k4⟩ := (O6 ht q0 q1).1
 refine ((setN_up ht.n0 (T8 t s q)).eq_of fun x x0 x1 => ?_).symm
 rw [add_req h0 h1 q0, del_req h0 h1 q0, X9, X9]
 unfold aft
 rw [B8]
 have d1 : t.facts ∉ (opAt t q).del := fun h => by have := k3.2 _ h; omega
 have d2 : t.facts ∉ (opAt t q).add := fun h => by have := k2.2 _ h; omega
 have d3 : t.facts ∉ s := fun h => by have := hs.2 _ h; omega
 by_cases e : x = t.facts
 ·subst e; simp [d1, d2, d3, or_comm]
 ·have : x < t.facts := by change x < t.facts + 1 at x1; omega
  simp [e, x0, this]
theorem ends_req (ht : i4 t) (h0 : 0 ≤ op) (h1 : op < t.operators.length) : ∀ {p s : List Int} {b : Bool}, SetN s t.facts → Val t p → ends (reqT t op) (up t.facts s b) p = (ends t s p).map fun e => up t.facts e (b || decide (op ∈ p))
 | [], s, b, _, _ => by simp [ends]
 | q :: p, s, b, hs, hv => by
  have hq := hv q (by simp)
  simp only [ends]
  rw [I9 (can_req ht h0 h1 hq.1 hq.2)]
  split
  ·rw [aft_req ht h0 h1 hq.1 hq.2 hs, ends_req ht h0 h1 (T8 t s q) (fun x hx => hv x (List.mem_cons_of_mem _ hx))]
   have : (b || decide (q = op) || decide (op ∈ p)) = (b || decide (op ∈ q :: p)) := by
    rw [Bool.or_assoc]; congr 1
    rw [← Bool.decide_or]; apply decide_eq_decide.2
    rw [List.mem_cons, eq_comm]
   rw [this]
  ·rfl
theorem works_req (ht : i4 t) (h0 : 0 ≤ op) (h1 : op < t.operators.length) {p s : List Int} {b : Bool} (hs : SetN s t.facts) (hv : Val t p) : F5 (reqT t op) (up t.facts s b) p ↔ F5 t s p ∧ (b = true ∨ op ∈ p) := by
 unfold F5
 rw [ends_req ht h0 h1 hs hv]
 have hg : ∀ x ∈ t.goal, x < t.facts := fun x hx => (ht.goal.2 x hx).2
 constructor
 ·rintro ⟨e, e1, e2⟩
  cases e' : ends t s p with
  | none => rw [e'] at e1; cases e1
  | some u =>
   rw [e'] at e1
   simp only [Option.map_some, Option.some.injEq] at e1
   subst e1
   have hu := ends_setN hs e'
   refine ⟨⟨u, rfl, fun x hx => ?_⟩, ?_⟩
   ·rcases X9.1 (e2 x (List.mem_append_left _ hx)) with k | ⟨_, rfl⟩
    ·exact k
    ·have := hg _ hx; omega
   ·rcases X9.1 (e2 t.facts (List.mem_append_right _ (by simp))) with k | ⟨k, _⟩
    ·have := hu.2 _ k; omega
    ·simpa using k
 ·rintro ⟨⟨u, u1, u2⟩, k⟩
  rw [u1]
  refine ⟨_, rfl, fun x hx => ?_⟩
  rcases List.mem_append.1 hx with hx | hx
  ·exact X9.2 (.inl (u2 x hx))
  ·exact X9.2 (.inr ⟨by simpa using k, by simpa using hx⟩)
theorem val_req {p : List Int} : Val (reqT t op) p ↔ Val t p := by unfold Val; rw [req_len]
theorem pcost_req (h0 : 0 ≤ op) (h1 : op < t.operators.length) : ∀ {p : List Int}, Val t p → w5 (reqT t op) p = w5 t p
 | [], _ => rfl
 | q :: p, hv => by
  simp only [w5]
  rw [cost_req h0 h1 (hv q (by simp)).1, pcost_req h0 h1 fun x hx => hv x (List.mem_cons_of_mem _ hx)]
theorem works_req0 (ht : i4 t) (h0 : 0 ≤ op) (h1 : op < t.operators.length) {p : List Int} (hv : Val t p) : F5 (reqT t op) (reqT t op).init p ↔ F5 t t.init p ∧ op ∈ p := by
 have := works_req ht h0 h1 (b := false) ht.init hv
 have e : up t.facts t.init false = (reqT t op).init := by simp [up, reqT]
 rw [e] at this; rw [this]; simp
theorem SetN.weak {l : List Int} {n m : Int} (h : SetN l n) (hm : n ≤ m) : SetN l m := ⟨h.1, fun x hx => by have := h.2 x hx; omega⟩
theorem req_ok (ht : i4 t) (h0 : 0 ≤ op) (h1 : op < t.operators.length) (hf : t.facts < 24) : i4 (reqT t op) where
 n0 := by have := ht.n0; show 0 ≤ t.facts + 1; omega
 n1 := by show t.facts + 1 ≤ 24; omega
 init := ht.init.weak (by show t.facts ≤ t.facts + 1; omega)
 goal := by
  have := setN_up (b := true) ht.n0 ht.goal
  simpa [up, reqT] using this
 ops := by rw [req_len]; exact ht.ops
 op := fun o ho => by
  obtain ⟨q, q0, q1, q2⟩ := A7 ho
  rw [req_len] at q1
  rw [ix_op q0 (by rw [req_len]; exact q1)] at q2
  cases q2
  obtain ⟨⟨k1, k2, k3, k4⟩, k5⟩ := O6 ht q0 q1
  have hle : t.facts ≤ (reqT t op).facts := by show t.facts ≤ t.facts + 1; omega
  refine ⟨⟨by rw [pre_req h0 h1 q0]; exact k1.weak hle, ?_, by rw [del_req h0 h1 q0]; exact k3.weak hle, fun x hx => ?_⟩, by unfold R6; rw [cost_req h0 h1 q0]; exact k5⟩
  ·rw [ac6 h0 h1 q0]
   split
   ·rename_i e; subst e
    have := setN_up (b := true) ht.n0 k2
    simpa [up, reqT] using this
   ·exact k2.weak hle
  ·rw [del_req h0 h1 q0]
   rcases (add_req h0 h1 q0).1 hx with hx | ⟨_, rfl⟩
   ·exact k4 x hx
   ·exact fun h => by have := k3.2 _ h; omega
theorem rt_req (ht : i4 t) (h0 : 0 ≤ op) (h1 : op < t.operators.length) {s : List Int} (h : Rt (reqT t op) s) : ∃ u b, Rt t u ∧ s = up t.facts u b := by
 induction h with
 | init => exact ⟨t.init, false, .init, by simp [up, reqT]⟩
 | @step s q h q0 q1 hc ih =>
  obtain ⟨u, b, hu, rfl⟩ := ih
  rw [req_len] at q1
  exact ⟨_, _, hu.step q0 q1 ((can_req ht h0 h1 q0 q1).1 hc), aft_req ht h0 h1 q0 q1 (hu.setN ht)⟩
theorem many_req (ht : i4 t) (h0 : 0 ≤ op) (h1 : op < t.operators.length) {l : List (List Int)} (hl : l.length ≤ 1000) (hm : ∀ s, Rt t s → s ∈ l) : ¬ Many (reqT t op) := by
 rintro ⟨m, m1, m2, m3⟩
 have := V0 m1 (S := l.map (up t.facts · false) ++ l.map (up t.facts · true)) fun s hs => by
  obtain ⟨u, b, hu, rfl⟩ := rt_req ht h0 h1 (m3 s hs)
  cases b
  ·exact List.mem_append_left _ (List.mem_map.2 ⟨u, hm u hu, rfl⟩)
  ·exact List.mem_append_right _ (List.mem_map.2 ⟨u, hm u hu, rfl⟩)
 simp at this
 omega
/-! ### Without the operator -/
def re (op q : Int) : Int := if q < op then q else q + 1
theorem for_len (h0 : 0 ≤ op) (h1 : op < t.operators.length) : ((forT t op).operators.length : Int) = t.operators.length - 1 := by
 simp only [forT, List.length_append, List.length_take, List.length_drop]; omega
theorem ad2 (h0 : 0 ≤ op) (h1 : op < t.operators.length) {q : Int} (q0 : 0 ≤ q) : opAt (forT t op) q = opAt t (re op q) := by
 show ((t.operators.take op.toNat ++ t.operators.drop (op.toNat + 1))[q.toNat]?).getD noOp = _
 unfold re opAt
 by_cases e : q < op
 ·rw [if_pos e, List.getElem?_append_left (by rw [List.length_take]; omega), List.getElem?_take_of_lt (by omega)]
 ·rw [if_neg e, List.getElem?_append_right (by rw [List.length_take]; omega), List.getElem?_drop, List.length_take]
  congr 2; omega
theorem re_ok (h0 : 0 ≤ op) (h1 : op < t.operators.length) {q : Int} (q0 : 0 ≤ q) (q1 : q < (forT t op).operators.length) : 0 ≤ re op q ∧ re op q < t.operators.length ∧ re op q ≠ op := by
 have := for_len h0 h1
 unfold re; split <;> omega
theorem ends_for (h0 : 0 ≤ op) (h1 : op < t.operators.length) : ∀ {p s : List Int}, Val (forT t op) p → ends (forT t op) s p = ends t s (p.map (re op))
 | [], s, _ => rfl
 | q :: p, s, hv => by
  have hq := hv q (by simp)
  have e1 : can (forT t op) s q = can t s (re op q) := by unfold can; rw [ad2 h0 h1 hq.1]
  have e2 : aft (forT t op) s q = aft t s (re op q) := by unfold aft; rw [ad2 h0 h1 hq.1]; rfl
  simp only [List.map_cons, ends, e1, e2]
  rw [ends_for h0 h1 fun x hx => hv x (List.mem_cons_of_mem _ hx)]
theorem works_for (h0 : 0 ≤ op) (h1 : op < t.operators.length) {p s : List Int} (hv : Val (forT t op) p) : F5 (forT t op) s p ↔ F5 t s (p.map (re op)) := by
 unfold F5; rw [ends_for h0 h1 hv]; rfl
theorem val_for (h0 : 0 ≤ op) (h1 : op < t.operators.length) {p : List Int} (hv : Val (forT t op) p) : Val t (p.map (re op)) ∧ op ∉ p.map (re op) := by
 refine ⟨fun x hx => ?_, fun hx => ?_⟩
 ·obtain ⟨q, hq, rfl⟩ := List.mem_map.1 hx
  have := re_ok h0 h1 (hv q hq).1 (hv q hq).2
  exact ⟨this.1, this.2.1⟩
 ·obtain ⟨q, hq, e⟩ := List.mem_map.1 hx
  exact (re_ok h0 h1 (hv q hq).1 (hv q hq).2).2.2 e
theorem of_for (h0 : 0 ≤ op) (h1 : op < t.operators.length) {p : List Int} (hv : Val t p) (hn : op ∉ p) : ∃ p', Val (forT t op) p' ∧ p'.map (re op) = p := by
 have hl := for_len h0 h1
 refine ⟨p.map fun q => if q < op then q else q - 1, fun x hx => ?_, ?_⟩
 ·obtain ⟨q, hq, rfl⟩ := List.mem_map.1 hx
  have := hv q hq
  have : q ≠ op := fun e => hn (e ▸ hq)
  split <;> omega
 ·rw [List.map_map]
  refine (List.map_congr_left fun q hq => ?_).trans (List.map_id p)
  have : q ≠ op := fun e => hn (e ▸ hq)
  simp only [Function.comp, re, id]
  by_cases c : q < op
  ·rw [if_pos c, if_pos c]
  ·rw [if_neg c, if_neg (by omega)]; omega
theorem pcost_for (h0 : 0 ≤ op) (h1 : op < t.operators.length) : ∀ {p : List Int}, Val (forT t op) p → w5 (forT t op) p = w5 t (p.map (re op))
 | [], _ => rfl
 | q :: p, hv => by
  simp only [List.map_cons, w5]
  rw [ad2 h0 h1 (hv q (by simp)).1, pcost_for h0 h1 fun x hx => hv x (List.mem_cons_of_mem _ hx)]
theorem for_ok (ht : i4 t) (h0 : 0 ≤ op) (h1 : op < t.operators.length) : i4 (forT t op) where
 n0 := ht.n0
 n1 := ht.n1
 init := ht.init
 goal := ht.goal
 ops := by have := for_len h0 h1; have := ht.ops; omega
 op := fun o ho => ht.op o (by
  rcases List.mem_append.1 ho with ho | ho
  ·exact List.mem_of_mem_take ho
  ·exact List.mem_of_mem_drop ho)
theorem rt_for (h0 : 0 ≤ op) (h1 : op < t.operators.length) {s : List Int} (h : Rt (forT t op) s) : Rt t s := by
 induction h with
 | init => exact .init
 | @step s q h q0 q1 hc ih =>
  have e1 : can (forT t op) s q = can t s (re op q) := by unfold can; rw [ad2 h0 h1 q0]
  have e2 : aft (forT t op) s q = aft t s (re op q) := by unfold aft; rw [ad2 h0 h1 q0]; rfl
  have := re_ok h0 h1 q0 q1
  rw [e2]
  exact ih.step this.1 this.2.1 (by rw [← e1]; exact hc)
theorem many_for (h0 : 0 ≤ op) (h1 : op < t.operators.length) (h : Many (forT t op)) : Many t := by
 obtain ⟨m, m1, m2, m3⟩ := h
 exact ⟨m, m1, m2, fun s hs => rt_for h0 h1 (m3 s hs)⟩
theorem few_many (hf : Few t) : ¬ Many t := by
 rintro ⟨m, m1, m2, m3⟩
 obtain ⟨l, l1, l2, l3⟩ := hf
 have := V0 m1 (S := l) fun s hs => (l3 s).2 (m3 s hs)
 omega
end
end Ab
end
section
namespace Ab
open Go
def LC (t : d9) (P : List Int → Prop) (k : Int) : Prop := (∀ p, P p → k ≤ w5 t p) ∧ 0 ≤ k ∧ ((k = 1000000000 ∧ ∀ p, ¬ P p) ∨ (k < 1000000000 ∧ ∃ p, P p ∧ w5 t p = k))
def Sol (t : d9) (s p : List Int) : Prop := Val t p ∧ F5 t s p
theorem LC.eq {t : d9} {P : List Int → Prop} {k k' : Int} (h : LC t P k) (h' : LC t P k') : k = k' := by
 obtain ⟨a1, a2, a3⟩ := h
 obtain ⟨b1, b2, b3⟩ := h'
 rcases a3 with ⟨a3, a4⟩ | ⟨a3, p, a4, a5⟩
 ·rcases b3 with ⟨b3, b4⟩ | ⟨b3, q, b4, b5⟩
  ·omega
  ·exact absurd b4 (a4 q)
 ·rcases b3 with ⟨b3, b4⟩ | ⟨b3, q, b4, b5⟩
  ·exact absurd a4 (b4 p)
  ·have := a1 q b4; have := b1 p a4; omega
theorem LC.fin {t : d9} {P : List Int → Prop} {k : Int} (h : LC t P k) : k < 1000000000 ↔ ∃ p, P p := by
 obtain ⟨a1, a2, ⟨a3, a4⟩ | ⟨a3, p, a4, a5⟩⟩ := h
 ·exact ⟨fun g => by omega, fun ⟨p, hp⟩ => absurd hp (a4 p)⟩
 ·exact ⟨fun _ => ⟨p, a4⟩, fun _ => a3⟩
theorem LC.inf {t : d9} {P : List Int → Prop} {k : Int} (h : LC t P k) : k = 1000000000 ↔ ∀ p, ¬ P p := by
 obtain ⟨a1, a2, ⟨a3, a4⟩ | ⟨a3, p, a4, a5⟩⟩ := h
 ·exact ⟨fun _ => a4, fun _ => a3⟩
 ·exact ⟨fun g => by omega, fun g => absurd a4 (g p)⟩
theorem LC.le {t : d9} {P : List Int → Prop} {k : Int} (h : LC t P k) : k ≤ 1000000000 := by
 obtain ⟨a1, a2, ⟨a3, a4⟩ | ⟨a3, p, a4, a5⟩⟩ := h <;> omega
theorem OptR.lc {t : d9} {r : Int × i9} (h : OptR t r) (hc : r.2.code = 0) : LC t (Sol t t.init) r.1 := by
 cases h with
 | bad _ _ hc' => exact absurd hc hc'
 | many => simp at hc
 | none h hf hn => exact ⟨fun p hp => absurd hp.2 (hn p hp.1), by simp, .inl ⟨rfl, fun p hp => hn p hp.1 hp.2⟩⟩
 | some h hf h0 h1 hv hw hk hl => exact ⟨fun p hp => hl p hp.1 hp.2, h0, .inr ⟨by simp only; omega, _, ⟨hv, hw⟩, hk⟩⟩
theorem OptR.mny {t : d9} {r : Int × i9} (h : OptR t r) (ht : i4 t) (hc : r.2.code ≠ 0) : Many t ∧ r = (0, ⟨10, -7⟩) := by
 cases h with
 | bad h => exact absurd ht h
 | many _ hm => exact ⟨hm, rfl⟩
 | none => simp at hc
 | some => simp at hc
theorem OptR.idx {t : d9} {r : Int × i9} (h : OptR t r) (hc : r.2.code = 0) : r.2 = ⟨0, 0⟩ := by
 cases h with
 | bad _ _ hc' => exact absurd hc hc'
 | many => simp at hc
 | none => rfl
 | some => rfl
section
variable {t : d9} {op : Int}
theorem lc_req (ht : i4 t) (h0 : 0 ≤ op) (h1 : op < t.operators.length) {k : Int} (h : LC (reqT t op) (Sol (reqT t op) (reqT t op).init) k) : LC t (fun p => Sol t t.init p ∧ op ∈ p) k := by
 have key : ∀ p, Sol (reqT t op) (reqT t op).init p ↔ Sol t t.init p ∧ op ∈ p := fun p => by
  unfold Sol
  constructor
  ·rintro ⟨a, b⟩
   have a := val_req.1 a
   have := (works_req0 ht h0 h1 a).1 b
   exact ⟨⟨a, this.1⟩, this.2⟩
  ·rintro ⟨⟨a, b⟩, c⟩
   exact ⟨val_req.2 a, (works_req0 ht h0 h1 a).2 ⟨b, c⟩⟩
 obtain ⟨a1, a2, a3⟩ := h
 refine ⟨fun p hp => ?_, a2, a3.imp (fun ⟨a, b⟩ => ⟨a, fun p hp => b p ((key p).2 hp)⟩) (fun ⟨a, p, b, c⟩ => ?_)⟩
 ·rw [← pcost_req h0 h1 hp.1.1]; exact a1 p ((key p).2 hp)
 ·have := (key p).1 b
  exact ⟨a, p, this, by rw [← pcost_req h0 h1 this.1.1]; exact c⟩
theorem lc_for (h0 : 0 ≤ op) (h1 : op < t.operators.length) {k : Int} (h : LC (forT t op) (Sol (forT t op) (forT t op).init) k) : LC t (fun p => Sol t t.init p ∧ op ∉ p) k := by
 have to : ∀ p, Sol (forT t op) (forT t op).init p → Sol t t.init (p.map (re op)) ∧ op ∉ p.map (re op) := fun p hp =>
  ⟨⟨(val_for h0 h1 hp.1).1, (works_for h0 h1 hp.1).1 hp.2⟩, (val_for h0 h1 hp.1).2⟩
 have fro : ∀ p, Sol t t.init p → op ∉ p → ∃ q, Sol (forT t op) (forT t op).init q ∧ q.map (re op) = p := fun p hp hn => by
  obtain ⟨q, q1, q2⟩ := of_for h0 h1 hp.1 hn
  exact ⟨q, ⟨q1, (works_for h0 h1 q1).2 (by rw [q2]; exact hp.2)⟩, q2⟩
 obtain ⟨a1, a2, a3⟩ := h
 refine ⟨fun p hp => ?_, a2, a3.imp (fun ⟨a, b⟩ => ⟨a, fun p hp => ?_⟩) (fun ⟨a, p, b, c⟩ => ⟨a, _, to p b, by rw [← pcost_for h0 h1 b.1]; exact c⟩)⟩
 ·obtain ⟨q, q1, rfl⟩ := fro p hp.1 hp.2
  rw [← pcost_for h0 h1 q1.1]; exact a1 q q1
 ·obtain ⟨q, q1, _⟩ := fro p hp.1 hp.2
  exact b q q1
/-! ### With and Without -/
theorem ac4 (t : d9) (op : Int) : ∃ f, C5 t op = some f ∧ x6 t op = some f ∧ X0 t op = some f ∧ ((f = ⟨0, 0⟩ ∧ i4 t ∧ 0 ≤ op ∧ op < t.operators.length) ∨ (f.code ≠ 0 ∧ ¬ (i4 t ∧ 0 ≤ op ∧ op < t.operators.length))) := by
 obtain ⟨f, h1, h2, h3⟩ := aa1 t
 unfold C5 x6 X0
 rw [h1, h2]
 simp only [oB, in_eq, at_eq]
 rcases h3 with ⟨rfl, ht⟩ | ⟨hc, hn⟩
 ·by_cases c : 0 ≤ op ∧ op < t.operators.length
  ·refine ⟨⟨0, 0⟩, ?_, ?_, ?_, .inl ⟨rfl, ht, c⟩⟩
   ·rw [if_neg (by simp), if_neg (by simp; omega)]
   ·rw [if_neg (by simp), if_neg (by simp; omega)]
   ·simp only [if_true, oB]
    rw [j6 (by omega)]; rfl
  ·refine ⟨⟨3, -6⟩, ?_, ?_, ?_, .inr ⟨by simp, fun h => c h.2⟩⟩
   ·rw [if_neg (by simp), if_pos (by simp; omega)]
   ·rw [if_neg (by simp), if_pos (by simp; omega)]
   ·simp only [if_true, oB]
    rw [p8 (by omega)]; rfl
 ·refine ⟨f, ?_, ?_, ?_, .inr ⟨hc, fun h => hn h.1⟩⟩
  ·rw [if_pos (by simp [hc])]
  ·rw [if_pos (by simp [hc])]
  ·rw [if_neg hc]; rfl
theorem require_eq (ht : i4 t) (h0 : 0 ≤ op) (h1 : op < t.operators.length) (hf : t.facts ≠ 24) : D7 t op = some (reqT t op, ⟨0, 0⟩) := by
 obtain ⟨f, _, k2, _, k4⟩ := ac4 t op
 rcases k4 with ⟨rfl, _⟩ | ⟨_, k4⟩
 ·have n0 := ht.n0; have n1 := ht.n1
  have l1 := ht.goal.len24 ht.n1
  have l2 := (O6 ht h0 h1).1.2.1.len24 ht.n1
  unfold D7
  rw [k2]
  simp only [oB]
  have a1 : app 8 t.goal [t.facts] = some (t.goal ++ [t.facts]) := by unfold app; rw [if_pos (by simp; omega)]
  have a2 : app 8 (opAt t op).add [t.facts] = some ((opAt t op).add ++ [t.facts]) := by unfold app; rw [if_pos (by simp; omega)]
  rw [if_neg (by simp), if_neg hf, cclone_eq ht]
  simp only [oB, ix_op h0 h1, a1, a2, A6 (show -9223372036854775808 ≤ t.facts + 1 by omega) (by omega)]
  rfl
 ·exact absurd ⟨ht, h0, h1⟩ k4
theorem forbid_eq (ht : i4 t) (h0 : 0 ≤ op) (h1 : op < t.operators.length) : K4 t op = some (forT t op, ⟨0, 0⟩) := by
 obtain ⟨f, _, k2, _, k4⟩ := ac4 t op
 rcases k4 with ⟨rfl, _⟩ | ⟨_, k4⟩
 ·have hl := ht.ops
  unfold K4
  rw [k2]
  simp only [oB]
  rw [if_neg (by simp), clone_same, cclone_eq ht]
  have hd : delL t.operators op (op + 1) = some (t.operators.take op.toNat ++ t.operators.drop (op.toNat + 1)) := by unfold delL; rw [if_pos ⟨h0, h1, rfl⟩]
  simp only [oB, A6 (show -9223372036854775808 ≤ op + 1 by omega) (by omega), hd]
  rfl
 ·exact absurd ⟨ht, h0, h1⟩ k4
inductive WithR (t : d9) (op : Int) : Int × i9 → Prop
 | bad {f : i9} (h : ¬ (i4 t ∧ 0 ≤ op ∧ op < t.operators.length)) (hc : f.code ≠ 0) (hf : X0 t op = some f) : WithR t op (0, f)
 | big (h : i4 t) (h0 : 0 ≤ op) (h1 : op < t.operators.length) (hf : t.facts = 24) : WithR t op (0, ⟨10, -8⟩)
 | opt {r : Int × i9} (h : i4 t) (h0 : 0 ≤ op) (h1 : op < t.operators.length) (hf : t.facts < 24) (hr : OptR (reqT t op) r) : WithR t op r
inductive OutR (t : d9) (op : Int) : Int × i9 → Prop
 | bad {f : i9} (h : ¬ (i4 t ∧ 0 ≤ op ∧ op < t.operators.length)) (hc : f.code ≠ 0) (hf : X0 t op = some f) : OutR t op (0, f)
 | opt {r : Int × i9} (h : i4 t) (h0 : 0 ≤ op) (h1 : op < t.operators.length) (hr : OptR (forT t op) r) : OutR t op r
theorem with_spec (t : d9) (op : Int) : ∃ r, F0 t op = some r ∧ WithR t op r := by
 obtain ⟨f, k1, k2, k3, k4⟩ := ac4 t op
 unfold F0
 rw [k1]
 simp only [oB]
 rcases k4 with ⟨rfl, ht, h0, h1⟩ | ⟨hc, hn⟩
 ·rw [if_neg (by simp)]
  by_cases e : t.facts = 24
  ·unfold D7
   rw [k2]
   simp only [oB]
   rw [if_neg (by simp), if_pos e]
   simp only [oB]
   rw [if_pos (by simp)]
   exact ⟨_, rfl, .big ht h0 h1 e⟩
  ·rw [require_eq ht h0 h1 e]
   obtain ⟨r, r1, r2⟩ := P8 (reqT t op)
   simp only [oB]
   rw [if_neg (by simp), r1]
   exact ⟨r, rfl, .opt ht h0 h1 (by have := ht.n1; omega) r2⟩
 ·rw [if_pos (by simp [hc])]
  exact ⟨_, rfl, .bad hn hc k3⟩
theorem ac8 (t : d9) (op : Int) : ∃ r, w8 t op = some r ∧ OutR t op r := by
 obtain ⟨f, k1, k2, k3, k4⟩ := ac4 t op
 unfold w8
 rw [k1]
 simp only [oB]
 rcases k4 with ⟨rfl, ht, h0, h1⟩ | ⟨hc, hn⟩
 ·rw [if_neg (by simp), forbid_eq ht h0 h1]
  obtain ⟨r, r1, r2⟩ := P8 (forT t op)
  simp only [oB]
  rw [if_neg (by simp), r1]
  exact ⟨r, rfl, .opt ht h0 h1 r2⟩
 ·rw [if_pos (by simp [hc])]
  exact ⟨_, rfl, .bad hn hc k3⟩
theorem WithR.lc {r : Int × i9} (h : WithR t op r) (hc : r.2.code = 0) : (i4 t ∧ 0 ≤ op ∧ op < t.operators.length) ∧ r.2 = ⟨0, 0⟩ ∧ LC t (fun p => Sol t t.init p ∧ op ∈ p) r.1 := by
 cases h with
 | bad _ hc' => exact absurd hc hc'
 | big => simp at hc
 | opt ht h0 h1 hf hr => exact ⟨⟨ht, h0, h1⟩, hr.idx hc, lc_req ht h0 h1 (hr.lc hc)⟩
theorem OutR.lc {r : Int × i9} (h : OutR t op r) (hc : r.2.code = 0) : (i4 t ∧ 0 ≤ op ∧ op < t.operators.length) ∧ r.2 = ⟨0, 0⟩ ∧ LC t (fun p => Sol t t.init p ∧ op ∉ p) r.1 := by
 cases h with
 | bad _ hc' => exact absurd hc hc'
 | opt ht h0 h1 hr => exact ⟨⟨ht, h0, h1⟩, hr.idx hc, lc_for h0 h1 (hr.lc hc)⟩
end
/-! ### The fixed task -/
theorem ah2 {t : d9} (ht : i4 t) {op : Int} : ∀ {p : List Int}, Val t p → op ∈ p → (opAt t op).cost ≤ w5 t p
 | [], _, h => by simp at h
 | q :: p, hv, h => by
  have h1 := ak0 ht (plan := p) fun x hx => hv x (List.mem_cons_of_mem _ hx)
  have h2 := hv q (by simp)
  have h3 := (O6 ht h2.1 h2.2).2.1
  simp only [w5]
  rcases List.mem_cons.1 h with rfl | h
  ·omega
  ·have := ah2 ht (p := p) (fun x hx => hv x (List.mem_cons_of_mem _ hx)) h
   omega
theorem step_few (s : List Int) (h : Rt n3 s) : s ∈ [[], [0], [1], [0, 1]] := by
 have hs := h.setN Q8
 have e : s = y7 (· ∈ s) 2 := hs.eq
 by_cases a : (0 : Int) ∈ s
 ·by_cases b : (1 : Int) ∈ s
  ·rw [(setN_nil 2 |>.1 |> fun _ => hs.1.ext (m := [0, 1]) (by simp) fun x => ?_)]
   ·simp
   ·have := hs.2 x
    constructor
    ·intro hx; have := this hx; simp only [n3] at this; simp; omega
    ·intro hx; simp at hx; rcases hx with rfl | rfl <;> assumption
  ·rw [hs.1.ext (m := [0]) (by simp) fun x => ?_]
   ·simp
   ·have := hs.2 x
    constructor
    ·intro hx
     have := this hx; simp only [n3] at this
     have : x ≠ 1 := fun e => b (e ▸ hx)
     simp; omega
    ·intro hx; simp at hx; rw [hx]; exact a
 ·by_cases b : (1 : Int) ∈ s
  ·rw [hs.1.ext (m := [1]) (by simp) fun x => ?_]
   ·simp
   ·have := hs.2 x
    constructor
    ·intro hx
     have := this hx; simp only [n3] at this
     have : x ≠ 0 := fun e => a (e ▸ hx)
     simp; omega
    ·intro hx; simp at hx; rw [hx]; exact b
  ·rw [hs.1.ext (m := []) (by simp) fun x => ?_]
   ·simp
   ·have := hs.2 x
    constructor
    ·intro hx
     have := this hx; simp only [n3] at this
     have : x ≠ 0 := fun e => a (e ▸ hx)
     have : x ≠ 1 := fun e => b (e ▸ hx)
     omega
    ·intro hx; simp at hx
theorem step_many : ¬ Many n3 := by
 rintro ⟨m, m1, m2, m3⟩
 have := V0 m1 (S := [[], [0], [1], [0, 1]]) fun s hs => step_few s (m3 s hs)
 simp at this; omega
theorem ai6 {op : Int} (h : op = 0 ∨ op = 1) : Sol n3 n3.init [op] := by
 refine ⟨fun x hx => ?_, aft n3 n3.init op, ?_, fun x hx => ?_⟩
 ·simp at hx; subst hx; simp only [n3, List.length_cons, List.length_nil]; omega
 ·simp only [ends]
  rw [if_pos (j6 (show can n3 n3.init op from fun x hx => by
   rcases h with rfl | rfl
   ·simpa [opAt, n3] using hx
   ·simp [opAt, n3] at hx))]
 ·refine B8.2 ?_
  simp [n3] at hx; subst hx
  rcases h with rfl | rfl <;> simp [n3, opAt]
theorem step_ne {p : List Int} (h : Sol n3 n3.init p) : ∃ q, q ∈ p ∧ (q = 0 ∨ q = 1) := by
 cases p with
 | nil =>
  obtain ⟨_, e, h1, h2⟩ := h
  simp only [ends, Option.some.injEq] at h1; subst h1
  have := h2 1 (by simp [n3])
  simp [n3] at this
 | cons q p =>
  refine ⟨q, by simp, ?_⟩
  have := h.1 q (by simp)
  simp only [n3, List.length_cons, List.length_nil] at this
  omega
theorem step_cost0 : (opAt n3 0).cost = 1 := rfl
theorem ah4 : (opAt n3 1).cost = 3 := rfl
theorem lc_of {t : d9} {P : List Int → Prop} {k : Int} {p : List Int} (h0 : 0 ≤ k) (h1 : k < 1000000000) (hp : P p) (hk : w5 t p = k) (hl : ∀ q, P q → k ≤ w5 t q) : LC t P k := ⟨hl, h0, .inr ⟨h1, p, hp, hk⟩⟩
theorem step_opt : A0 n3 = some (1, ⟨0, 0⟩) := by
 obtain ⟨r, r1, r2⟩ := P8 n3
 have hc : r.2.code = 0 := Classical.byContradiction fun hc => step_many (r2.mny Q8 hc).1
 have := (r2.lc hc).eq (lc_of (p := [0]) (k := 1) (by decide) (by decide) (ai6 (.inl rfl)) rfl fun q hq => by
  obtain ⟨x, hx, e⟩ := step_ne hq
  have := ah2 Q8 hq.1 hx
  rcases e with rfl | rfl
  ·rw [step_cost0] at this; exact this
  ·rw [ah4] at this; omega)
 rw [r1, ← r2.idx hc, ← this]
theorem step_with {op : Int} (h : op = 0 ∨ op = 1) : F0 n3 op = some (if op = 0 then 1 else 3, ⟨0, 0⟩) := by
 obtain ⟨r, r1, r2⟩ := with_spec n3 op
 have h01 : 0 ≤ op ∧ op < n3.operators.length := by simp only [n3, List.length_cons, List.length_nil]; omega
 have hc : r.2.code = 0 := Classical.byContradiction fun hc => by
  cases r2 with
  | bad hn => exact hn ⟨Q8, h01⟩
  | big _ _ _ hf => simp [n3] at hf
  | opt ht h0 h1 hf hr => exact many_req Q8 h01.1 h01.2 (l := [[], [0], [1], [0, 1]]) (by simp) step_few (hr.mny (req_ok ht h0 h1 hf) hc).1
 obtain ⟨_, k1, k2⟩ := r2.lc hc
 have hv := ai6 h
 have := k2.eq (lc_of (p := [op]) (k := if op = 0 then 1 else 3) (by split <;> omega) (by split <;> omega) ⟨hv, by simp⟩ (by rcases h with rfl | rfl <;> rfl) fun q hq => by
  have := ah2 Q8 hq.1.1 hq.2
  rcases h with rfl | rfl
  ·rw [step_cost0] at this; simpa using this
  ·rw [ah4] at this; simpa using this)
 rw [r1, ← k1, ← this]
theorem step_without : w8 n3 0 = some (3, ⟨0, 0⟩) := by
 obtain ⟨r, r1, r2⟩ := ac8 n3 0
 have h01 : (0 : Int) ≤ 0 ∧ (0 : Int) < n3.operators.length := by simp [n3]
 have hc : r.2.code = 0 := Classical.byContradiction fun hc => by
  cases r2 with
  | bad hn => exact hn ⟨Q8, h01⟩
  | opt ht h0 h1 hr => exact step_many (many_for h01.1 h01.2 (hr.mny (for_ok ht h0 h1) hc).1)
 obtain ⟨_, k1, k2⟩ := r2.lc hc
 have := k2.eq (lc_of (p := [1]) (k := 3) (by decide) (by decide) ⟨ai6 (.inr rfl), by simp⟩ rfl fun q hq => by
  obtain ⟨x, hx, e⟩ := step_ne hq.1
  have hm := ah2 Q8 hq.1.1 hx
  rcases e with rfl | rfl
  ·exact absurd hx hq.2
  ·rw [ah4] at hm; exact hm)
 rw [r1, ← k1, ← this]
theorem priced_true : G2 = some true := by
 unfold G2
 rw [show V1 = some n3 from rfl]
 simp only [oB]
 unfold Q6
 obtain ⟨f, k1, k2, k3, k4⟩ := ac4 n3 0
 rcases k4 with ⟨rfl, _⟩ | ⟨_, k4⟩
 ·rw [step_with (.inr rfl), step_with (.inl rfl), step_without, step_opt, k1]
  rfl
 ·exact absurd ⟨Q8, by simp [n3], by simp [n3]⟩ k4
end Ab
end
section
namespace Ab
open Go
theorem setOf_succ {q : Int → Prop} {j : Int} (h0 : 0 ≤ j) : y7 q (j + 1) = y7 q j ++ if dec (q j) = true then [j] else [] := by
 refine (U7 q (j + 1)).ext ?_ fun x => ?_
 ·refine List.pairwise_append.2 ⟨U7 _ _, by split <;> simp, fun a ha b hb => ?_⟩
  have := B8.1 ha
  split at hb
  ·simp at hb; omega
  ·cases hb
 ·rw [List.mem_append, B8, B8]
  by_cases hq : q j
  ·rw [if_pos (j6 hq)]
   simp only [List.mem_singleton]
   refine ⟨fun h => ?_, fun h => ?_⟩
   ·by_cases e : x = j
    ·exact .inr e
    ·exact .inl ⟨h.1, by omega, h.2.2⟩
   ·rcases h with h | rfl
    ·exact ⟨h.1, by omega, h.2.2⟩
    ·exact ⟨h0, by omega, hq⟩
  ·rw [if_neg (by simpa using hq)]
   simp only [List.not_mem_nil, or_false]
   refine ⟨fun h => ⟨h.1, ?_, h.2.2⟩, fun h => ⟨h.1, by omega, h.2.2⟩⟩
   rcases Int.lt_or_eq_of_le (Int.le_of_lt_add_one h.2.1) with e | e
   ·exact e
   ·rw [e] at h; exact absurd h.2.2 hq
theorem necessary_spec (t : d9) : ∃ l f, D3 t = some (l, f) ∧ ((¬ i4 t ∧ p9 t = some f ∧ f.code ≠ 0 ∧ l = []) ∨ (i4 t ∧ Many t ∧ f = ⟨10, -7⟩ ∧ l = []) ∨
  (i4 t ∧ Few t ∧ (∀ p, ¬ Sol t t.init p) ∧ f = ⟨15, -1⟩ ∧ l = []) ∨ (i4 t ∧ Few t ∧ (∃ p, Sol t t.init p) ∧ f = ⟨0, 0⟩ ∧ l = y7 (fun op => ∀ p, Sol t t.init p → op ∈ p) t.operators.length)) := by
 obtain ⟨f, h1, _, h3⟩ := aa1 t
 unfold D3
 rw [h1]
 simp only [oB]
 rcases h3 with ⟨rfl, ht⟩ | ⟨hc, hn⟩
 ·rw [if_neg (by simp)]
  obtain ⟨o, o1, o2⟩ := P8 t
  rw [o1]
  simp only [oB]
  by_cases c : o.2.code = 0
  ·have hl := o2.lc c
   have hf : Few t := by
    cases o2 with
    | bad h => exact absurd ht h
    | many => simp at c
    | none _ hf => exact hf
    | some _ hf => exact hf
   rw [o2.idx c, if_neg (by simp)]
   by_cases e : o.1 = 1000000000
   ·rw [if_pos e]
    exact ⟨_, _, rfl, .inr (.inr (.inl ⟨ht, hf, hl.inf.1 e, rfl, rfl⟩))⟩
   ·rw [if_neg e]
    have hle := hl.le
    have hops := ht.ops
    rcases ah7 (body := E0 t) (n := (t.operators.length : Int)) (s := []) (fun j c => c = y7 (fun op => ∀ p, Sol t t.init p → op ∈ p) j) (fun _ => False) (by omega) (by simp [y7, nums]) (fun j c j0 j1 hP => by
     obtain ⟨b, b1, b2⟩ := ac8 t j
     have hcb : b.2.code = 0 := Classical.byContradiction fun hc => by
      cases b2 with
      | bad hn => exact hn ⟨ht, j0, j1⟩
      | opt _ h0 h1 hr => exact few_many hf (many_for h0 h1 (hr.mny (for_ok ht h0 h1) hc).1)
     obtain ⟨_, k1, k2⟩ := b2.lc hcb
     unfold E0
     rw [b1]
     simp only [oB]
     rw [k1, if_neg (by simp)]
     have key : b.1 = 1000000000 ↔ ∀ p, Sol t t.init p → j ∈ p := by
      rw [k2.inf]
      exact ⟨fun h p hp => Classical.byContradiction fun hn => h p ⟨hp, hn⟩, fun h p hp => hp.2 (h p hp.1)⟩
     have hlen : c.length ≤ 40 := by rw [hP]; have := (X1 (fun op => ∀ p, Sol t t.init p → op ∈ p) j).len; omega
     rw [setOf_succ j0]
     by_cases q : b.1 = 1000000000
     ·rw [if_pos q, if_pos (j6 (key.1 q))]
      have : app 8 c [j] = some (c ++ [j]) := by unfold app; rw [if_pos (by simp; omega)]
      rw [this]
      exact .inl ⟨_, rfl, by rw [hP]⟩
     ·rw [if_neg q, if_neg (by rw [p8 fun h => q (key.2 h)]; simp)]
      exact .inl ⟨_, rfl, by rw [hP, List.append_nil]⟩) with ⟨s', r1, r2⟩ | ⟨_, _, r2⟩
    ·rw [r1]
     exact ⟨_, _, rfl, .inr (.inr (.inr ⟨ht, hf, hl.fin.1 (by omega), rfl, r2⟩))⟩
    ·exact r2.elim
  ·obtain ⟨hm, e⟩ := o2.mny ht c
   rw [if_pos (by simp [c]), e]
   exact ⟨_, _, rfl, .inr (.inl ⟨ht, hm, rfl, rfl⟩)⟩
 ·rw [if_pos (by simp [hc])]
  exact ⟨_, _, rfl, .inl ⟨hn, rfl, hc, rfl⟩⟩
end Ab
end
section
namespace Ab
open Go
structure Rf (t : d9) (l : List (List Int)) (w : List Int) : Prop where
 nd : l.Nodup
 rt : ∀ s ∈ l, Rt t s
 w : w = l.map fun s => (wsN s : Int)
 init : t.init ∈ l
 le : l.length ≤ 2000
theorem many_list {t : d9} {l : List (List Int)} (hn : l.Nodup) (h : ∀ s ∈ l, Rt t s) (hl : l.length = 2000) {s : List Int} (hs : Rt t s) (hsl : s ∉ l) : Many t :=
 ⟨l ++ [s], List.nodup_append.2 ⟨hn, by simp, fun a ha b hb e => by simp at hb; subst hb; subst e; exact hsl ha⟩, by simp [hl], fun x hx => by
  rcases List.mem_append.1 hx with hx | hx
  ·exact h x hx
  ·simp at hx; subst hx; exact hs⟩
theorem rreach_in {t : d9} (ht : i4 t) {l : List (List Int)} {w : List Int} (h : Rf t l w) {i : Int} {s : List Int} (hi : ix l i = some s) :
  (∃ l' w', rngX 0 (t.operators.length : Int) (z7 t i) (l, w) = some (.inl (l', w')) ∧ Rf t l' w' ∧ (∃ m, l' = l ++ m) ∧ Cls t l' s) ∨ (rngX 0 (t.operators.length : Int) (z7 t i) (l, w) = some (.inr ([], false)) ∧ Many t) := by
 have hrs := h.rt s (z8 hi)
 rcases ah7 (body := z7 t i) (n := (t.operators.length : Int)) (s := (l, w))
  (fun j c => Rf t c.1 c.2 ∧ (∃ m, c.1 = l ++ m) ∧ ∀ op : Int, 0 ≤ op → op < j → can t s op → aft t s op ∈ c.1) (fun o => o = ([], false) ∧ Many t) (by omega)
  ⟨h, ⟨[], by simp⟩, fun op h0 h1 => by omega⟩ (fun j c j0 j1 hP => by
   obtain ⟨l', w'⟩ := c
   obtain ⟨p1, ⟨m, rfl⟩, p3⟩ := hP
   simp only at p1 p3
   have hi' : ix (l ++ m) i = some s := by
    obtain ⟨h0, h1, h2⟩ := o6 hi
    rw [ix, if_pos h0, List.getElem?_append_left (by omega)]; exact h2
   have hsa := T8 t s j
   have step : ∀ c' : List (List Int) × List Int, (∀ x, x ∈ l ++ m → x ∈ c'.1) → (can t s j → aft t s j ∈ c'.1) → ∀ op : Int, 0 ≤ op → op < j + 1 → can t s op → aft t s op ∈ c'.1 := fun c' a b op h0 h1 hc => by
    by_cases e : op = j
    ·subst e; exact b hc
    ·exact a _ (p3 op h0 (by omega) hc)
   unfold z7
   simp only [hi', oB, applies_eq j0 j1]
   by_cases hc : can t s j
   ·simp only [j6 hc, Bool.not_true, Bool.false_eq_true, if_false, after_eq ht j0 j1, oB, word_eq hsa ht.n1, has_eq]
    have hmem : ((wsN (aft t s j) : Nat) : Int) ∈ w' ↔ aft t s j ∈ l ++ m := by
     rw [p1.w, List.mem_map]
     constructor
     ·rintro ⟨x, hx, e⟩
      have := ((p1.rt x hx).setN ht).word_inj hsa (by omega)
      rwa [← this]
     ·intro hx; exact ⟨_, hx, rfl⟩
    by_cases hm : aft t s j ∈ l ++ m
    ·rw [if_pos (j6 (hmem.2 hm))]
     exact .inl ⟨_, rfl, p1, ⟨m, rfl⟩, step (l ++ m, w') (fun _ h => h) (fun _ => hm)⟩
    ·rw [if_neg (by rw [p8 (fun q => hm (hmem.1 q))]; simp)]
     have hnr : Rt t (aft t s j) := hrs.step j0 j1 hc
     have hle := p1.le
     by_cases hl : (l ++ m).length = 2000
     ·rw [if_pos (by rw [hl]; rfl)]
      exact .inr ⟨_, rfl, rfl, many_list p1.nd p1.rt hl hnr hm⟩
     ·rw [if_neg (by omega)]
      have hw : w'.length = (l ++ m).length := by rw [p1.w]; simp
      have a1 : app 24 (l ++ m) [aft t s j] = some (l ++ m ++ [aft t s j]) := by unfold app; rw [if_pos (by simp only [List.length_singleton]; omega)]
      have a2 : app 8 w' [((wsN (aft t s j) : Nat) : Int)] = some (w' ++ [((wsN (aft t s j) : Nat) : Int)]) := by unfold app; rw [if_pos (by simp only [List.length_singleton]; omega)]
      simp only [a1, a2, oB]
      refine .inl ⟨_, rfl, ⟨?_, ?_, ?_, ?_, ?_⟩, ⟨m ++ [aft t s j], by simp⟩, step (_, _) (fun x hx => List.mem_append_left _ hx) (fun _ => by simp)⟩
      ·exact List.nodup_append.2 ⟨p1.nd, by simp, fun a ha b hb e => by simp at hb; subst hb; subst e; exact hm ha⟩
      ·intro x hx
       rcases List.mem_append.1 hx with hx | hx
       ·exact p1.rt x hx
       ·simp at hx; subst hx; exact hnr
      ·rw [p1.w]; simp
      ·exact List.mem_append_left _ p1.init
      ·simp only [List.length_append, List.length_singleton] at hl hle ⊢; omega
   ·simp only [p8 hc, Bool.not_false, if_true]
    exact .inl ⟨_, rfl, p1, ⟨m, rfl⟩, step (l ++ m, w') (fun _ h => h) (fun q => absurd q hc)⟩) with ⟨⟨l', w'⟩, h1, h2, h3, h4⟩ | ⟨o, h1, rfl, h2⟩
 ·exact .inl ⟨l', w', h1, h2, h3, fun op h0 h1 hc => h4 op h0 h1 hc⟩
 ·exact .inr ⟨h1, h2⟩
theorem ak1 {t : d9} (ht : i4 t) : ∃ l b, K5 t = some (l, b) ∧ (b = false → Many t) ∧ (b = true → l.Nodup ∧ l.length ≤ 2000 ∧ (∀ s, s ∈ l ↔ Rt t s) ∧ ix l 0 = some t.init) := by
 unfold K5 L9
 simp only [word_eq ht.init ht.n1, oB]
 obtain ⟨o, h1, h2⟩ := T3 (body := H4 t) (s := ([t.init], [((wsN t.init : Nat) : Int)], 0))
  (fun s => Rf t s.1 s.2.1 ∧ 0 ≤ s.2.2 ∧ s.2.2 ≤ s.1.length ∧ (∀ i x, i < s.2.2 → ix s.1 i = some x → Cls t s.1 x) ∧ ix s.1 0 = some t.init)
  (fun o => match o with | .inl l => l.Nodup ∧ l.length ≤ 2000 ∧ (∀ s, s ∈ l ↔ Rt t s) ∧ ix l 0 = some t.init | .inr x => x = ([], false) ∧ Many t)
  (fun s => 2001 - s.2.2.toNat) ⟨⟨by simp, fun s hs => by simp at hs; subst hs; exact .init, by simp, by simp, by simp⟩, Int.le_refl 0, by simp, fun i x hi hx => by have := (o6 hx).1; simp only at hi; omega, rfl⟩ (by
   rintro ⟨l, w, i⟩ ⟨p1, p2, p3, p4, p5⟩
   simp only at p1 p2 p3 p4 p5
   unfold H4
   have hle := p1.le
   by_cases c : i < (l.length : Int)
   ·simp only [if_pos c]
    obtain ⟨s, hs, _⟩ := n8 p2 c
    rcases rreach_in ht p1 hs with ⟨l', w', k1, k2, ⟨m, rfl⟩, k4⟩ | ⟨k1, k2⟩
    ·rw [k1]
     simp only [oB]
     have hw : w64 (i + 1) = i + 1 := A6 (by omega) (by omega)
     rw [hw]
     have hup : ∀ j x, ix l j = some x → ix (l ++ m) j = some x := fun j x hj => by
      obtain ⟨h0, h1, h2⟩ := o6 hj
      rw [ix, if_pos h0, List.getElem?_append_left (by omega)]; exact h2
     refine .inl ⟨_, rfl, ⟨k2, by simp only; omega, by simp; omega, fun j x hj hx => ?_, hup _ _ p5⟩, by simp only; omega⟩
     simp only at hj hx ⊢
     by_cases e : j = i
     ·subst e
      rw [hup _ _ hs] at hx; cases hx; exact k4
     ·have h0 := (o6 hx).1
      obtain ⟨y, hy, _⟩ := n8 (l := l) h0 (by omega)
      rw [hup _ _ hy] at hx; cases hx
      exact fun op g0 g1 hc => List.mem_append_left _ (p4 j _ (by omega) hy op g0 g1 hc)
    ·rw [k1]
     exact .inr ⟨_, rfl, rfl, k2⟩
   ·simp only [if_neg c]
    refine .inr ⟨.inl l, rfl, p1.nd, p1.le, fun s => ⟨p1.rt s, fun hs => ?_⟩, p5⟩
    exact hs.mem p1.init fun x hx => by
     obtain ⟨j, j0, j1, hj⟩ := A7 hx
     exact p4 j x (by omega) hj)
 rw [h1]
 rcases o with l | o
 ·exact ⟨l, true, rfl, by simp, fun _ => h2⟩
 ·obtain ⟨rfl, h3⟩ := h2
  exact ⟨[], false, rfl, fun _ => h3, by simp⟩
theorem works_cons {t : d9} {s p : List Int} {op : Int} : F5 t s (op :: p) ↔ can t s op ∧ F5 t (aft t s op) p := by
 unfold F5
 constructor
 ·rintro ⟨e, h1, h2⟩
  simp only [ends] at h1
  split at h1
  ·rename_i hc; exact ⟨k8.1 hc, e, h1, h2⟩
  ·cases h1
 ·rintro ⟨hc, e, h1, h2⟩
  exact ⟨e, by simp only [ends]; rw [if_pos (j6 hc)]; exact h1, h2⟩
theorem works_nil {t : d9} {s : List Int} : F5 t s [] ↔ ∀ x ∈ t.goal, x ∈ s := by
 unfold F5
 constructor
 ·rintro ⟨e, h1, h2⟩; cases h1; exact h2
 ·intro h; exact ⟨s, rfl, h⟩
def sumI (v : List Int) : Nat := (v.map Int.toNat).sum
theorem sumI_set : ∀ {v : List Int} {k : Nat} {a x : Int}, v[k]? = some a → sumI (v.set k x) + a.toNat = sumI v + x.toNat
 | [], k, a, x, h => by simp at h
 | b :: v, 0, a, x, h => by
  simp at h; subst h
  simp only [sumI, List.set_cons_zero, List.map_cons, List.sum_cons]; omega
 | b :: v, k + 1, a, x, h => by
  have := sumI_set (v := v) (k := k) (a := a) (x := x) (by simpa using h)
  simp only [sumI, List.set_cons_succ, List.map_cons, List.sum_cons] at this ⊢; omega
end Ab
end
section
namespace Ab
open Go
theorem ix_map {α β : Type} {f : α → β} {l : List α} {i : Int} : ix (l.map f) i = (ix l i).map f := by
 unfold ix; split <;> simp
theorem app8 {α : Type} {c : List α} {x : α} (h : c.length ≤ 1000000000) : app 8 c [x] = some (c ++ [x]) := by
 unfold app; rw [if_pos (by simp; omega)]
structure Cl (t : d9) (l : List (List Int)) : Prop where
 nd : l.Nodup
 len : l.length ≤ 2000
 iff : ∀ s, s ∈ l ↔ Rt t s
theorem Cl.next {t : d9} {l : List (List Int)} (h : Cl t l) {i op : Int} {s : List Int} (hi : ix l i = some s) (h0 : 0 ≤ op) (h1 : op < t.operators.length) (hc : can t s op) : ∃ k, ix l k = some (aft t s op) := by
 obtain ⟨k, _, _, hk⟩ := A7 ((h.iff _).2 (((h.iff s).1 (z8 hi)).step h0 h1 hc))
 exact ⟨k, hk⟩
theorem Cl.setN {t : d9} (ht : i4 t) {l : List (List Int)} (h : Cl t l) {i : Int} {s : List Int} (hi : ix l i = some s) : SetN s t.facts := ((h.iff s).1 (z8 hi)).setN ht
structure Cv (t : d9) (l : List (List Int)) (v : List Int) : Prop where
 len : v.length = l.length
 ok : ∀ i s x, ix l i = some s → ix v i = some x → 0 ≤ x ∧ x ≤ 1000000000 ∧ (x < 1000000000 → ∃ p, Sol t s p ∧ w5 t p = x) ∧ ((∀ y ∈ t.goal, y ∈ s) → x = 0)
def Low (t : d9) (l : List (List Int)) (v : List Int) : Prop := ∀ i s x p, ix l i = some s → ix v i = some x → Sol t s p → w5 t p < 1000000000 → x ≤ w5 t p
section
variable {t : d9} {l : List (List Int)}
theorem Cv.at {v : List Int} (h : Cv t l v) {i : Int} {s : List Int} (hi : ix l i = some s) : ∃ x, ix v i = some x := by
 obtain ⟨x, hx, _⟩ := n8 (l := v) (o6 hi).1 (by rw [h.len]; exact (o6 hi).2.1)
 exact ⟨x, hx⟩
theorem first_costs (ht : i4 t) (hl : Cl t l) : ∃ v, forR 0 (l.length : Int) (M7 t l) ([], []) = some (v, l.map wd) ∧ Cv t l v := by
 have hlen := hl.len
 obtain ⟨⟨v, w⟩, h1, h2, h3⟩ := y5 (body := M7 t l) (n := (l.length : Int)) (s := ([], []))
  (fun j c => c.1 = (l.take j.toNat).map (fun s => if dec (∀ y ∈ t.goal, y ∈ s) = true then (0 : Int) else 1000000000) ∧ c.2 = (l.take j.toNat).map wd) (by omega) (by simp) (fun j c j0 j1 hP => by
   obtain ⟨v, w⟩ := c
   obtain ⟨p1, p2⟩ := hP
   simp only at p1 p2
   obtain ⟨s, hs, gs⟩ := n8 j0 j1
   have htk : l.take (j + 1).toNat = l.take j.toNat ++ [s] := by rw [show (j + 1).toNat = j.toNat + 1 by omega, List.take_add_one, gs]; rfl
   have e1 : v.length ≤ 2000 := by rw [p1]; simp; omega
   have e2 : w.length ≤ 2000 := by rw [p2]; simp; omega
   unfold M7
   simp only [hs, oB, word_eq (hl.setN ht hs) ht.n1, subset_eq, app8 (show v.length ≤ 1000000000 by omega), app8 (show w.length ≤ 1000000000 by omega)]
   by_cases c : ∀ y ∈ t.goal, y ∈ s
   ·rw [if_pos (j6 c)]
    refine ⟨_, rfl, ?_, ?_⟩
    ·simp only [htk, List.map_append, p1, List.map_cons, List.map_nil]; rw [if_pos (j6 c)]
    ·simp only [htk, List.map_append, p2, List.map_cons, List.map_nil]; rfl
   ·rw [if_neg (by rw [p8 c]; simp)]
    refine ⟨_, rfl, ?_, ?_⟩
    ·simp only [htk, List.map_append, p1, List.map_cons, List.map_nil]; rw [if_neg (by rw [p8 c]; simp)]
    ·simp only [htk, List.map_append, p2, List.map_cons, List.map_nil]; rfl)
 rw [Int.toNat_natCast, List.take_length] at h2 h3
 simp only at h2 h3
 subst h2 h3
 refine ⟨_, h1, by simp, fun i s x hs hx => ?_⟩
 rw [ix_map, hs] at hx
 simp only [Option.map_some, Option.some.injEq] at hx
 by_cases c : ∀ y ∈ t.goal, y ∈ s
 ·rw [if_pos (j6 c)] at hx
  subst hx
  exact ⟨by omega, by omega, fun _ => ⟨[], ⟨by simp [Val], works_nil.2 c⟩, rfl⟩, fun _ => rfl⟩
 ·rw [if_neg (by rw [p8 c]; simp)] at hx
  subst hx
  exact ⟨by omega, by omega, fun h => by omega, fun h => absurd h c⟩
/-! ### Arcs -/
abbrev Arc := Int × Int × Int
def fr (A : List Arc) : List Int := A.map (·.1)
def tt (A : List Arc) : List Int := A.map (·.2.1)
def cc (A : List Arc) : List Int := A.map (·.2.2)
theorem arcs_k (ht : i4 t) (hl : Cl t l) {i op : Int} {s : List Int} (hs : ix l i = some s) (h0 : 0 ≤ op) (h1 : op < t.operators.length) {A : List Arc} {N : Nat} (hA : A.length ≤ N) (hN : N ≤ 900000000) :
  ∃ B : List Arc, forR 0 ((l.map wd).length : Int) (H7 t (l.map wd) i op (wd (aft t s op))) (fr A, tt A, cc A) = some (fr B, tt B, cc B) ∧ B.length ≤ N + 2000 ∧ ∀ a, a ∈ B ↔ a ∈ A ∨ ∃ k, ix l k = some (aft t s op) ∧ a = (i, k, (opAt t op).cost) := by
 have hlen := hl.len
 rw [List.length_map]
 obtain ⟨c, h1, B, rfl, h2, h3⟩ := y5 (body := H7 t (l.map wd) i op (wd (aft t s op))) (n := (l.length : Int)) (s := (fr A, tt A, cc A))
  (fun j c => ∃ B : List Arc, c = (fr B, tt B, cc B) ∧ (B.length : Int) ≤ N + j ∧ ∀ a, a ∈ B ↔ a ∈ A ∨ ∃ k, k < j ∧ ix l k = some (aft t s op) ∧ a = (i, k, (opAt t op).cost)) (by omega)
  ⟨A, rfl, by omega, fun a => ⟨.inl, fun h => h.elim id fun ⟨k, k1, k2, _⟩ => by have := (o6 k2).1; omega⟩⟩ (fun j c j0 j1 hP => by
   obtain ⟨B, rfl, p1, p2⟩ := hP
   obtain ⟨x, hx, _⟩ := n8 j0 j1
   have hw : ix (l.map wd) j = some (wd x) := by rw [ix_map, hx]; rfl
   unfold H7
   simp only [hw, oB, ix_op h0 h1]
   have l1 : (fr B).length ≤ 1000000000 := by simp [fr]; omega
   have l2 : (tt B).length ≤ 1000000000 := by simp [tt]; omega
   have l3 : (cc B).length ≤ 1000000000 := by simp [cc]; omega
   simp only [app8 l1, app8 l2, app8 l3, oB]
   by_cases e : x = aft t s op
   ·rw [if_pos (by rw [e])]
    refine ⟨_, rfl, B ++ [(i, j, (opAt t op).cost)], by simp [fr, tt, cc], by simp; omega, fun a => ?_⟩
    rw [List.mem_append, List.mem_singleton, p2, or_assoc]
    refine or_congr_right ⟨?_, ?_⟩
    ·rintro (⟨k, k1, k2⟩ | rfl)
     ·exact ⟨k, by omega, k2⟩
     ·exact ⟨j, by omega, by rw [hx, e], rfl⟩
    ·rintro ⟨k, k1, k2, k3⟩
     by_cases q : k = j
     ·subst q; exact .inr k3
     ·exact .inl ⟨k, by omega, k2, k3⟩
   ·rw [if_neg fun q => e (wd_inj ht (hl.setN ht hx) (T8 t s op) q)]
    refine ⟨_, rfl, B, rfl, by omega, fun a => ?_⟩
    rw [p2]
    refine or_congr_right ⟨?_, ?_⟩
    ·rintro ⟨k, k1, k2⟩; exact ⟨k, by omega, k2⟩
    ·rintro ⟨k, k1, k2, k3⟩
     by_cases q : k = j
     ·subst q; rw [hx] at k2; cases k2; exact absurd rfl e
     ·exact ⟨k, by omega, k2, k3⟩)
 refine ⟨B, h1, by omega, fun a => (h3 a).trans (or_congr_right ⟨?_, ?_⟩)⟩
 ·rintro ⟨k, _, k2⟩; exact ⟨k, k2⟩
 ·rintro ⟨k, k2⟩; exact ⟨k, (o6 k2.1).2.1, k2⟩
def ArcAt (t : d9) (l : List (List Int)) (i op : Int) (a : Arc) : Prop := ∃ s k, ix l i = some s ∧ can t s op ∧ ix l k = some (aft t s op) ∧ a = (i, k, (opAt t op).cost)
theorem arcs_op (ht : i4 t) (hl : Cl t l) {i : Int} {s : List Int} (hs : ix l i = some s) {A : List Arc} {N : Nat} (hA : A.length ≤ N) (hN : N ≤ 800000000) :
  ∃ B : List Arc, forR 0 (t.operators.length : Int) (N3 t l (l.map wd) i) (fr A, tt A, cc A) = some (fr B, tt B, cc B) ∧ B.length ≤ N + 80000 ∧ ∀ a, a ∈ B ↔ a ∈ A ∨ ∃ op : Int, 0 ≤ op ∧ op < t.operators.length ∧ ArcAt t l i op a := by
 have hops := ht.ops
 obtain ⟨c, h1, B, rfl, h2, h3⟩ := y5 (body := N3 t l (l.map wd) i) (n := (t.operators.length : Int)) (s := (fr A, tt A, cc A))
  (fun j c => ∃ B : List Arc, c = (fr B, tt B, cc B) ∧ (B.length : Int) ≤ N + j * 2000 ∧ ∀ a, a ∈ B ↔ a ∈ A ∨ ∃ op : Int, 0 ≤ op ∧ op < j ∧ ArcAt t l i op a) (by omega)
  ⟨A, rfl, by omega, fun a => ⟨.inl, fun h => h.elim id fun ⟨k, k1, k2, _⟩ => by omega⟩⟩ (fun j c j0 j1 hP => by
   obtain ⟨B, rfl, p1, p2⟩ := hP
   unfold N3
   simp only [hs, oB, applies_eq j0 j1, after_eq ht j0 j1, word_eq (T8 t s j) ht.n1]
   by_cases hc : can t s j
   ·rw [if_pos (j6 hc)]
    obtain ⟨C, c1, c2, c3⟩ := arcs_k ht hl hs j0 j1 (A := B) (N := (N + j * 2000).toNat) (by omega) (by omega)
    have c1' : forR 0 ((l.map wd).length : Int) (H7 t (l.map wd) i j (wsN (aft t s j) : Int)) (fr B, tt B, cc B) = some (fr C, tt C, cc C) := c1
    simp only [c1', oB]
    refine ⟨_, rfl, C, rfl, by omega, fun a => ?_⟩
    rw [c3, p2, or_assoc]
    refine or_congr_right ⟨?_, ?_⟩
    ·rintro (⟨op, o1, o2, o3⟩ | ⟨k, k1, k2⟩)
     ·exact ⟨op, o1, by omega, o3⟩
     ·exact ⟨j, j0, by omega, s, k, hs, hc, k1, k2⟩
    ·rintro ⟨op, o1, o2, o3⟩
     by_cases q : op = j
     ·subst q
      obtain ⟨s', k, q1, q2, q3, q4⟩ := o3
      rw [hs] at q1; cases q1
      exact .inr ⟨k, q3, q4⟩
     ·exact .inl ⟨op, o1, by omega, o3⟩
   ·rw [if_neg (by rw [p8 hc]; simp)]
    refine ⟨_, rfl, B, rfl, by omega, fun a => ?_⟩
    rw [p2]
    refine or_congr_right ⟨?_, ?_⟩
    ·rintro ⟨op, o1, o2, o3⟩; exact ⟨op, o1, by omega, o3⟩
    ·rintro ⟨op, o1, o2, o3⟩
     by_cases q : op = j
     ·subst q
      obtain ⟨s', k, q1, q2, q3, q4⟩ := o3
      rw [hs] at q1; cases q1
      exact absurd q2 hc
     ·exact ⟨op, o1, by omega, o3⟩)
 exact ⟨B, h1, by omega, h3⟩
theorem arcs_ok (ht : i4 t) (hl : Cl t l) :
  ∃ B : List Arc, forR 0 (l.length : Int) (M9 t l (l.map wd)) ([], [], []) = some (fr B, tt B, cc B) ∧ ∀ a, a ∈ B ↔ ∃ i op : Int, 0 ≤ op ∧ op < t.operators.length ∧ ArcAt t l i op a := by
 have hlen := hl.len
 obtain ⟨c, h1, B, rfl, h2, h3⟩ := y5 (body := M9 t l (l.map wd)) (n := (l.length : Int)) (s := (fr [], tt [], cc []))
  (fun j c => ∃ B : List Arc, c = (fr B, tt B, cc B) ∧ (B.length : Int) ≤ j * 80000 ∧ ∀ a, a ∈ B ↔ ∃ i op : Int, i < j ∧ 0 ≤ op ∧ op < t.operators.length ∧ ArcAt t l i op a) (by omega)
  ⟨[], rfl, by simp, fun a => ⟨fun h => by simp at h, fun ⟨i, op, h, _, _, s, k, q, _⟩ => by have := (o6 q).1; omega⟩⟩ (fun j c j0 j1 hP => by
   obtain ⟨B, rfl, p1, p2⟩ := hP
   obtain ⟨s, hs, _⟩ := n8 j0 j1
   obtain ⟨C, c1, c2, c3⟩ := arcs_op ht hl hs (A := B) (N := (j * 80000).toNat) (by omega) (by omega)
   unfold M9
   simp only [c1, oB]
   refine ⟨_, rfl, C, rfl, by omega, fun a => ?_⟩
   rw [c3, p2]
   constructor
   ·rintro (⟨i, op, q1, q2⟩ | ⟨op, q2⟩)
    ·exact ⟨i, op, by omega, q2⟩
    ·exact ⟨j, op, by omega, q2⟩
   ·rintro ⟨i, op, q1, q2⟩
    by_cases q : i = j
    ·subst q; exact .inr ⟨op, q2⟩
    ·exact .inl ⟨i, op, by omega, q2⟩)
 exact ⟨B, h1, fun a => (h3 a).trans ⟨fun ⟨i, op, _, q⟩ => ⟨i, op, q⟩, fun ⟨i, op, q0, q1, s, k, q, q'⟩ => ⟨i, op, (o6 q).2.1, q0, q1, s, k, q, q'⟩⟩⟩
/-! ### Setting right -/
def FixA (v : List Int) (a : Arc) : Prop := ∀ xi xk, ix v a.1 = some xi → ix v a.2.1 = some xk → xk < 1000000000 → xi ≤ xk + a.2.2
theorem sweepA (ht : i4 t) {A : List Arc} (hA : ∀ a ∈ A, ∃ i op : Int, 0 ≤ op ∧ op < t.operators.length ∧ ArcAt t l i op a) {v : List Int} (h : Cv t l v) :
  ∃ v2 ag2, forR 0 ((fr A).length : Int) (M4 (fr A) (tt A) (cc A)) (v, false) = some (v2, ag2) ∧ Cv t l v2 ∧ ((ag2 = false ∧ v2 = v ∧ ∀ a ∈ A, FixA v a) ∨ (ag2 = true ∧ sumI v2 < sumI v)) := by
 have hf : (fr A).length = A.length := by simp [fr]
 rw [hf]
 obtain ⟨⟨v2, ag2⟩, h1, h2, h3⟩ := y5 (body := M4 (fr A) (tt A) (cc A)) (n := (A.length : Int)) (s := (v, false))
  (fun j c => Cv t l c.1 ∧ ((c.2 = false ∧ c.1 = v ∧ ∀ i a, i < j → ix A i = some a → FixA v a) ∨ (c.2 = true ∧ sumI c.1 < sumI v))) (by omega)
  ⟨h, .inl ⟨rfl, rfl, fun i a hi ha => by have := (o6 ha).1; omega⟩⟩ (fun j c j0 j1 hP => by
   obtain ⟨w, ag⟩ := c
   obtain ⟨p1, p2⟩ := hP
   simp only at p1 p2
   obtain ⟨a, ha, _⟩ := n8 j0 j1
   obtain ⟨i, op, o0, o1, s, k, q1, q2, q3, rfl⟩ := hA a (z8 ha)
   obtain ⟨xi, hxi⟩ := p1.at q1
   obtain ⟨xk, hxk⟩ := p1.at q3
   obtain ⟨bi0, bi1, bi2, bi3⟩ := p1.ok i s xi q1 hxi
   obtain ⟨bk0, bk1, bk2, _⟩ := p1.ok k _ xk q3 hxk
   have hco := (O6 ht o0 o1).2
   have e1 : ix (fr A) j = some i := by unfold fr; rw [ix_map, ha]; rfl
   have e2 : ix (tt A) j = some k := by unfold tt; rw [ix_map, ha]; rfl
   have e3 : ix (cc A) j = some (opAt t op).cost := by unfold cc; rw [ix_map, ha]; rfl
   have hw : w64 (xk + (opAt t op).cost) = xk + (opAt t op).cost := A6 (by have := hco.1; omega) (by have := hco.2; omega)
   unfold M4
   simp only [e1, e2, e3, hxi, hxk, oB, hw]
   by_cases c : xk < 1000000000 ∧ xk + (opAt t op).cost < xi
   ·obtain ⟨c1, c2⟩ := c
    simp only [if_pos c1, oB, decide_eq_true c2, if_true]
    obtain ⟨i0, i1, gi⟩ := o6 hxi
    have hs := sumI_set (x := xk + (opAt t op).cost) gi
    have hc0 := hco.1
    refine ⟨_, rfl, ⟨by simp [p1.len], fun i' s' x' hs' hx' => ?_⟩, .inr ⟨rfl, ?_⟩⟩
    ·have j0' := (o6 hs').1
     rw [Y0 i0 i1 j0'] at hx'
     by_cases e : i' = i
     ·subst e
      rw [if_pos rfl] at hx'; cases hx'
      rw [q1] at hs'; cases hs'
      refine ⟨by omega, by omega, fun _ => ?_, fun g => by have := bi3 g; omega⟩
      obtain ⟨p, ⟨pv, pw⟩, pc⟩ := bk2 c1
      refine ⟨op :: p, ⟨fun y hy => ?_, works_cons.2 ⟨q2, pw⟩⟩, by simp only [w5, pc]⟩
      rcases List.mem_cons.1 hy with rfl | hy
      ·exact ⟨o0, o1⟩
      ·exact pv y hy
     ·rw [if_neg e] at hx'
      exact p1.ok i' s' x' hs' hx'
    ·simp only
     have : sumI w ≤ sumI v := by
      rcases p2 with ⟨_, rfl, _⟩ | ⟨_, p2⟩ <;> omega
     omega
   ·have ef : (if xk < 1000000000 then some (decide (xk + (opAt t op).cost < xi)) else some false) = some false := by
     by_cases c1 : xk < 1000000000
     ·rw [if_pos c1, decide_eq_false fun q => c ⟨c1, q⟩]
     ·rw [if_neg c1]
    rw [ef]
    simp only [oB, Bool.false_eq_true, if_false]
    refine ⟨_, rfl, p1, p2.imp (fun ⟨a1, a2, a3⟩ => ⟨a1, a2, fun i' a' hi' ha' => ?_⟩) id⟩
    by_cases e : i' = j
    ·subst e
     rw [ha] at ha'; cases ha'
     subst a2
     intro yi yk y1 y2 y3
     simp only at y1 y2
     rw [hxi] at y1; rw [hxk] at y2; cases y1; cases y2
     simp only; omega
    ·exact a3 i' a' (by omega) ha')
 refine ⟨v2, ag2, h1, h2, h3.imp (fun ⟨a1, a2, a3⟩ => ⟨a1, a2, fun a ha => ?_⟩) id⟩
 obtain ⟨i, _, i1, hi⟩ := A7 ha
 exact a3 i a i1 hi
theorem fixA (ht : i4 t) {A : List Arc} (hA : ∀ a ∈ A, ∃ i op : Int, 0 ≤ op ∧ op < t.operators.length ∧ ArcAt t l i op a) {v : List Int} (h : Cv t l v) :
  ∃ v2, Loop (M8 (fr A) (tt A) (cc A)) (v, true) = some v2 ∧ Cv t l v2 ∧ ∀ a ∈ A, FixA v2 a := by
 obtain ⟨o, h1, h2⟩ := T3 (body := M8 (fr A) (tt A) (cc A)) (s := (v, true))
  (fun s => Cv t l s.1 ∧ (s.2 = false → ∀ a ∈ A, FixA s.1 a)) (fun o => Cv t l o ∧ ∀ a ∈ A, FixA o a) (fun s => 2 * sumI s.1 + s.2.toNat) ⟨h, by simp⟩ (by
   rintro ⟨v, ag⟩ ⟨p1, p2⟩
   unfold M8
   cases ag with
   | false => exact .inr ⟨v, by simp, p1, p2 rfl⟩
   | true =>
    obtain ⟨v3, ag3, k1, k2, k3⟩ := sweepA ht hA p1
    simp only [if_true, k1, oB]
    refine .inl ⟨_, rfl, ⟨k2, fun e => ?_⟩, ?_⟩
    ·rcases k3 with ⟨_, rfl, k3⟩ | ⟨k3, _⟩
     ·exact k3
     ·simp only at e; rw [k3] at e; cases e
    ·rcases k3 with ⟨rfl, rfl, _⟩ | ⟨rfl, k3⟩
     ·simp only [Bool.toNat_true, Bool.toNat_false]; omega
     ·simp only [Bool.toNat_true] at k3 ⊢; omega)
 exact ⟨o, h1, h2⟩
theorem low_of (ht : i4 t) (hl : Cl t l) {v : List Int} (h : Cv t l v) (hf : ∀ (i op : Int) a, 0 ≤ op → op < t.operators.length → ArcAt t l i op a → FixA v a) : Low t l v := by
 intro i s x p
 induction p generalizing i s x with
 | nil =>
  intro hs hx hp _
  have := (h.ok i s x hs hx).2.2.2 (works_nil.1 hp.2)
  simp [w5]; omega
 | cons op p ih =>
  intro hs hx hp hb
  have hv := hp.1 op (by simp)
  have hv' : Val t p := fun y hy => hp.1 y (List.mem_cons_of_mem _ hy)
  have hw := works_cons.1 hp.2
  have hco := (O6 ht hv.1 hv.2).2.1
  obtain ⟨k, hk⟩ := hl.next hs hv.1 hv.2 hw.1
  obtain ⟨y, hy⟩ := h.at hk
  simp only [w5] at hb ⊢
  have h1 := ih k _ y hk hy ⟨hv', hw.2⟩ (by omega)
  have := hf i op _ hv.1 hv.2 ⟨s, k, hs, hw.1, hk, rfl⟩ x y hx hy (by omega)
  simp only at this
  omega
theorem rcosts_ok (ht : i4 t) (hl : Cl t l) : ∃ v, X2 t l = some v ∧ Cv t l v ∧ Low t l v := by
 obtain ⟨v, v1, v2⟩ := first_costs ht hl
 obtain ⟨A, a1, a2⟩ := arcs_ok ht hl
 obtain ⟨w, w1, w2, w3⟩ := fixA ht (fun a ha => (a2 a).1 ha) v2
 refine ⟨w, ?_, w2, low_of ht hl w2 fun i op a o0 o1 ha => w3 a ((a2 a).2 ⟨i, op, o0, o1, ha⟩)⟩
 unfold X2
 simp only [v1, oB, a1, w1]
theorem Cv.lc {v : List Int} (h : Cv t l v) (hlow : Low t l v) {i k x : Int} {s : List Int} (hs : ix l i = some s) (hx : ix v i = some x) (hk : LC t (Sol t s) k) : x = k := by
 obtain ⟨b0, b1, b2, _⟩ := h.ok i s x hs hx
 obtain ⟨a1, a2, ⟨a3, a4⟩ | ⟨a3, p, a4, a5⟩⟩ := hk
 ·by_cases c : x < 1000000000
  ·obtain ⟨p, p1, _⟩ := b2 c; exact absurd p1 (a4 p)
  ·omega
 ·have h1 := hlow i s x p hs hx a4 (by omega)
  obtain ⟨q, q1, q2⟩ := b2 (by omega)
  have := a1 q q1
  omega
theorem best_ok (ht : i4 t) (hm : ¬ Many t) {k : Int} (hk : LC t (Sol t t.init) k) : O7 t = some k := by
 obtain ⟨l, b, h1, h2, h3⟩ := ak1 ht
 cases b with
 | false => exact absurd (h2 rfl) hm
 | true =>
  obtain ⟨k1, k2, k3, k4⟩ := h3 rfl
  obtain ⟨v, v1, v2, v3⟩ := rcosts_ok ht ⟨k1, k2, k3⟩
  obtain ⟨x, hx⟩ := v2.at k4
  have := v2.lc v3 k4 hx hk
  subst this
  unfold O7
  simp [h1, v1, hx]
end
end Ab
end
section
namespace Ab
open Go
section
variable {t : d9} {l : List (List Int)}
def Way (t : d9) (s p : List Int) : Prop := Val t p ∧ ends t t.init p = some s
structure Ov (t : d9) (l : List (List Int)) (v : List Int) : Prop where
 len : v.length = l.length
 ok : ∀ i s x, ix l i = some s → ix v i = some x → 0 ≤ x ∧ x ≤ 1000000000 ∧ (x < 1000000000 → ∃ p, Way t s p ∧ w5 t p = x) ∧ (s = t.init → x = 0)
theorem Ov.at {v : List Int} (h : Ov t l v) {i : Int} {s : List Int} (hi : ix l i = some s) : ∃ x, ix v i = some x := by
 obtain ⟨x, hx, _⟩ := n8 (l := v) (o6 hi).1 (by rw [h.len]; exact (o6 hi).2.1)
 exact ⟨x, hx⟩
theorem dropped_eq (ht : i4 t) {op : Int} (h0 : 0 ≤ op) (h1 : op < t.operators.length) : P1 t op = some (forT t op) := by
 have hops := ht.ops
 unfold P1
 have e1 : app 80 ([] : List f5) (t.operators.take op.toNat) = some (t.operators.take op.toNat) := by unfold app; rw [if_pos (by simp; omega)]; rfl
 have e2 : app 80 (t.operators.take op.toNat) (t.operators.drop (op + 1).toNat) = some (t.operators.take op.toNat ++ t.operators.drop (op + 1).toNat) := by unfold app; rw [if_pos (by simp; omega)]
 rw [subL_take h0 (by omega)]
 simp only [oB, e1, A6 (show -9223372036854775808 ≤ op + 1 by omega) (by omega), subL_drop (show 0 ≤ op + 1 by omega) (show op + 1 ≤ t.operators.length by omega), e2]
 rw [show (op + 1).toNat = op.toNat + 1 by omega]; rfl
theorem OutR.best {op : Int} {r : Int × i9} (h : OutR t op r) (hm : ¬ Many t) (ht : i4 t) (h0 : 0 ≤ op) (h1 : op < t.operators.length) : r.2 = ⟨0, 0⟩ ∧ O7 (forT t op) = some r.1 := by
 cases h with
 | bad hn => exact absurd ⟨ht, h0, h1⟩ hn
 | opt _ _ _ hr =>
  have hmf : ¬ Many (forT t op) := fun q => hm (many_for h0 h1 q)
  have hc : r.2.code = 0 := Classical.byContradiction fun hc => hmf (hr.mny (for_ok ht h0 h1) hc).1
  exact ⟨hr.idx hc, best_ok (for_ok ht h0 h1) hmf (hr.lc hc)⟩
end
theorem S1 (t : d9) : s8 t = some true := by
 unfold s8
 simp only [priced_true]
 obtain ⟨f, h1, h2, h3⟩ := aa1 t
 obtain ⟨l, g, g1, g2⟩ := necessary_spec t
 rw [g1, h2]
 simp only [oB]
 rcases h3 with ⟨rfl, ht⟩ | ⟨hc, hn⟩
 ·rw [if_pos rfl]
  obtain ⟨S, c, s1, s2, s3⟩ := ak1 ht
  rw [s1]
  simp only [oB]
  by_cases hc : c = true ∧ S.length ≤ 300
  ·obtain ⟨rfl, hl⟩ := hc
   rw [if_neg (by simp; omega)]
   obtain ⟨l1, l2, l3, l4⟩ := s3 rfl
   have hm : ¬ Many t := few_many ⟨S, l1, l2, l3⟩
   obtain ⟨o, o1, o2⟩ := P8 t
   have hco : o.2.code = 0 := Classical.byContradiction fun hc => hm (o2.mny ht hc).1
   have hlc := o2.lc hco
   rw [best_ok ht hm hlc]
   simp only [oB]
   rcases g2 with ⟨hn, _⟩ | ⟨_, hm', _⟩ | ⟨_, _, hn, rfl, rfl⟩ | ⟨_, _, hs, rfl, rfl⟩
   ·exact absurd ht hn
   ·exact absurd hm' hm
   ·rw [if_pos (hlc.inf.2 hn)]
    simp [at_eq]
   ·have hfin := hlc.fin.2 hs
    rw [if_neg (by omega)]
    have hops := ht.ops
    obtain ⟨w, w1, rfl⟩ := y5 (body := o9 t) (n := (t.operators.length : Int)) (s := []) (fun j c => c = y7 (fun op => ∀ p, Sol t t.init p → op ∈ p) j) (by omega) (by simp [y7, nums]) (fun j c j0 j1 hP => by
     obtain ⟨b, b1, b2⟩ := ac8 t j
     obtain ⟨z1, z2⟩ := b2.best hm ht j0 j1
     have k2 := (b2.lc (by rw [z1])).2.2
     have key : b.1 = 1000000000 ↔ ∀ p, Sol t t.init p → j ∈ p := by
      rw [k2.inf]
      exact ⟨fun h p hp => Classical.byContradiction fun hn => h p ⟨hp, hn⟩, fun h p hp => hp.2 (h p hp.1)⟩
     have hlen : c.length ≤ 40 := by rw [hP]; have := (X1 (fun op => ∀ p, Sol t t.init p → op ∈ p) j).len; omega
     unfold o9
     simp only [dropped_eq ht j0 j1, z2, oB, app8 (show c.length ≤ 1000000000 by omega)]
     rw [setOf_succ j0]
     by_cases q : b.1 = 1000000000
     ·rw [if_pos q, if_pos (j6 (key.1 q))]
      exact ⟨_, rfl, by rw [hP]⟩
     ·rw [if_neg q, if_neg (by rw [p8 fun h => q (key.2 h)]; simp)]
      exact ⟨_, rfl, by rw [hP, List.append_nil]⟩)
    simp [w1, numbers_eq]
  ·rw [if_pos]
   cases c
   ·simp
   ·simp at hc ⊢; omega
 ·rw [if_neg hc]
  rcases g2 with ⟨_, hf, _, rfl⟩ | ⟨ht, _⟩ | ⟨ht, _⟩ | ⟨ht, _⟩
  ·rw [h1] at hf; cases hf; simp
  ·exact absurd ht hn
  ·exact absurd ht hn
  ·exact absurd ht hn
end Ab
end
