/-
  Texts that the proof stands on.
-/
import Derived.Test.YtfjhmljchkhpnaaGreatDoorKRwRepSpec5
set_option linter.all false
section
namespace Ab
open Go
/-! ### All sets -/
def allS : Nat → Int → List (List Int)
 | 0, _ => [[]]
 | n + 1, k => allS n (k + 1) ++ (allS n (k + 1)).map (k :: ·)
theorem X4 : ∀ {n : Nat} {k : Int} {l : List Int}, Inc l → (∀ x ∈ l, k ≤ x ∧ x < k + n) → l ∈ allS n k
 | 0, k, l, _, h => by
  cases l with
  | nil => simp [allS]
  | cons a l => have := h a (by simp); omega
 | n + 1, k, l, hi, h => by
  simp only [allS, List.mem_append, List.mem_map]
  cases l with
  | nil => exact .inl (X4 .nil (by simp))
  | cons a l =>
   have hi' := List.pairwise_cons.1 hi
   have ha := h a (by simp)
   by_cases e : a = k
   ·subst e
    refine .inr ⟨l, X4 hi'.2 fun x hx => ?_, rfl⟩
    have := hi'.1 x hx
    have := h x (List.mem_cons_of_mem _ hx)
    omega
   ·refine .inl (X4 hi fun x hx => ?_)
    have h2 := h x hx
    rcases List.mem_cons.1 hx with rfl | hx
    ·omega
    ·have := hi'.1 x hx; omega
theorem allS_len : ∀ (n : Nat) (k : Int), (allS n k).length = 2 ^ n
 | 0, _ => rfl
 | n + 1, k => by simp only [allS, List.length_append, List.length_map, allS_len n]; rw [Nat.pow_succ]; omega
/-! ### Keys -/
def kk (s : List Int) (a : Int) : ByteArray := keyK [s, [a]]
def univ : List ByteArray := (allS 24 0).flatMap fun s => (List.range 61).map fun a : Nat => kk s (a : Int)
theorem flat_len {α β : Type} (f : α → List β) (n : Nat) (hf : ∀ a, (f a).length = n) : ∀ l : List α, (l.flatMap f).length = l.length * n
 | [] => by simp
 | a :: l => by simp only [List.flatMap_cons, List.length_append, flat_len f n hf l, hf, List.length_cons, Nat.succ_mul]; omega
theorem univ_len : univ.length = 2 ^ 24 * 61 := by
 rw [univ, flat_len _ 61 (fun a => by simp), allS_len]
theorem mem_univ {t : d5} (ht : k9 t) {s : List Int} (hs : SetN s t.facts) {a : Int} (h0 : 0 ≤ a) (h1 : a ≤ 60) : kk s a ∈ univ := by
 have := ht.n1
 refine List.mem_flatMap.2 ⟨s, X4 hs.1 fun x hx => by have := hs.2 x hx; omega, List.mem_map.2 ⟨a.toNat, by simp; omega, by rw [Int.toNat_of_nonneg h0]⟩⟩
theorem M5 {t : d5} (ht : k9 t) {s : List Int} (hs : SetN s t.facts) : small s := fun x hx => by
 have := ht.n1
 have := hs.2 x hx
 omega
theorem small_one {a : Int} (h0 : 0 ≤ a) (h1 : a ≤ 60) : small [a] := fun x hx => by
 simp at hx; subst hx; omega
theorem kk_eq {t : d5} (ht : k9 t) {s : List Int} (hs : SetN s t.facts) {a : Int} (h0 : 0 ≤ a) (h1 : a ≤ 60) : A6 [s, [a]] = some (kk s a) := by
 have := ht.n1
 have := hs.len
 exact key2_eq (M5 ht hs) (small_one h0 h1) (by omega) (by simp)
theorem kk_inj {t : d5} (ht : k9 t) {s s' : List Int} (hs : SetN s t.facts) (hs' : SetN s' t.facts) {a a' : Int} (h0 : 0 ≤ a) (h1 : a ≤ 60) (h0' : 0 ≤ a') (h1' : a' ≤ 60) (h : kk s a = kk s' a') : s = s' ∧ a = a' := by
 have := keyK_inj (fun x hx => by
  rcases List.mem_cons.1 hx with rfl | hx
  ·exact M5 ht hs
  ·simp at hx; subst hx; exact small_one h0 h1) (fun x hx => by
  rcases List.mem_cons.1 hx with rfl | hx
  ·exact M5 ht hs'
  ·simp at hx; subst hx; exact small_one h0' h1') h
 simpa using this
/-! ### Maps -/
section
variable {K V : Type} [DecidableEq K]
theorem mset_new {k : K} {v : V} : ∀ {m : List (K × V)}, mget m k = none → mset m k v = m ++ [(k, v)]
 | [], _ => rfl
 | p :: r, h => by
  simp only [mget] at h
  split at h
  ·cases h
  ·rename_i hne
   simp only [mset, if_neg hne, mset_new h, List.cons_append]
theorem mset_keys {k : K} {v : V} : ∀ {m : List (K × V)}, mget m k ≠ none → (mset m k v).map (·.1) = m.map (·.1)
 | [], h => absurd rfl h
 | p :: r, h => by
  simp only [mget] at h
  simp only [mset]
  split
  ·rename_i e; simp [e]
  ·rename_i hne
   rw [if_neg hne] at h
   simp [mset_keys h]
theorem mget_mem {k : K} {v : V} : ∀ {m : List (K × V)}, mget m k = some v → (k, v) ∈ m
 | [], h => by cases h
 | p :: r, h => by
  simp only [mget] at h
  split at h
  ·rename_i e; cases h; subst e; exact List.mem_cons_self
  ·exact List.mem_cons_of_mem _ (mget_mem h)
theorem mget_none {k : K} : ∀ {m : List (K × V)}, mget m k = none → k ∉ m.map (·.1)
 | [], _ => by simp
 | p :: r, h => by
  simp only [mget] at h
  split at h
  ·cases h
  ·rename_i hne
   have := mget_none h
   simp only [List.map_cons, List.mem_cons, not_or]
   exact ⟨hne, this⟩
def late (c : Int) (m : List (K × Int)) : Nat := (m.filter fun p => decide (c < p.2)).length
theorem late_app (c : Int) (m m' : List (K × Int)) : late c (m ++ m') = late c m + late c m' := by simp [late, List.filter_append]
theorem M2 (c : Int) (p : K × Int) (m : List (K × Int)) : late c (p :: m) = (if c < p.2 then 1 else 0) + late c m := by
 simp only [late, List.filter_cons]
 by_cases h : c < p.2
 ·simp [h]; omega
 ·simp [h]
theorem late_one (c : Int) (p : K × Int) : late c [p] ≤ 1 := by
 rw [M2]; simp only [late, List.filter_nil, List.length_nil]; split <;> omega
theorem late_set {c v : Int} {k : K} (hv : v ≤ c) : ∀ {m : List (K × Int)} {old : Int}, mget m k = some old → c < old → late c (mset m k v) + 1 = late c m
 | [], old, h, _ => by cases h
 | p :: r, old, h, ho => by
  simp only [mget] at h
  simp only [mset]
  split at h
  ·rename_i e
   cases h
   rw [if_pos e, M2, M2, if_neg (by simp only; omega), if_pos ho]; omega
  ·rename_i hne
   have := late_set hv h ho
   rw [if_neg hne, M2, M2]; omega
theorem late_mono {c c' : Int} (h : c ≤ c') : ∀ m : List (K × Int), late c' m ≤ late c m
 | [] => Nat.le_refl _
 | p :: r => by
  have := late_mono h r
  rw [M2, M2]
  by_cases h1 : c' < p.2
  ·rw [if_pos h1, if_pos (by omega)]; omega
  ·rw [if_neg h1]; omega
end
/-! ### What the search keeps -/
abbrev Mp' := List (ByteArray × Int)
inductive Chn (ns : List d3) : Int → List Int → Prop
 | root {i : Int} (h : i < 0) : Chn ns i []
 | op {i : Int} {n : d3} {st : List Int} (h : ix ns i = some n) (ho : 0 ≤ n.op) (hf : n.ffrom < i) (hc : Chn ns n.ffrom st) : Chn ns i (st ++ [n.op])
 | no {i : Int} {n : d3} {st : List Int} (h : ix ns i = some n) (ho : n.op < 0) (hf : n.ffrom < i) (hc : Chn ns n.ffrom st) : Chn ns i st
theorem Chn.mono {ns ns' : List d3} {i : Int} {st : List Int} (hn : ∀ i n, ix ns i = some n → ix ns' i = some n) (h : Chn ns i st) : Chn ns' i st := by
 induction h with
 | root h => exact .root h
 | op h ho hf _ ih => exact .op (hn _ _ h) ho hf ih
 | no h ho hf _ ih => exact .no (hn _ _ h) ho hf ih
def pot (c : Int) (m : Mp') : Nat := 2 * (univ.length - m.length) + late c m
structure NodeOk (t : d5) (plan : List Int) (n : d3) : Prop where
 set : SetN n.fs t.facts
 at0 : 0 ≤ n.fat
 at1 : n.fat ≤ plan.length
 ch0 : 0 ≤ n.change
def Way (t : d5) (plan st : List Int) (n : d3) : Prop := (∀ x ∈ st, 0 ≤ x ∧ x < t.operators.length) ∧ ends t t.init st = some n.fs ∧ Ed n.change.toNat (plan.take n.fat.toNat) st
structure Bs (t : d5) (plan : List Int) (c : Int) (m : Mp') (ns : List d3) (q : List (List Int)) : Prop where
 node : ∀ i n, ix ns i = some n → NodeOk t plan n ∧ n.change ≤ c + 1 ∧ ∃ st, Chn ns i st ∧ Way t plan st n
 m1 : ∀ i n, ix ns i = some n → ∃ v, mget m (kk n.fs n.fat) = some v ∧ v ≤ n.change
 m2 : ∀ (s : List Int) (a v : Int), SetN s t.facts → 0 ≤ a → a ≤ plan.length → mget m (kk s a) = some v → ∃ i n, ix ns i = some n ∧ n.fs = s ∧ n.fat = a ∧ n.change = v
 qs : ∀ b row, ix q b = some row → ∀ i ∈ row, ∃ n, ix ns i = some n ∧ n.change = b
 qn : ∀ i n, ix ns i = some n → ∃ row p, ix q n.change = some row ∧ ix row p = some i
 nd : (m.map (·.1)).Nodup
 un : ∀ k ∈ m.map (·.1), k ∈ univ
 vl : ∀ p ∈ m, p.2 ≤ c + 1
 ql : q.length ≤ ns.length
 rl : ∀ b row, ix q b = some row → row.length ≤ ns.length
structure Stp (c : Int) (m : Mp') (ns : List d3) (q : List (List Int)) (m' : Mp') (ns' : List d3) (q' : List (List Int)) : Prop where
 sat : ∀ k v, mget m k = some v → ∃ v', mget m' k = some v' ∧ v' ≤ v
 nst : ∀ i n, ix ns i = some n → ix ns' i = some n
 row : ∀ b row, ix q b = some row → ∃ e, ix q' b = some (row ++ e)
 old : ∀ b, b < c → ix q' b = ix q b
 len : q.length ≤ q'.length
 psi : q'.length + pot c m' ≤ q.length + pot c m
 pend : ∀ row, ix q c = some row → ∃ row', ix q' c = some row' ∧ row'.length + pot c m' ≤ row.length + pot c m
 nsl : ns'.length + pot c m' ≤ ns.length + pot c m
theorem Stp.refl (c : Int) (m : Mp') (ns : List d3) (q : List (List Int)) : Stp c m ns q m ns q :=
 ⟨fun k v h => ⟨v, h, Int.le_refl _⟩, fun _ _ h => h, fun b row h => ⟨[], by simpa using h⟩, fun _ _ => rfl, Nat.le_refl _, Nat.le_refl _, fun row h => ⟨row, h, Nat.le_refl _⟩, Nat.le_refl _⟩
theorem Stp.trans {c : Int} {m m' m'' : Mp'} {ns ns' ns'' : List d3} {q q' q'' : List (List Int)} (h : Stp c m ns q m' ns' q') (k : Stp c m' ns' q' m'' ns'' q'') : Stp c m ns q m'' ns'' q'' where
 sat a v g := by
  obtain ⟨v', g1, g2⟩ := h.sat a v g
  obtain ⟨v'', g3, g4⟩ := k.sat a v' g1
  exact ⟨v'', g3, by omega⟩
 nst i n g := k.nst i n (h.nst i n g)
 row b row g := by
  obtain ⟨e, g1⟩ := h.row b row g
  obtain ⟨e', g2⟩ := k.row b _ g1
  exact ⟨e ++ e', by rw [g2, List.append_assoc]⟩
 old b hb := (k.old b hb).trans (h.old b hb)
 len := Nat.le_trans h.len k.len
 psi := by have := h.psi; have := k.psi; omega
 pend row g := by
  obtain ⟨r', g1, g2⟩ := h.pend row g
  obtain ⟨r'', g3, g4⟩ := k.pend r' g1
  exact ⟨r'', g3, by omega⟩
 nsl := by have := h.nsl; have := k.nsl; omega
def Sat (m : Mp') (s : List Int) (a d : Int) : Prop := ∃ v, mget m (kk s a) = some v ∧ v ≤ d
theorem Stp.keep {c : Int} {m m' : Mp'} {ns ns' : List d3} {q q' : List (List Int)} (h : Stp c m ns q m' ns' q') {s : List Int} {a d : Int} (k : Sat m s a d) : Sat m' s a d := by
 obtain ⟨v, h1, h2⟩ := k
 obtain ⟨v', h3, h4⟩ := h.sat _ v h1
 exact ⟨v', h3, by omega⟩
end Ab
end
section
namespace Ab
open Go
inductive Rt (t : d5) : List Int → Prop
 | init : Rt t t.init
 | step {s : List Int} {op : Int} (h : Rt t s) (h0 : 0 ≤ op) (h1 : op < t.operators.length) (hc : can t s op) : Rt t (aft t s op)
theorem Rt.setN {t : d5} (ht : k9 t) {s : List Int} (h : Rt t s) : SetN s t.facts := by
 cases h with
 | init => exact ht.init
 | step => exact L5 _ _ _
theorem Rt.ends {t : d5} : ∀ {plan s e : List Int}, Rt t s → (∀ x ∈ plan, (0 : Int) ≤ x ∧ x < t.operators.length) → ends t s plan = some e → Rt t e
 | [], s, e, hs, _, h => by simp only [Ab.ends, Option.some.injEq] at h; subst h; exact hs
 | op :: r, s, e, hs, hv, h => by
  simp only [Ab.ends] at h
  split at h
  ·rename_i hc
   have := hv op List.mem_cons_self
   exact Rt.ends (hs.step this.1 this.2 (g9.1 hc)) (fun x hx => hv x (List.mem_cons_of_mem _ hx)) h
  ·cases h
def Cls (t : d5) (l : List (List Int)) (s : List Int) : Prop := ∀ op : Int, 0 ≤ op → op < t.operators.length → can t s op → aft t s op ∈ l
theorem Rt.mem {t : d5} {l : List (List Int)} (hi : t.init ∈ l) (hc : ∀ s ∈ l, Cls t l s) {s : List Int} (h : Rt t s) : s ∈ l := by
 induction h with
 | init => exact hi
 | step h h0 h1 hcan ih => exact hc _ ih _ h0 h1 hcan
theorem kone_eq {s : List Int} (hs : small s) (h1 : s.length ≤ 1000) : A6 [s] = some (keyK [s]) := by
 refine key_eq (by simp [hs]) ?_
 have := ac6 s
 simp only [encK, List.flatMap_cons, List.flatMap_nil, List.append_nil]
 omega
theorem kone_inj {t : d5} (ht : k9 t) {s s' : List Int} (h : SetN s t.facts) (h' : SetN s' t.facts) (e : keyK [s] = keyK [s']) : s = s' := by
 have := keyK_inj (fun x hx => by simp at hx; subst hx; exact M5 ht h) (fun x hx => by simp at hx; subst hx; exact M5 ht h') e
 simpa using this
theorem containsAny_eq {l : List (List Int)} {f : List Int → Option Bool} {p : List Int → Prop} (h : ∀ x ∈ l, f x = some (dec (p x))) : q9 l f = some (dec (∃ x ∈ l, p x)) := by
 unfold q9 A8
 rcases F2 (body := w7 l f) (n := (l.length : Int)) (fun j => if dec (∃ x, ix l j = some x ∧ p x) = true then some j else none) (by omega) (fun j h0 h1 _ => by
  obtain ⟨x, hx, _⟩ := i9 (l := l) h0 h1
  unfold w7
  simp only [hx, oB, h x (p8 hx)]
  by_cases e : p x
  ·rw [ifP e, ifP ⟨x, rfl, e⟩]
  ·rw [ifN e, ifN (by rintro ⟨z, hz, hp⟩; cases hz; exact e hp)]) with ⟨h1, h2⟩ | ⟨j, o, h0, h1, h2, h3, h4⟩
 ·rw [h1]
  simp only [oB]
  rw [n7]
  ·rfl
  ·rintro ⟨x, hx, hp⟩
   obtain ⟨i, i0, i1, hi⟩ := M3 hx
   have := h2 i i0 i1
   rw [ifP ⟨x, hi, hp⟩] at this
   cases this
 ·rw [h4]
  split at h2
  ·rename_i e
   cases h2
   simp only [oB]
   obtain ⟨x, hx, hp⟩ := g9.1 e
   rw [i6 ⟨x, p8 hx, hp⟩, decide_eq_true h0]
  ·cases h2
theorem sure_one {s pre : List Int} (hs : Inc s) (hp : Inc pre) (hl : s.length ≤ 1000000) : O3 [s] pre = some (dec (∀ x ∈ pre, x ∈ s)) := by
 unfold O3
 rw [containsAny_eq (p := fun y => ¬ ∀ x ∈ pre, x ∈ y) (fun x hx => by
  simp only [List.mem_singleton] at hx
  subst hx
  unfold P2
  rw [aa4 hs hp hl]
  simp only [oB, C7])]
 simp only [oB, C7]
 refine congrArg some (Q9 ⟨fun h => Classical.byContradiction fun g => h ⟨s, by simp, g⟩, fun h => ?_⟩)
 rintro ⟨x, hx, hn⟩
 simp only [List.mem_singleton] at hx
 subst hx
 exact hn h
theorem after_one {t : d5} (ht : k9 t) {s : List Int} (hs : SetN s t.facts) {op : Int} (h0 : 0 ≤ op) (h1 : op < t.operators.length) : H5 t [s] op = some [aft t s op] := by
 have e : forR 0 (([s] : List (List Int)).length : Int) (G0 t [s] op) [] = some [aft t s op] := by
  show forN (G0 t [s] op) 1 0 [] = _
  simp only [forN]
  have e0 : ix [s] 0 = some s := rfl
  have e1 : app 24 ([] : List (List Int)) [aft t s op] = some [aft t s op] := rfl
  unfold G0
  simp only [e0, oB, next_eq ht h0 h1 hs, e1]
 unfold H5
 rw [e]
 simp only [oB]
 obtain ⟨r, r1, r2, r3, _⟩ := normal_eq (l := [aft t s op]) (by simp)
 rw [r1]
 simp only [oB]
 rw [Ord.ext r2 (by simp) r3]
structure Bq (t : d5) (l : List (List Int)) (m : Mp') (qu : List f4) : Prop where
 node : qu.map (·.node) = l.map (fun s => [s])
 nd : l.Nodup
 rt : ∀ s ∈ l, Rt t s
 map : ∀ s, SetN s t.facts → (0 < (mget m (keyK [s])).getD 0 ↔ s ∈ l)
 len : l.length ≤ 2000
theorem Bq.ql {t : d5} {l : List (List Int)} {m : Mp'} {qu : List f4} (h : Bq t l m qu) : qu.length = l.length := by
 have := congrArg List.length h.node
 simpa using this
theorem Bq.at {t : d5} {l : List (List Int)} {m : Mp'} {qu : List f4} (h : Bq t l m qu) {i : Int} {e : f4} (hi : ix qu i = some e) : ∃ s, ix l i = some s ∧ e.node = [s] := by
 obtain ⟨h0, h1, h2⟩ := j7 hi
 have hg := congrArg (fun l => l[i.toNat]?) h.node
 simp only [List.getElem?_map, h2, Option.map_some] at hg
 cases hs : l[i.toNat]? with
 | none => rw [hs] at hg; cases hg
 | some s =>
  rw [hs] at hg
  simp only [Option.map_some, Option.some.injEq] at hg
  refine ⟨s, ?_, hg⟩
  rw [show i = ((i.toNat : Nat) : Int) by omega, o6]
  exact hs
def Many (t : d5) : Prop := ∃ l : List (List Int), l.Nodup ∧ l.length = 2001 ∧ ∀ s ∈ l, Rt t s
theorem breadth_in {t : d5} (ht : k9 t) {l : List (List Int)} {m : Mp'} {qu : List f4} (h : Bq t l m qu) {c : Int} {e : f4} {s : List Int} (hs : s ∈ l) (he : e.node = [s]) :
  (∃ l' m' qu', u4 t.facts t.init t.goal t.operators qu m c e = some (.inl (m', qu')) ∧ Bq t l' m' qu' ∧ (∃ ex, l' = l ++ ex) ∧ Cls t l' s) ∨ (∃ y, u4 t.facts t.init t.goal t.operators qu m c e = some (.inr y) ∧ Many t) := by
 have hsN := (h.rt s hs).setN ht
 have h24 := ht.n1
 unfold u4
 rcases S9 (body := z1 t.facts t.init t.goal t.operators c e) (n := (t.operators.length : Int)) (s := (m, qu))
  (fun j st => ∃ l', Bq t l' st.1 st.2 ∧ (∃ ex, l' = l ++ ex) ∧ ∀ op : Int, 0 ≤ op → op < j → can t s op → aft t s op ∈ l')
  (fun o => ∃ y, o = .inr y ∧ Many t) (by omega) ⟨l, h, ⟨[], by simp⟩, fun op o0 o1 => by omega⟩
  (fun j st j0 j1 hP => by
   obtain ⟨m1, qu1⟩ := st
   obtain ⟨l1, g1, g2, g3⟩ := hP
   simp only at g1
   have hop := ht.at j0 j1
   have hnew := L5 t s j
   unfold z1
   simp only [ix_op j0 j1, oB, he]
   rw [sure_one hsN.1 hop.1.1.1 (by have := hsN.len; omega)]
   simp only [oB]
   by_cases hc : can t s j
   ·rw [if_pos (i6 (show ∀ x ∈ (opAt t j).pre, x ∈ s from hc))]
    have ea : H5 (⟨t.facts, t.init, t.goal, t.operators⟩ : d5) [s] j = some [aft t s j] := after_one ht hsN j0 j1
    rw [ea]
    simp only [oB, kone_eq (M5 ht hnew) (by have := hnew.len; omega)]
    by_cases hm : aft t s j ∈ l1
    ·rw [if_pos ((g1.map _ hnew).2 hm)]
     refine .inl ⟨_, rfl, l1, g1, g2, fun op o0 o1 oc => ?_⟩
     by_cases eo : op = j
     ·subst eo; exact hm
     ·exact g3 op o0 (by omega) oc
    ·rw [if_neg (fun hx => hm ((g1.map _ hnew).1 hx))]
     have hrt : Rt t (aft t s j) := (h.rt s hs).step j0 j1 hc
     have hnd : (l1 ++ [aft t s j]).Nodup := by
      rw [List.nodup_append]
      refine ⟨g1.nd, by simp, fun a ha b hb eab => ?_⟩
      simp only [List.mem_singleton] at hb
      subst hb; subst eab; exact hm ha
     have hrs : ∀ y ∈ l1 ++ [aft t s j], Rt t y := fun y hy => by
      rcases List.mem_append.1 hy with hy | hy
      ·exact g1.rt y hy
      ·simp only [List.mem_singleton] at hy; subst hy; exact hrt
     have hql := g1.ql
     have hlen := g1.len
     by_cases hq : (qu1.length : Int) = 2000
     ·rw [if_pos hq]
      exact .inr ⟨_, rfl, _, rfl, l1 ++ [aft t s j], hnd, by simp; omega, hrs⟩
     ·rw [if_neg hq]
      have ha : app 40 qu1 [(⟨[aft t s j], c, j⟩ : f4)] = some (qu1 ++ [⟨[aft t s j], c, j⟩]) := by rw [app, if_pos (by simp; omega)]
      rw [ha]
      refine .inl ⟨_, rfl, l1 ++ [aft t s j], ⟨by simp [g1.node], hnd, hrs, fun y hy => ?_, by simp; omega⟩, ?_, fun op o0 o1 oc => ?_⟩
      ·simp only
       rw [Y3]
       by_cases ek : keyK [y] = keyK [aft t s j]
       ·rw [if_pos ek, kone_inj ht hy hnew ek]; simp
       ·rw [if_neg ek, g1.map y hy, List.mem_append, List.mem_singleton]
        exact ⟨.inl, fun g => g.elim id fun g => absurd (by rw [g]) ek⟩
      ·obtain ⟨ex, rfl⟩ := g2
       exact ⟨ex ++ [aft t s j], by simp⟩
      ·by_cases eo : op = j
       ·subst eo; simp
       ·exact List.mem_append_left _ (g3 op o0 (by omega) oc)
   ·rw [if_neg (show ¬ dec (∀ x ∈ (opAt t j).pre, x ∈ s) = true from fun g => hc (g9.1 g))]
    refine .inl ⟨_, rfl, l1, g1, g2, fun op o0 o1 oc => ?_⟩
    by_cases eo : op = j
    ·subst eo; exact absurd oc hc
    ·exact g3 op o0 (by omega) oc) with ⟨⟨m', qu'⟩, h1, l', h2, h3, h4⟩ | ⟨o, h1, y, rfl, h2⟩
 ·left
  rw [h1]
  exact ⟨l', m', qu', rfl, h2, h3, h4⟩
 ·right
  rw [h1]
  exact ⟨y, rfl, h2⟩
theorem breadth_spec {t : d5} (ht : k9 t) : ∃ b, B1 [t.init] t.facts t.init t.goal t.operators = some b ∧ (b = false → Many t) ∧ (b = true → ∃ l : List (List Int), l.Nodup ∧ l.length ≤ 2000 ∧ ∀ s, s ∈ l ↔ Rt t s) := by
 have h24 := ht.n1
 unfold B1 C3
 rw [kone_eq (M5 ht ht.init) (by have := ht.init.len; omega)]
 simp only [oB]
 obtain ⟨o, h1, h2⟩ := G8 (body := z2 t.facts t.init t.goal t.operators) (s := ([(⟨[t.init], -1, 0⟩ : f4)], mset ([] : List (ByteArray × Int)) (keyK [t.init]) 1, 0))
  (fun s => ∃ l, Bq t l s.2.1 s.1 ∧ t.init ∈ l ∧ 0 ≤ s.2.2 ∧ s.2.2 ≤ l.length ∧ ∀ (k : Int) (x : List Int), k < s.2.2 → ix l k = some x → Cls t l x)
  (fun o => (o = .inl () ∧ ∃ l : List (List Int), l.Nodup ∧ l.length ≤ 2000 ∧ ∀ s, s ∈ l ↔ Rt t s) ∨ (o = .inr ([], false, false) ∧ Many t))
  (fun s => 2001 - s.2.2.toNat) ⟨[t.init], ⟨rfl, by simp, fun s hs => by simp at hs; subst hs; exact .init, fun s hs => by
   simp only
   rw [Y3]
   by_cases ek : keyK [s] = keyK [t.init]
   ·rw [if_pos ek, kone_inj ht hs ht.init ek]; simp
   ·rw [if_neg ek]
    simp only [mget, Option.getD_none, List.mem_singleton]
    exact ⟨fun h => by omega, fun g => absurd (by rw [g]) ek⟩, by simp⟩, by simp, by simp only; omega, by simp only; omega, fun k x hk hx => by have := j7 hx; simp only at hk; omega⟩
  (fun s hP => by
   obtain ⟨qu, m, c⟩ := s
   obtain ⟨l, g1, g2, g3, g4, g5⟩ := hP
   simp only at g1 g3 g4 g5
   have hql := g1.ql
   have hlen := g1.len
   unfold z2
   dsimp only
   by_cases cc : c < (qu.length : Int)
   ·rw [if_pos cc]
    obtain ⟨e, he, _⟩ := i9 (l := qu) g3 cc
    obtain ⟨s, hs, hn⟩ := g1.at he
    simp only [he, oB, E2, K1, D3]
    rw [if_neg (by simp)]
    rcases breadth_in ht g1 (c := c) (p8 hs) hn with ⟨l', m', qu', k1, k2, ⟨ex, rfl⟩, k4⟩ | ⟨⟨y1, y2⟩, k1, k2⟩
    ·left
     rw [k1]
     refine ⟨(qu', m', c + 1), by simp only [oB]; rw [k8 (by omega) (by omega)], ⟨l ++ ex, k2, List.mem_append_left _ g2, by simp only; omega, by simp only [List.length_append]; omega, fun k x hk hx => ?_⟩, by simp only; omega⟩
     simp only at hk
     have hx0 := j7 hx
     have hx2 : ix l k = some x := by
      rw [show k = ((k.toNat : Nat) : Int) by omega, o6] at hx ⊢
      rwa [List.getElem?_append_left (by omega)] at hx
     by_cases ek : k = c
     ·subst ek
      rw [hs] at hx2; cases hx2
      exact k4
     ·exact fun op o0 o1 oc => List.mem_append_left _ (g5 k x (by omega) hx2 op o0 o1 oc)
    ·right
     rw [k1]
     exact ⟨_, rfl, .inr ⟨rfl, k2⟩⟩
   ·rw [if_neg cc]
    right
    refine ⟨_, rfl, .inl ⟨rfl, l, g1.nd, hlen, fun s => ⟨g1.rt s, fun hs => hs.mem g2 fun x hx => ?_⟩⟩⟩
    obtain ⟨k, k0, k1, k2⟩ := M3 hx
    exact g5 k x (by omega) k2)
 rw [h1]
 rcases h2 with ⟨rfl, h2⟩ | ⟨rfl, h2⟩
 ·exact ⟨true, rfl, by simp, fun _ => h2⟩
 ·exact ⟨false, rfl, fun _ => h2, by simp⟩
end Ab
end
section
namespace Ab
open Go
structure Rf (t : d5) (l : List (List Int)) (w : List Int) : Prop where
 nd : l.Nodup
 rt : ∀ s ∈ l, Rt t s
 w : w = l.map fun s => (wsN s : Int)
 init : t.init ∈ l
 le : l.length ≤ 2000
theorem many_list {t : d5} {l : List (List Int)} (hn : l.Nodup) (h : ∀ s ∈ l, Rt t s) (hl : l.length = 2000) {s : List Int} (hs : Rt t s) (hsl : s ∉ l) : Many t :=
 ⟨l ++ [s], List.nodup_append.2 ⟨hn, by simp, fun a ha b hb e => by simp at hb; subst hb; subst e; exact hsl ha⟩, by simp [hl], fun x hx => by
  rcases List.mem_append.1 hx with hx | hx
  ·exact h x hx
  ·simp at hx; subst hx; exact hs⟩
theorem rreach_in {t : d5} (ht : k9 t) {l : List (List Int)} {w : List Int} (h : Rf t l w) {i : Int} {s : List Int} (hi : ix l i = some s) :
  (∃ l' w', rngX 0 (t.operators.length : Int) (v8 t i) (l, w) = some (.inl (l', w')) ∧ Rf t l' w' ∧ (∃ m, l' = l ++ m) ∧ Cls t l' s) ∨ (rngX 0 (t.operators.length : Int) (v8 t i) (l, w) = some (.inr ([], false)) ∧ Many t) := by
 have hrs := h.rt s (p8 hi)
 rcases S9 (body := v8 t i) (n := (t.operators.length : Int)) (s := (l, w))
  (fun j c => Rf t c.1 c.2 ∧ (∃ m, c.1 = l ++ m) ∧ ∀ op : Int, 0 ≤ op → op < j → can t s op → aft t s op ∈ c.1) (fun o => o = ([], false) ∧ Many t) (by omega)
  ⟨h, ⟨[], by simp⟩, fun op h0 h1 => by omega⟩ (fun j c j0 j1 hP => by
   obtain ⟨l', w'⟩ := c
   obtain ⟨p1, ⟨m, rfl⟩, p3⟩ := hP
   simp only at p1 p3
   have hi' : ix (l ++ m) i = some s := by
    obtain ⟨h0, h1, h2⟩ := j7 hi
    rw [ix, if_pos h0, List.getElem?_append_left (by omega)]; exact h2
   have hsa := L5 t s j
   have step : ∀ c' : List (List Int) × List Int, (∀ x, x ∈ l ++ m → x ∈ c'.1) → (can t s j → aft t s j ∈ c'.1) → ∀ op : Int, 0 ≤ op → op < j + 1 → can t s op → aft t s op ∈ c'.1 := fun c' a b op h0 h1 hc => by
    by_cases e : op = j
    ·subst e; exact b hc
    ·exact a _ (p3 op h0 (by omega) hc)
   unfold v8
   simp only [hi', oB, N3 j0 j1]
   by_cases hc : can t s j
   ·simp only [i6 hc, Bool.not_true, Bool.false_eq_true, if_false, X9 ht j0 j1, oB, word_eq hsa ht.n1, has_eq]
    have hmem : ((wsN (aft t s j) : Nat) : Int) ∈ w' ↔ aft t s j ∈ l ++ m := by
     rw [p1.w, List.mem_map]
     constructor
     ·rintro ⟨x, hx, e⟩
      have := ((p1.rt x hx).setN ht).word_inj hsa (by omega)
      rwa [← this]
     ·intro hx; exact ⟨_, hx, rfl⟩
    by_cases hm : aft t s j ∈ l ++ m
    ·rw [if_pos (i6 (hmem.2 hm))]
     exact .inl ⟨_, rfl, p1, ⟨m, rfl⟩, step (l ++ m, w') (fun _ h => h) (fun _ => hm)⟩
    ·rw [if_neg (by rw [n7 (fun q => hm (hmem.1 q))]; simp)]
     have hnr : Rt t (aft t s j) := hrs.step j0 j1 hc
     have hle := p1.le
     by_cases hl : (l ++ m).length = 2000
     ·rw [if_pos (by rw [hl]; rfl)]
      exact .inr ⟨_, rfl, rfl, many_list p1.nd p1.rt hl hnr hm⟩
     ·rw [if_neg (by omega)]
      have hw : w'.length = (l ++ m).length := by rw [p1.w]; simp
      have a1 : app 24 (l ++ m) [aft t s j] = some (l ++ m ++ [aft t s j]) := by unfold app; rw [if_pos (by simp only [List.length_singleton]; omega)]
      have a2 : app 8 w' [((wsN (aft t s j) : Nat) : Int)] = some (w' ++ [((wsN (aft t s j) : Nat) : Int)]) := by unfold app; rw [if_pos (by simp only [List.length_singleton]; omega)]
      simp only [a1, a2, oB]
      refine .inl ⟨_, rfl, ⟨?_, ?_, ?_, ?_, ?_⟩, ⟨m ++ [aft t s j], by simp⟩, step (_, _) (fun x hx => List.mem_append_left _ hx) (fun _ => by simp)⟩
      ·exact List.nodup_append.2 ⟨p1.nd, by simp, fun a ha b hb e => by simp at hb; subst hb; subst e; exact hm ha⟩
      ·intro x hx
       rcases List.mem_append.1 hx with hx | hx
       ·exact p1.rt x hx
       ·simp at hx; subst hx; exact hnr
      ·rw [p1.w]; simp
      ·exact List.mem_append_left _ p1.init
      ·simp only [List.length_append, List.length_singleton] at hl hle ⊢; omega
   ·simp only [n7 hc, Bool.not_false, if_true]
    exact .inl ⟨_, rfl, p1, ⟨m, rfl⟩, step (l ++ m, w') (fun _ h => h) (fun q => absurd q hc)⟩) with ⟨⟨l', w'⟩, h1, h2, h3, h4⟩ | ⟨o, h1, rfl, h2⟩
 ·exact .inl ⟨l', w', h1, h2, h3, fun op h0 h1 hc => h4 op h0 h1 hc⟩
 ·exact .inr ⟨h1, h2⟩
theorem ad5 {t : d5} (ht : k9 t) : ∃ l b, M4 t = some (l, b) ∧ (b = false → Many t) ∧ (b = true → l.Nodup ∧ l.length ≤ 2000 ∧ (∀ s, s ∈ l ↔ Rt t s) ∧ ix l 0 = some t.init) := by
 unfold M4 I2
 simp only [word_eq ht.init ht.n1, oB]
 obtain ⟨o, h1, h2⟩ := G8 (body := D4 t) (s := ([t.init], [((wsN t.init : Nat) : Int)], 0))
  (fun s => Rf t s.1 s.2.1 ∧ 0 ≤ s.2.2 ∧ s.2.2 ≤ s.1.length ∧ (∀ i x, i < s.2.2 → ix s.1 i = some x → Cls t s.1 x) ∧ ix s.1 0 = some t.init)
  (fun o => match o with | .inl l => l.Nodup ∧ l.length ≤ 2000 ∧ (∀ s, s ∈ l ↔ Rt t s) ∧ ix l 0 = some t.init | .inr x => x = ([], false) ∧ Many t)
  (fun s => 2001 - s.2.2.toNat) ⟨⟨by simp, fun s hs => by simp at hs; subst hs; exact .init, by simp, by simp, by simp⟩, Int.le_refl 0, by simp, fun i x hi hx => by have := (j7 hx).1; simp only at hi; omega, rfl⟩ (by
   rintro ⟨l, w, i⟩ ⟨p1, p2, p3, p4, p5⟩
   simp only at p1 p2 p3 p4 p5
   unfold D4
   have hle := p1.le
   by_cases c : i < (l.length : Int)
   ·simp only [if_pos c]
    obtain ⟨s, hs, _⟩ := i9 p2 c
    rcases rreach_in ht p1 hs with ⟨l', w', k1, k2, ⟨m, rfl⟩, k4⟩ | ⟨k1, k2⟩
    ·rw [k1]
     simp only [oB]
     have hw : w64 (i + 1) = i + 1 := k8 (by omega) (by omega)
     rw [hw]
     have hup : ∀ j x, ix l j = some x → ix (l ++ m) j = some x := fun j x hj => by
      obtain ⟨h0, h1, h2⟩ := j7 hj
      rw [ix, if_pos h0, List.getElem?_append_left (by omega)]; exact h2
     refine .inl ⟨_, rfl, ⟨k2, by simp only; omega, by simp; omega, fun j x hj hx => ?_, hup _ _ p5⟩, by simp only; omega⟩
     simp only at hj hx ⊢
     by_cases e : j = i
     ·subst e
      rw [hup _ _ hs] at hx; cases hx; exact k4
     ·have h0 := (j7 hx).1
      obtain ⟨y, hy, _⟩ := i9 (l := l) h0 (by omega)
      rw [hup _ _ hy] at hx; cases hx
      exact fun op g0 g1 hc => List.mem_append_left _ (p4 j _ (by omega) hy op g0 g1 hc)
    ·rw [k1]
     exact .inr ⟨_, rfl, rfl, k2⟩
   ·simp only [if_neg c]
    refine .inr ⟨.inl l, rfl, p1.nd, p1.le, fun s => ⟨p1.rt s, fun hs => ?_⟩, p5⟩
    exact hs.mem p1.init fun x hx => by
     obtain ⟨j, j0, j1, hj⟩ := M3 hx
     exact p4 j x (by omega) hj)
 rw [h1]
 rcases o with l | o
 ·exact ⟨l, true, rfl, by simp, fun _ => h2⟩
 ·obtain ⟨rfl, h3⟩ := h2
  exact ⟨[], false, rfl, fun _ => h3, by simp⟩
end Ab
end
section
namespace Ab
open Go
inductive Nr (t : d5) : List Int → List Int → Nat → Prop
 | goal {s : List Int} (h : ∀ x ∈ t.goal, x ∈ s) : Nr t [] s 0
 | del {x : Int} {r s : List Int} {n : Nat} (h : Nr t r s n) : Nr t (x :: r) s (n + 1)
 | keep {x : Int} {r s : List Int} {n : Nat} (h0 : 0 ≤ x) (h1 : x < t.operators.length) (hc : can t s x) (h : Nr t r (aft t s x) n) : Nr t (x :: r) s n
 | ins {op : Int} {r s : List Int} {n : Nat} (h0 : 0 ≤ op) (h1 : op < t.operators.length) (hc : can t s op) (h : Nr t r (aft t s op) n) : Nr t r s (n + 1)
def Vl (t : d5) (p : List Int) : Prop := ∀ x ∈ p, (0 : Int) ≤ x ∧ x < t.operators.length
theorem N5 {t : d5} {s p : List Int} {op : Int} : C2 t s (op :: p) ↔ can t s op ∧ C2 t (aft t s op) p := by
 unfold C2
 constructor
 ·rintro ⟨e, h1, h2⟩
  simp only [ends] at h1
  split at h1
  ·rename_i hc; exact ⟨g9.1 hc, e, h1, h2⟩
  ·cases h1
 ·rintro ⟨hc, e, h1, h2⟩
  exact ⟨e, by simp only [ends]; rw [if_pos (i6 hc)]; exact h1, h2⟩
theorem works_nil {t : d5} {s : List Int} : C2 t s [] ↔ ∀ x ∈ t.goal, x ∈ s := by
 unfold C2
 constructor
 ·rintro ⟨e, h1, h2⟩; cases h1; exact h2
 ·intro h; exact ⟨s, rfl, h⟩
theorem Nr.plan {t : d5} {r s : List Int} {n : Nat} (h : Nr t r s n) : ∃ p, Vl t p ∧ C2 t s p ∧ Ed n r p := by
 induction h with
 | goal h => exact ⟨[], by simp [Vl], works_nil.2 h, .nil⟩
 | del _ ih => obtain ⟨p, h1, h2, h3⟩ := ih; exact ⟨p, h1, h2, .del h3⟩
 | keep h0 h1 hc _ ih =>
  obtain ⟨p, p1, p2, p3⟩ := ih
  exact ⟨_ :: p, fun y hy => by
   rcases List.mem_cons.1 hy with rfl | hy
   ·exact ⟨h0, h1⟩
   ·exact p1 y hy, N5.2 ⟨hc, p2⟩, .keep p3⟩
 | ins h0 h1 hc _ ih =>
  obtain ⟨p, p1, p2, p3⟩ := ih
  exact ⟨_ :: p, fun y hy => by
   rcases List.mem_cons.1 hy with rfl | hy
   ·exact ⟨h0, h1⟩
   ·exact p1 y hy, N5.2 ⟨hc, p2⟩, .ins p3⟩
theorem Nr.of {t : d5} {n : Nat} {r p : List Int} (h : Ed n r p) : ∀ {s : List Int}, Vl t p → C2 t s p → Nr t r s n := by
 induction h with
 | nil => intro s _ hw; exact .goal (works_nil.1 hw)
 | keep _ ih =>
  intro s hv hw
  have hw := N5.1 hw
  have h := hv _ List.mem_cons_self
  exact .keep h.1 h.2 hw.1 (ih (fun y hy => hv y (List.mem_cons_of_mem _ hy)) hw.2)
 | del _ ih => intro s hv hw; exact .del (ih hv hw)
 | ins _ ih =>
  intro s hv hw
  have hw := N5.1 hw
  have h := hv _ List.mem_cons_self
  exact .ins h.1 h.2 hw.1 (ih (fun y hy => hv y (List.mem_cons_of_mem _ hy)) hw.2)
/-! ### A plan that is short -/
def Wl (t : d5) (n : Nat) (s : List Int) : Prop := ∃ p, p.length = n ∧ Vl t p ∧ C2 t s p
def MWl (t : d5) (n : Nat) (s : List Int) : Prop := Wl t n s ∧ ∀ m, m < n → ¬ Wl t m s
theorem MWl.of {t : d5} : ∀ {n : Nat} {s : List Int}, Wl t n s → ∃ m, m ≤ n ∧ MWl t m s := by
 intro n
 induction n using Nat.strongRecOn with
 | _ n ih =>
  intro s h
  by_cases c : ∃ m, m < n ∧ Wl t m s
  ·obtain ⟨m, m1, m2⟩ := c
   obtain ⟨q, q1, q2⟩ := ih m m1 m2
   exact ⟨q, by omega, q2⟩
  ·exact ⟨n, Nat.le_refl _, h, fun m hm hh => c ⟨m, hm, hh⟩⟩
theorem MWl.chain {t : d5} : ∀ {n : Nat} {s : List Int}, Rt t s → MWl t n s → ∃ l : List (List Int), l.length = n + 1 ∧ l.Nodup ∧ ∀ y ∈ l, Rt t y ∧ ∃ m, m ≤ n ∧ MWl t m y
 | 0, s, hs, h => ⟨[s], rfl, by simp, fun y hy => by simp at hy; subst hy; exact ⟨hs, 0, Nat.le_refl _, h⟩⟩
 | n + 1, s, hs, h => by
  obtain ⟨⟨p, p1, p2, p3⟩, h2⟩ := h
  cases p with
  | nil => simp at p1
  | cons op p =>
   have hw := N5.1 p3
   have hv := p2 op List.mem_cons_self
   have h' : MWl t n (aft t s op) := ⟨⟨p, by simpa using p1, fun y hy => p2 y (List.mem_cons_of_mem _ hy), hw.2⟩, fun q hq ⟨p', a, b, c⟩ => h2 (q + 1) (by omega) ⟨op :: p', by simp [a], fun y hy => by
    rcases List.mem_cons.1 hy with rfl | hy
    ·exact hv
    ·exact b y hy, N5.2 ⟨hw.1, c⟩⟩⟩
   obtain ⟨l, l1, l2, l3⟩ := MWl.chain (hs.step hv.1 hv.2 hw.1) h'
   refine ⟨s :: l, by simp [l1], List.nodup_cons.2 ⟨fun hxl => ?_, l2⟩, fun y hy => ?_⟩
   ·obtain ⟨_, q, q1, q2⟩ := l3 s hxl
    exact h2 q (by omega) q2.1
   ·rcases List.mem_cons.1 hy with rfl | hy
    ·exact ⟨hs, n + 1, Nat.le_refl _, ⟨_, p1, p2, p3⟩, h2⟩
    ·obtain ⟨y1, q, q1, q2⟩ := l3 y hy
     exact ⟨y1, q, by omega, q2⟩
theorem short_plan {t : d5} {S : List (List Int)} (hS : ∀ s, Rt t s → s ∈ S) {s p : List Int} (hs : Rt t s) (hv : Vl t p) (hw : C2 t s p) : ∃ p', p'.length + 1 ≤ S.length ∧ Vl t p' ∧ C2 t s p' := by
 obtain ⟨m, _, hm⟩ := MWl.of ⟨p, rfl, hv, hw⟩
 obtain ⟨l, l1, l2, l3⟩ := hm.chain hs
 have := U5 l2 (S := S) fun y hy => hS y (l3 y hy).1
 obtain ⟨p', a, b, c⟩ := hm.1
 exact ⟨p', by omega, b, c⟩
/-! ### The table -/
structure Row (t : d5) (S : List (List Int)) (rest : List Int) (B : Int) (v : List Int) : Prop where
 len : v.length = S.length
 bd : ∀ i x, ix v i = some x → 0 ≤ x ∧ x ≤ B
 sound : ∀ i s x, ix S i = some s → ix v i = some x → x < 1000000000 → Nr t rest s x.toNat
 low : ∀ i s x, ix S i = some s → ix v i = some x → (rest = [] → (∀ y ∈ t.goal, y ∈ s) → x ≤ 0) ∧ ∀ a r, rest = a :: r → (∀ n : Nat, Nr t r s n → x ≤ n + 1) ∧ (0 ≤ a → a < t.operators.length → can t s a → ∀ n : Nat, Nr t r (aft t s a) n → x ≤ n)
def Full (t : d5) (S : List (List Int)) (rest v : List Int) : Prop := ∀ i s x (n : Nat), ix S i = some s → ix v i = some x → Nr t rest s n → x ≤ n
def Fix1 (t : d5) (S : List (List Int)) (v : List Int) (i op : Int) : Prop := ∀ s, ix S i = some s → can t s op → ∀ j x y, ix S j = some (aft t s op) → ix v i = some x → ix v j = some y → x ≤ y + 1
structure Sts (t : d5) (S : List (List Int)) : Prop where
 nd : S.Nodup
 len : S.length ≤ 35
 iff : ∀ s, s ∈ S ↔ Rt t s
theorem Sts.next {t : d5} {S : List (List Int)} (h : Sts t S) {i op : Int} {s : List Int} (hi : ix S i = some s) (h0 : 0 ≤ op) (h1 : op < t.operators.length) (hc : can t s op) : ∃ r, G1 S (aft t s op) = some r ∧ ix S r = some (aft t s op) := by
 have hs := (h.iff s).1 (p8 hi)
 obtain ⟨r, r1, r2⟩ := place_eq S (aft t s op)
 rcases r2 with ⟨_, r2⟩ | ⟨_, _, r2, _⟩
 ·exact absurd ((h.iff _).2 (hs.step h0 h1 hc)) r2
 ·exact ⟨r, r1, r2⟩
theorem nodup_ix {S : List (List Int)} (h : S.Nodup) {i j : Int} {s : List Int} (hi : ix S i = some s) (hj : ix S j = some s) : i = j := by
 obtain ⟨i0, i1, i2⟩ := j7 hi
 obtain ⟨j0, j1, j2⟩ := j7 hj
 have := (List.getElem?_inj (i := i.toNat) (j := j.toNat) (by omega) h).1 (i2.trans j2.symm)
 omega
theorem full_of {t : d5} {S : List (List Int)} (hS : Sts t S) {rest v : List Int} {B : Int} (hr : Row t S rest B v) (hf : ∀ i op : Int, 0 ≤ op → op < t.operators.length → Fix1 t S v i op) : Full t S rest v := by
 intro i s x n hi hx hn
 induction hn generalizing i x with
 | goal h => simpa using (hr.low i _ x hi hx).1 rfl h
 | del h _ => have := ((hr.low i _ x hi hx).2 _ _ rfl).1 _ h; push_cast; omega
 | keep h0 h1 hc h _ => exact ((hr.low i _ x hi hx).2 _ _ rfl).2 h0 h1 hc _ h
 | @ins op r s n h0 h1 hc h ih =>
  obtain ⟨j, _, hj⟩ := hS.next hi h0 h1 hc
  obtain ⟨y, hy, _⟩ := i9 (l := v) (j7 hj).1 (by rw [hr.len]; exact (j7 hj).2.1)
  have := hf i op h0 h1 s hi hc j x y hj hx hy
  have := ih hr j y hj hy
  push_cast; omega
def sumI (v : List Int) : Nat := (v.map Int.toNat).sum
theorem sumI_set : ∀ {v : List Int} {k : Nat} {a x : Int}, v[k]? = some a → sumI (v.set k x) + a.toNat = sumI v + x.toNat
 | [], k, a, x, h => by simp at h
 | b :: v, 0, a, x, h => by
  simp at h; subst h
  simp only [sumI, List.set_cons_zero, List.map_cons, List.sum_cons]; omega
 | b :: v, k + 1, a, x, h => by
  have := sumI_set (v := v) (k := k) (a := a) (x := x) (by simpa using h)
  simp only [sumI, List.set_cons_succ, List.map_cons, List.sum_cons] at this ⊢; omega
theorem Row.lower {t : d5} {S : List (List Int)} {rest v : List Int} {B : Int} (h : Row t S rest B v) {i x : Int} {s : List Int} (hi : ix S i = some s) {a : Int} (ha : ix v i = some a) (h0 : 0 ≤ x) (hx : x < a) (hn : x < 1000000000 → Nr t rest s x.toNat) : Row t S rest B (v.set i.toNat x) := by
 obtain ⟨i0, i1, _⟩ := j7 ha
 have hg : ∀ j y, ix (v.set i.toNat x) j = some y → (j = i ∧ y = x) ∨ (j ≠ i ∧ ix v j = some y) := fun j y hy => by
  have j0 := (j7 hy).1
  rw [R6 i0 i1 j0] at hy
  by_cases e : j = i
  ·rw [if_pos e] at hy; cases hy; exact .inl ⟨e, rfl⟩
  ·rw [if_neg e] at hy; exact .inr ⟨e, hy⟩
 refine ⟨by simp [h.len], fun j y hy => ?_, fun j s' y hs hy hl => ?_, fun j s' y hs hy => ?_⟩
 ·rcases hg j y hy with ⟨_, rfl⟩ | ⟨_, hy⟩
  ·have := h.bd i a ha; omega
  ·exact h.bd j y hy
 ·rcases hg j y hy with ⟨rfl, rfl⟩ | ⟨_, hy⟩
  ·rw [hi] at hs; cases hs; exact hn hl
  ·exact h.sound j s' y hs hy hl
 ·rcases hg j y hy with ⟨rfl, rfl⟩ | ⟨_, hy⟩
  ·have := h.low j s' a hs ha
   exact ⟨fun e g => by have := this.1 e g; omega, fun b r e => ⟨fun n hn => by have := (this.2 b r e).1 n hn; omega, fun q0 q1 q2 n hn => by have := (this.2 b r e).2 q0 q1 q2 n hn; omega⟩⟩
  ·exact h.low j s' y hs hy
end Ab
end
section
namespace Ab
open Go
section
variable {t : d5} {S : List (List Int)} {rest : List Int} {B : Int} {c0 : List (List Int)} {k : Int}
theorem fix_row {v : List Int} {i op : Int} (h : ∀ s, ix S i = some s → ¬ can t s op) : Fix1 t S v i op := fun s hs hc => absurd hc (h s hs)
structure Sw (t : d5) (S : List (List Int)) (rest : List Int) (B : Int) (v v' : List Int) (again : Bool) (did : Int → Int → Prop) : Prop where
 row : Row t S rest B v'
 or : (v' = v ∧ again = false ∧ ∀ i op : Int, 0 ≤ op → op < t.operators.length → did i op → Fix1 t S v i op) ∨ (again = true ∧ sumI v' < sumI v)
theorem near_in (ht : k9 t) (hS : Sts t S) (hB : B ≤ 2000000000) (hk : 0 ≤ k) (hk1 : k < c0.length) {i : Int} {s : List Int} (hi : ix S i = some s) {v v1 : List Int} {ag : Bool} (h : Sw t S rest B v v1 ag fun i' _ => i' < i) :
  ∃ v2 ag2, forR 0 (t.operators.length : Int) (F5 t S k i) (c0.set k.toNat v1, ag) = some (c0.set k.toNat v2, ag2) ∧ Sw t S rest B v v2 ag2 fun i' _ => i' < i + 1 := by
 have hat : ∀ w : List Int, ix (c0.set k.toNat w) k = some w := fun w => by rw [R6 hk hk1 hk, if_pos rfl]
 obtain ⟨c, h1, v2, ag2, rfl, h2⟩ := C9 (body := F5 t S k i) (n := (t.operators.length : Int)) (s := (c0.set k.toNat v1, ag))
  (fun j c => ∃ v2 ag2, c = (c0.set k.toNat v2, ag2) ∧ Sw t S rest B v v2 ag2 fun i' op => i' < i ∨ i' = i ∧ op < j) (by omega)
  ⟨v1, ag, rfl, h.row, h.or.imp_left fun ⟨a, b, c⟩ => ⟨a, b, fun i' op h0 h1 hd => c i' op h0 h1 (by rcases hd with hd | hd <;> omega)⟩⟩ (fun j c j0 j1 hP => by
   obtain ⟨v2, ag2, rfl, hw⟩ := hP
   unfold F5
   simp only [hi, oB, N3 j0 j1]
   by_cases hc : can t s j
   ·simp only [i6 hc, Bool.not_true, Bool.false_eq_true, if_false, X9 ht j0 j1, oB, hat]
    obtain ⟨r, r1, r2⟩ := hS.next hi j0 j1 hc
    obtain ⟨y, hy, _⟩ := i9 (l := v2) (j7 r2).1 (by rw [hw.row.len]; exact (j7 r2).2.1)
    obtain ⟨x, hx, gx⟩ := i9 (l := v2) (j7 hi).1 (by rw [hw.row.len]; exact (j7 hi).2.1)
    have hyb := hw.row.bd r y hy
    have hxb := hw.row.bd i x hx
    have hwr : w64 (y + 1) = y + 1 := k8 (by omega) (by omega)
    simp only [r1, oB, hy, hx, hwr]
    by_cases cc : y + 1 < x
    ·rw [if_pos cc]
     simp only [List.set_set, oB]
     have hl := hw.row.lower hi hx (x := y + 1) (by omega) cc (fun hlt => by
      have := hw.row.sound r _ y r2 hy (by omega)
      rw [show (y + 1).toNat = y.toNat + 1 by omega]
      exact .ins j0 j1 hc this)
     have hsum := sumI_set (x := y + 1) gx
     refine ⟨_, rfl, v2.set i.toNat (y + 1), true, rfl, hl, .inr ⟨rfl, ?_⟩⟩
     rcases hw.or with ⟨rfl, _, _⟩ | ⟨_, h⟩ <;> omega
    ·rw [if_neg cc]
     refine ⟨_, rfl, v2, ag2, rfl, hw.row, hw.or.imp_left fun ⟨a, b, c⟩ => ⟨a, b, fun i' op h0 h1 hd => ?_⟩⟩
     by_cases e : i' = i ∧ op = j
     ·obtain ⟨rfl, rfl⟩ := e
      subst a
      intro s' hs' _ j' x' y' hj' hx' hy'
      rw [hi] at hs'; cases hs'
      have := nodup_ix hS.nd r2 hj'
      subst this
      rw [hx] at hx'; cases hx'
      rw [hy] at hy'; cases hy'
      omega
     ·exact c i' op h0 h1 (by rcases hd with hd | hd <;> omega)
   ·simp only [n7 hc, Bool.not_false, if_true]
    refine ⟨_, rfl, v2, ag2, rfl, hw.row, hw.or.imp_left fun ⟨a, b, c⟩ => ⟨a, b, fun i' op h0 h1 hd => ?_⟩⟩
    by_cases e : i' = i ∧ op = j
    ·obtain ⟨rfl, rfl⟩ := e
     exact fix_row fun s' hs' => by rw [hi] at hs'; cases hs'; exact hc
    ·exact c i' op h0 h1 (by rcases hd with hd | hd <;> omega))
 exact ⟨v2, ag2, h1, h2.row, h2.or.imp_left fun ⟨a, b, c⟩ => ⟨a, b, fun i' op h0 h1 hd => c i' op h0 h1 (by omega)⟩⟩
theorem near_sweep (ht : k9 t) (hS : Sts t S) (hB : B ≤ 2000000000) (hk : 0 ≤ k) (hk1 : k < c0.length) {v : List Int} (h : Row t S rest B v) :
  ∃ v2 ag2, forR 0 (S.length : Int) (F1 t S k) (c0.set k.toNat v, false) = some (c0.set k.toNat v2, ag2) ∧ Row t S rest B v2 ∧ ((ag2 = false ∧ v2 = v ∧ Full t S rest v2) ∨ (ag2 = true ∧ sumI v2 < sumI v)) := by
 obtain ⟨c, h1, v2, ag2, rfl, h2⟩ := C9 (body := F1 t S k) (n := (S.length : Int)) (s := (c0.set k.toNat v, false))
  (fun j c => ∃ v2 ag2, c = (c0.set k.toNat v2, ag2) ∧ Sw t S rest B v v2 ag2 fun i' _ => i' < j) (by omega)
  ⟨v, false, rfl, h, .inl ⟨rfl, rfl, fun i op _ _ hd s hs => by have := (j7 hs).1; omega⟩⟩ (fun j c j0 j1 hP => by
   obtain ⟨v2, ag2, rfl, hw⟩ := hP
   obtain ⟨s, hs, _⟩ := i9 j0 j1
   obtain ⟨v3, ag3, k1, k2⟩ := near_in ht hS hB hk hk1 hs hw
   unfold F1
   simp only [k1, oB]
   exact ⟨_, rfl, v3, ag3, rfl, k2⟩)
 refine ⟨v2, ag2, h1, h2.row, ?_⟩
 rcases h2.or with ⟨rfl, a, b⟩ | h3
 ·refine .inl ⟨a, rfl, full_of hS h2.row fun i op h0 h1 s hs => b i op h0 h1 (j7 hs).2.1 s hs⟩
 ·exact .inr h3
theorem near_fix (ht : k9 t) (hS : Sts t S) (hB : B ≤ 2000000000) (hk : 0 ≤ k) (hk1 : k < c0.length) {v : List Int} (h : Row t S rest B v) :
  ∃ v2, Loop (F9 t S k) (c0.set k.toNat v, true) = some (c0.set k.toNat v2) ∧ Row t S rest B v2 ∧ Full t S rest v2 := by
 obtain ⟨o, h1, v2, rfl, h2⟩ := G8 (body := F9 t S k) (s := (c0.set k.toNat v, true))
  (fun s => ∃ v2, s.1 = c0.set k.toNat v2 ∧ Row t S rest B v2 ∧ (s.2 = false → Full t S rest v2)) (fun o => ∃ v2, o = c0.set k.toNat v2 ∧ Row t S rest B v2 ∧ Full t S rest v2)
  (fun s => 2 * (match ix s.1 k with | some v => sumI v | none => 0) + s.2.toNat) ⟨v, rfl, h, by simp⟩ (by
   rintro ⟨c, ag⟩ ⟨v2, rfl, p1, p2⟩
   have hat : ∀ w : List Int, ix (c0.set k.toNat w) k = some w := fun w => by rw [R6 hk hk1 hk, if_pos rfl]
   unfold F9
   cases ag with
   | false => exact .inr ⟨_, by simp, v2, rfl, p1, p2 rfl⟩
   | true =>
    obtain ⟨v3, ag3, k1, k2, k3⟩ := near_sweep ht hS hB hk hk1 p1
    simp only [if_true, k1, oB]
    refine .inl ⟨_, rfl, ⟨v3, rfl, k2, fun e => ?_⟩, ?_⟩
    ·rcases k3 with ⟨_, _, k3⟩ | ⟨k3, _⟩
     ·exact k3
     ·simp only at e; rw [k3] at e; cases e
    ·simp only [hat]
     rcases k3 with ⟨rfl, rfl, _⟩ | ⟨rfl, k3⟩
     ·simp only [Bool.toNat_true, Bool.toNat_false]; omega
     ·simp only [Bool.toNat_true]; omega)
 exact ⟨v2, h1, h2⟩
theorem mkL_some {α : Type} {b : Nat} {n : Nat} {z : α} (h : b * n ≤ 281474976710656) (hn : n ≤ 9223372036854775807) : mkL b (n : Int) z = some (List.replicate n z) := by
 rw [mkL, if_pos ⟨by omega, by omega, by omega⟩]; simp
theorem near_fill (ht : k9 t) (hS : Sts t S) {plan : List Int} (hpl : plan.length ≤ 12) (hv : Vl t plan) {n : Nat} (hn : n ≤ plan.length) {c0 : List (List Int)} (hc0 : c0.length = plan.length + 1)
  (hnext : ∀ x r, plan.drop n = x :: r → ∃ v, ix c0 ((n : Int) + 1) = some v ∧ Row t S r (1000000000 + (plan.length - (n + 1) : Nat)) v ∧ Full t S r v) :
  ∃ v, forR 0 (S.length : Int) (n3 t S plan (n : Int)) (c0.set n (List.replicate S.length 0)) = some (c0.set n v) ∧ Row t S (plan.drop n) (1000000000 + (plan.length - n : Nat)) v := by
 have hk : (0 : Int) ≤ (n : Int) := by omega
 have hk1 : (n : Int) < c0.length := by omega
 have hat : ∀ w : List Int, ix (c0.set n w) (n : Int) = some w := fun w => by
  have := R6 (x := w) hk hk1 hk
  rwa [if_pos rfl] at this
 have hot : ∀ (w : List Int) (j : Int), 0 ≤ j → j ≠ (n : Int) → ix (c0.set n w) j = ix c0 j := fun w j j0 hj => by
  have := R6 (x := w) hk hk1 j0
  rwa [if_neg hj] at this
 obtain ⟨c, h1, v, rfl, h2, h3⟩ := C9 (body := n3 t S plan (n : Int)) (n := (S.length : Int)) (s := c0.set n (List.replicate S.length 0))
  (fun j c => ∃ v, c = c0.set n v ∧ v.length = S.length ∧ ∀ i s x, i < j → ix S i = some s → ix v i = some x →
   (0 ≤ x ∧ x ≤ 1000000000 + (plan.length - n : Nat)) ∧ (x < 1000000000 → Nr t (plan.drop n) s x.toNat) ∧ (plan.drop n = [] → (∀ y ∈ t.goal, y ∈ s) → x ≤ 0) ∧ ∀ a r, plan.drop n = a :: r → (∀ m : Nat, Nr t r s m → x ≤ m + 1) ∧ (0 ≤ a → a < t.operators.length → can t s a → ∀ m : Nat, Nr t r (aft t s a) m → x ≤ m)) (by omega)
  ⟨_, rfl, by simp, fun i s x hi hs => by have := (j7 hs).1; omega⟩ (fun j c j0 j1 hP => by
   obtain ⟨v, rfl, hl, hd⟩ := hP
   obtain ⟨s, hs, _⟩ := i9 (l := S) j0 j1
   obtain ⟨z, hz, _⟩ := i9 (l := v) j0 (by omega)
   have hvat : ∀ (w : List Int) (y : Int), w.length = S.length → ix (w.set j.toNat y) j = some y := fun w y hw => by rw [R6 j0 (by omega) j0, if_pos rfl]
   -- what is enough
   have fin : ∀ x : Int, ((0 ≤ x ∧ x ≤ 1000000000 + (plan.length - n : Nat)) ∧ (x < 1000000000 → Nr t (plan.drop n) s x.toNat) ∧ (plan.drop n = [] → (∀ y ∈ t.goal, y ∈ s) → x ≤ 0) ∧ ∀ a r, plan.drop n = a :: r → (∀ m : Nat, Nr t r s m → x ≤ m + 1) ∧ (0 ≤ a → a < t.operators.length → can t s a → ∀ m : Nat, Nr t r (aft t s a) m → x ≤ m)) →
     n3 t S plan (n : Int) j (c0.set n v) = some (c0.set n (v.set j.toNat x)) → ∃ s', n3 t S plan (n : Int) j (c0.set n v) = some s' ∧ ∃ v', s' = c0.set n v' ∧ v'.length = S.length ∧ ∀ i s x, i < j + 1 → ix S i = some s → ix v' i = some x →
   (0 ≤ x ∧ x ≤ 1000000000 + (plan.length - n : Nat)) ∧ (x < 1000000000 → Nr t (plan.drop n) s x.toNat) ∧ (plan.drop n = [] → (∀ y ∈ t.goal, y ∈ s) → x ≤ 0) ∧ ∀ a r, plan.drop n = a :: r → (∀ m : Nat, Nr t r s m → x ≤ m + 1) ∧ (0 ≤ a → a < t.operators.length → can t s a → ∀ m : Nat, Nr t r (aft t s a) m → x ≤ m) := fun x hx e => by
    refine ⟨_, e, _, rfl, by simp [hl], fun i s' y hi hs' hy => ?_⟩
    have i0 := (j7 hs').1
    rw [R6 j0 (by omega) i0] at hy
    by_cases c : i = j
    ·subst c
     rw [if_pos rfl] at hy; cases hy
     rw [hs] at hs'; cases hs'
     exact hx
    ·rw [if_neg c] at hy
     exact hd i s' y (by omega) hs' hy
   by_cases hnl : n = plan.length
   · -- nothing remains
    subst hnl
    have hdrop : plan.drop plan.length = [] := List.drop_length
    by_cases hg : ∀ y ∈ t.goal, y ∈ s
    ·refine fin 0 ⟨⟨by omega, by omega⟩, fun _ => by rw [hdrop]; exact .goal hg, fun _ _ => Int.le_refl 0, fun a r e => by rw [hdrop] at e; cases e⟩ ?_
     unfold n3
     simp only [hat, hs, hz, oB, if_true, Y8, i6 hg, Int.toNat_natCast, hvat _ _ hl, List.set_set, Int.lt_irrefl, if_false]
    ·refine fin 1000000000 ⟨⟨by omega, by omega⟩, fun h => by omega, fun _ h => absurd h hg, fun a r e => by rw [hdrop] at e; cases e⟩ ?_
     unfold n3
     simp only [hat, hs, hz, oB, if_true, Y8, n7 hg, Int.toNat_natCast, Bool.false_eq_true, if_false, Int.lt_irrefl, List.set_set]
   ·have hlt : n < plan.length := by omega
    obtain ⟨a, ha⟩ : ∃ a, plan[n]? = some a := ⟨plan[n], List.getElem?_eq_getElem hlt⟩
    have hdrop : plan.drop n = a :: plan.drop (n + 1) := by
     obtain ⟨hl, rfl⟩ := List.getElem?_eq_some_iff.1 ha
     exact List.drop_eq_getElem_cons hl
    have hia : ix plan (n : Int) = some a := by rw [o6]; exact ha
    have hav := hv a (p8 hia)
    obtain ⟨w, w1, w2, w3⟩ := hnext _ _ hdrop
    obtain ⟨y, hy, _⟩ := i9 (l := w) j0 (by rw [w2.len]; omega)
    have hyb := w2.bd j y hy
    have hw1 : w64 ((n : Int) + 1) = (n : Int) + 1 := k8 (by omega) (by omega)
    have hw2 : w64 (y + 1) = y + 1 := k8 (by omega) (by omega)
    have hnx : ∀ u : List Int, ix (c0.set n u) ((n : Int) + 1) = some w := fun u => by rw [hot _ _ (by omega) (by omega), w1]
    have e1 : ¬ ((n : Int) = (plan.length : Int)) := by omega
    have e2 : (n : Int) < (plan.length : Int) := by omega
    by_cases hc : can t s a
    ·obtain ⟨r, r1, r2⟩ := hS.next hs hav.1 hav.2 hc
     obtain ⟨q, hq, _⟩ := i9 (l := w) (j7 r2).1 (by rw [w2.len]; exact (j7 r2).2.1)
     have hqb := w2.bd r q hq
     by_cases hcmp : q < y + 1
     ·refine fin q ⟨⟨by omega, by omega⟩, fun h => ?_, fun e => (by rw [hdrop] at e; cases e), fun a' r' e => ?_⟩ ?_
      ·rw [hdrop]; exact .keep hav.1 hav.2 hc (w2.sound r _ q r2 hq h)
      ·rw [hdrop] at e; cases e
       exact ⟨fun m hm => by have := w3 j s y m hs hy hm; omega, fun _ _ _ m hm => w3 r _ q m r2 hq hm⟩
      ·unfold n3
       simp only [hat, hs, hz, oB, if_neg e1, Bool.false_eq_true, if_false, if_pos e2, hw1, hnx, hy, hw2, hvat _ _ hl, hia, N3 hav.1 hav.2, i6 hc, if_true, X9 ht hav.1 hav.2, r1, hq, Int.toNat_natCast, List.set_set, hvat (v.set j.toNat 1000000000) _ (by simp [hl]), if_pos hcmp]
     ·refine fin (y + 1) ⟨⟨by omega, by omega⟩, fun h => ?_, fun e => (by rw [hdrop] at e; cases e), fun a' r' e => ?_⟩ ?_
      ·rw [hdrop, show (y + 1).toNat = y.toNat + 1 by omega]; exact .del (w2.sound j s y hs hy (by omega))
      ·rw [hdrop] at e; cases e
       exact ⟨fun m hm => by have := w3 j s y m hs hy hm; omega, fun _ _ _ m hm => by have := w3 r _ q m r2 hq hm; omega⟩
      ·unfold n3
       simp only [hat, hs, hz, oB, if_neg e1, Bool.false_eq_true, if_false, if_pos e2, hw1, hnx, hy, hw2, hvat _ _ hl, hia, N3 hav.1 hav.2, i6 hc, if_true, X9 ht hav.1 hav.2, r1, hq, Int.toNat_natCast, List.set_set, hvat (v.set j.toNat 1000000000) _ (by simp [hl]), if_neg hcmp]
    ·refine fin (y + 1) ⟨⟨by omega, by omega⟩, fun h => ?_, fun e => (by rw [hdrop] at e; cases e), fun a' r' e => ?_⟩ ?_
     ·rw [hdrop, show (y + 1).toNat = y.toNat + 1 by omega]; exact .del (w2.sound j s y hs hy (by omega))
     ·rw [hdrop] at e; cases e
      exact ⟨fun m hm => by have := w3 j s y m hs hy hm; omega, fun _ _ g => absurd g hc⟩
     ·unfold n3
      simp only [hat, hs, hz, oB, if_neg e1, Bool.false_eq_true, if_false, if_pos e2, hw1, hnx, hy, hw2, hvat _ _ hl, hia, N3 hav.1 hav.2, n7 hc, Int.toNat_natCast, List.set_set])
 refine ⟨v, h1, ⟨h2, fun i x hx => ?_, fun i s x hs hx hl => (h3 i s x (j7 hs).2.1 hs hx).2.1 hl, fun i s x hs hx => (h3 i s x (j7 hs).2.1 hs hx).2.2⟩⟩
 obtain ⟨s, hs, _⟩ := i9 (l := S) (j7 hx).1 (by have := (j7 hx).2.1; omega)
 exact (h3 i s x (j7 hs).2.1 hs hx).1
theorem nearest_spec (ht : k9 t) (hS : Sts t S) {plan : List Int} (hpl : plan.length ≤ 12) (hv : Vl t plan) :
  ∃ x, L4 t S plan = some x ∧ ((x = 1000000000 ∧ ∀ n : Nat, Nr t plan t.init n → 1000000000 ≤ n) ∨ (0 ≤ x ∧ x < 1000000000 ∧ Nr t plan t.init x.toNat ∧ ∀ n : Nat, Nr t plan t.init n → x ≤ n)) := by
 unfold L4
 have hSl := hS.len
 have hw : w64 ((plan.length : Int) + 1) = ((plan.length + 1 : Nat) : Int) := by rw [k8 (by omega) (by omega)]; simp
 rw [hw, mkL_some (by omega) (by omega)]
 simp only [oB]
 obtain ⟨c, h1, h2, h3⟩ := G8 (body := K0 t S plan) (s := (List.replicate (plan.length + 1) ([] : List Int), (plan.length : Int)))
  (fun s => s.1.length = plan.length + 1 ∧ -1 ≤ s.2 ∧ s.2 ≤ plan.length ∧ ∀ n : Nat, s.2 < n → n ≤ plan.length → ∃ v, ix s.1 (n : Int) = some v ∧ Row t S (plan.drop n) (1000000000 + (plan.length - n : Nat)) v ∧ Full t S (plan.drop n) v)
  (fun c => c.length = plan.length + 1 ∧ ∃ v, ix c 0 = some v ∧ Row t S plan (1000000000 + plan.length) v ∧ Full t S plan v) (fun s => (s.2 + 1).toNat)
  ⟨by simp, by simp only; omega, by simp only; omega, fun n g1 g2 => by simp only at g1; omega⟩ (by
   rintro ⟨c, k⟩ ⟨p1, p2, p3, p4⟩
   simp only at p1 p2 p3 p4
   unfold K0
   by_cases hk : 0 ≤ k
   ·simp only [if_pos hk]
    obtain ⟨n, rfl⟩ : ∃ n : Nat, k = (n : Int) := ⟨k.toNat, by omega⟩
    have hmk : mkL 8 (S.length : Int) (0 : Int) = some (List.replicate S.length 0) := mkL_some (by omega) (by omega)
    obtain ⟨z, hz, _⟩ := i9 (l := c) hk (by omega)
    simp only [hmk, hz, oB, Int.toNat_natCast]
    obtain ⟨v, v1, v2⟩ := near_fill ht hS hpl hv (n := n) (by omega) (c0 := c) p1 (fun x r e => by
     have hlt : n < plan.length := by
      rcases Nat.lt_or_ge n plan.length with h | h
      ·exact h
      ·rw [List.drop_eq_nil_of_le h] at e; cases e
     obtain ⟨v, v1, v2, v3⟩ := p4 (n + 1) (by omega) (by omega)
     have hr : r = plan.drop (n + 1) := by
      rw [List.drop_eq_getElem_cons hlt] at e; cases e; rfl
     subst hr
     exact ⟨v, by simpa using v1, v2, v3⟩)
    obtain ⟨v', f1, f2, f3⟩ := near_fix (c0 := c) (k := (n : Int)) ht hS (by omega) hk (by omega) v2
    rw [Int.toNat_natCast] at f1
    simp only [v1, f1, oB]
    refine .inl ⟨_, rfl, ⟨by simp [p1], ?_, ?_, fun m g1 g2 => ?_⟩, ?_⟩
    ·simp only; rw [k8 (by omega) (by omega)]; omega
    ·simp only; rw [k8 (by omega) (by omega)]; omega
    ·simp only at g1
     rw [k8 (by omega) (by omega)] at g1
     have hput := R6 (x := v') (l := c) (i := (n : Int)) (j := (m : Int)) hk (by omega) (by omega)
     rw [Int.toNat_natCast] at hput
     simp only [hput]
     by_cases e : m = n
     ·subst e
      exact ⟨v', by simp, f2, f3⟩
     ·rw [if_neg (by omega)]
      exact p4 m (by omega) g2
    ·simp only; rw [k8 (by omega) (by omega)]; omega
   ·simp only [if_neg hk]
    have : k = -1 := by omega
    subst this
    obtain ⟨v, v1, v2, v3⟩ := p4 0 (by omega) (by omega)
    exact .inr ⟨_, rfl, p1, v, by simpa using v1, by simpa using v2, by simpa using v3⟩)
 obtain ⟨v, v1, v2, v3⟩ := h3
 have hi : t.init ∈ S := (hS.iff _).2 .init
 obtain ⟨r, r1, r2⟩ := place_eq S t.init
 rcases r2 with ⟨_, r2⟩ | ⟨_, _, r2, _⟩
 ·exact absurd hi r2
 obtain ⟨x, hx, _⟩ := i9 (l := v) (j7 r2).1 (by rw [v2.len]; exact (j7 r2).2.1)
 have hb := v2.bd r x hx
 simp only [h1, v1, r1, hx, oB]
 by_cases c : x < 1000000000
 ·rw [if_pos c]
  exact ⟨x, rfl, .inr ⟨hb.1, c, v2.sound r _ x r2 hx c, fun n hn => v3 r _ x n r2 hx hn⟩⟩
 ·rw [if_neg c]
  exact ⟨_, rfl, .inl ⟨rfl, fun n hn => by have := v3 r _ x n r2 hx hn; omega⟩⟩
end
end Ab
end
section
namespace Ab
open Go
theorem ix_neg {α : Type} {l : List α} {i : Int} (h : i < 0) : ix l i = none := by
 unfold ix; rw [if_neg (by omega)]
theorem W3 {α : Type} {l : List α} {x : α} {i : Int} : ix (l ++ [x]) i = if i = l.length then some x else ix l i := by
 by_cases h0 : 0 ≤ i
 ·obtain ⟨k, rfl⟩ := Int.eq_ofNat_of_zero_le h0
  rw [o6, o6]
  by_cases e : k = l.length
  ·subst e; simp
  ·rw [if_neg (by omega)]
   rcases Nat.lt_or_ge k l.length with h | h
   ·rw [List.getElem?_append_left h]
   ·rw [List.getElem?_eq_none (by simp; omega), List.getElem?_eq_none h]
 ·rw [ix_neg (by omega), ix_neg (by omega), if_neg (by omega)]
theorem aa6 {α : Type} {l : List α} {x a : α} {i : Int} (h : ix l i = some a) : ix (l ++ [x]) i = some a := by
 rw [W3, if_neg (by have := j7 h; omega), h]
theorem T3 {α : Type} {l : List α} {x : α} : ix (l ++ [x]) (l.length : Int) = some x := by rw [W3, if_pos rfl]
theorem mset_mem {K V : Type} [DecidableEq K] {k : K} {v : V} {p : K × V} : ∀ {m : List (K × V)}, p ∈ mset m k v → p = (k, v) ∨ p ∈ m
 | [], h => .inl (by simpa [mset] using h)
 | a :: m, h => by
  simp only [mset] at h
  split at h
  ·rcases List.mem_cons.1 h with h | h
   ·exact .inl h
   ·exact .inr (List.mem_cons_of_mem _ h)
  ·rcases List.mem_cons.1 h with h | h
   ·exact .inr (h ▸ List.mem_cons_self)
   ·rcases mset_mem h with h | h
    ·exact .inl h
    ·exact .inr (List.mem_cons_of_mem _ h)
theorem grow_spec {nv : d3} {q : List (List Int)} (h0 : 0 ≤ nv.change) (h1 : nv.change ≤ q.length) (hq : q.length ≤ 4000000000) :
  ∃ q1, Loop (s4 nv) q = some q1 ∧ (∀ b row, ix q b = some row → ix q1 b = some row) ∧ (∀ b row, ix q1 b = some row → ix q b = some row ∨ (row = [] ∧ b = q.length ∧ nv.change = q.length)) ∧ q.length ≤ q1.length ∧ q1.length ≤ q.length + 1 ∧ nv.change < q1.length := by
 by_cases e : nv.change = q.length
 ·refine ⟨q ++ [[]], S7.2 ⟨2, ?_⟩, fun b row h => aa6 h, fun b row h => ?_, by simp, by simp, by simp; omega⟩
  ·have e1 : app 24 q ([[]] : List (List Int)) = some (q ++ [[]]) := by rw [app, if_pos (by simp; omega)]
   simp only [A5, s4]
   rw [if_pos (by omega), e1]
   simp only [oB]
   rw [if_neg (by simp; omega)]
  ·rw [W3] at h
   split at h
   ·cases h; exact .inr ⟨rfl, by assumption, e⟩
   ·exact .inl h
 ·refine ⟨q, S7.2 ⟨1, ?_⟩, fun b row h => h, fun b row h => .inl h, Nat.le_refl _, by omega, by omega⟩
  simp only [A5, s4]
  rw [if_neg (by omega)]
theorem add_spec {t : d5} (ht : k9 t) {plan : List Int} (hp : plan.length ≤ 60) {c : Int} (hc : 0 ≤ c) {m : Mp'} {ns : List d3} {q : List (List Int)} (hB : Bs t plan c m ns q) (hN : ns.length + pot c m ≤ 2 * univ.length)
  {nv : d3} (hn : NodeOk t plan nv) (hch : nv.change = c ∨ nv.change = c + 1) (hq : nv.change ≤ q.length) (hW : ∃ st, Chn ns nv.ffrom st ∧ nv.ffrom < ns.length ∧ Way t plan (if 0 ≤ nv.op then st ++ [nv.op] else st) nv) :
  ∃ m' ns' q', k6 nv t plan ns q m = some (m', ns', q') ∧ Bs t plan c m' ns' q' ∧ Stp c m ns q m' ns' q' ∧ Sat m' nv.fs nv.fat nv.change := by
 have hU := univ_len
 have h60 : nv.fat ≤ 60 := by have := hn.at1; omega
 unfold k6
 rw [kk_eq ht hn.set hn.at0 h60]
 simp only [oB]
 by_cases hf : ∃ v, mget m (kk nv.fs nv.fat) = some v ∧ v ≤ nv.change
 ·obtain ⟨v, h1, h2⟩ := hf
  rw [if_pos (by simp [h1, h2])]
  exact ⟨m, ns, q, rfl, hB, .refl .., v, h1, h2⟩
 rw [if_neg (by
  intro h
  simp only [Bool.and_eq_true, decide_eq_true_eq, Option.isSome_iff_exists] at h
  obtain ⟨⟨v, h1⟩, h2⟩ := h
  rw [h1] at h2
  exact hf ⟨v, h1, h2⟩)]
 have hql := hB.ql
 have ha : app 56 ns [nv] = some (ns ++ [nv]) := by rw [app, if_pos (by simp; omega)]
 obtain ⟨q1, g1, Q1, Q2, L1, L2, L3⟩ := grow_spec hn.ch0 hq (by omega)
 obtain ⟨row, r1, _⟩ := i9 (l := q1) hn.ch0 L3
 have hrl : row.length ≤ ns.length := by
  rcases Q2 _ _ r1 with h | ⟨h, _⟩
  ·exact hB.rl _ _ h
  ·simp [h]
 have hb : app 8 row [w64 (((ns ++ [nv]).length : Int) - 1)] = some (row ++ [(ns.length : Int)]) := by
  have e : (((ns ++ [nv]).length : Int) - 1) = (ns.length : Int) := by simp
  rw [e, k8 (by omega) (by omega), app, if_pos (by simp; omega)]
 rw [ha]
 simp only [oB]
 rw [g1]
 simp only [oB, r1, hb]
 have hmem : kk nv.fs nv.fat ∈ univ := mem_univ ht hn.set hn.at0 h60
 -- what becomes of the map
 have hmap : pot c (mset m (kk nv.fs nv.fat) nv.change) + 1 ≤ pot c m ∧ ((mset m (kk nv.fs nv.fat) nv.change).map (·.1)).Nodup ∧ ∀ k ∈ (mset m (kk nv.fs nv.fat) nv.change).map (·.1), k ∈ univ := by
  cases hg : mget m (kk nv.fs nv.fat) with
  | none =>
   rw [mset_new hg]
   have hnd : ((m ++ [(kk nv.fs nv.fat, nv.change)]).map (·.1)).Nodup := by
    rw [List.map_append, List.nodup_append]
    refine ⟨hB.nd, by simp, fun a h1 b h2 e => ?_⟩
    simp only [List.map_cons, List.map_nil, List.mem_singleton] at h2
    subst e; subst h2
    exact mget_none hg h1
   have hun : ∀ k ∈ (m ++ [(kk nv.fs nv.fat, nv.change)]).map (·.1), k ∈ univ := fun k hk => by
    rw [List.map_append, List.mem_append] at hk
    rcases hk with hk | hk
    ·exact hB.un k hk
    ·simp at hk; subst hk; exact hmem
   have hl := U5 hnd hun
   simp only [List.length_map, List.length_append, List.length_singleton] at hl
   refine ⟨?_, hnd, hun⟩
   have := late_one c (kk nv.fs nv.fat, nv.change)
   simp only [pot, late_app, List.length_append, List.length_singleton]
   omega
  | some old =>
   have hne : mget m (kk nv.fs nv.fat) ≠ none := by rw [hg]; simp
   have hk := mset_keys (v := nv.change) hne
   have hlen : (mset m (kk nv.fs nv.fat) nv.change).length = m.length := by
    have := congrArg List.length hk
    simpa using this
   have ho : nv.change < old := by
    rcases Int.lt_or_le nv.change old with h | h
    ·exact h
    ·exact absurd ⟨old, hg, h⟩ hf
   have := hB.vl _ (mget_mem hg)
   simp only at this
   have hcc : nv.change = c := by omega
   have hlt := late_set (c := c) (v := nv.change) (by omega) hg (by omega)
   refine ⟨?_, by rw [hk]; exact hB.nd, by rw [hk]; exact hB.un⟩
   simp only [pot, hlen]
   omega
 obtain ⟨hpot, hnd, hun⟩ := hmap
 generalize hm' : mset m (kk nv.fs nv.fat) nv.change = m' at *
 have hget : ∀ k, mget m' k = if k = kk nv.fs nv.fat then some nv.change else mget m k := fun k => by rw [← hm', Y3]
 have hlt : ∀ v, mget m (kk nv.fs nv.fat) = some v → nv.change < v := fun v hv => by
  rcases Int.lt_or_le nv.change v with h | h
  ·exact h
  ·exact absurd ⟨v, hv, h⟩ hf
 have hq' : ∀ b, ix (q1.set nv.change.toNat (row ++ [(ns.length : Int)])) b = if b = nv.change then some (row ++ [(ns.length : Int)]) else ix q1 b := fun b => by
  by_cases h0 : 0 ≤ b
  ·rw [R6 hn.ch0 L3 h0]
  ·rw [ix_neg (by omega), ix_neg (by omega), if_neg (by have := hn.ch0; omega)]
 have hold : ∀ i n, ix ns i = some n → ix (ns ++ [nv]) i = some n := fun i n h => aa6 h
 refine ⟨m', ns ++ [nv], _, rfl, ?_, ?_, nv.change, by rw [hget, if_pos rfl], Int.le_refl _⟩
 ·exact {
   node := fun i n hi => by
    rw [W3] at hi
    split at hi
    ·rename_i e
     cases hi
     obtain ⟨st, h1, h2, h3⟩ := hW
     refine ⟨hn, by omega, _, ?_, h3⟩
     have hx : ix (ns ++ [nv]) i = some nv := by rw [e]; exact T3
     split
     ·exact .op hx (by assumption) (by omega) (h1.mono hold)
     ·exact .no hx (by omega) (by omega) (h1.mono hold)
    ·obtain ⟨h1, h2, st, h3, h4⟩ := hB.node i n hi
     exact ⟨h1, h2, st, h3.mono hold, h4⟩
   m1 := fun i n hi => by
    rw [hget]
    rw [W3] at hi
    split at hi
    ·cases hi
     rw [if_pos rfl]
     exact ⟨_, rfl, Int.le_refl _⟩
    ·obtain ⟨v, h1, h2⟩ := hB.m1 i n hi
     split
     ·rename_i e
      rw [e] at h1
      have := hlt v h1
      exact ⟨_, rfl, by omega⟩
     ·exact ⟨v, h1, h2⟩
   m2 := fun s a v hs h0 h1 hv => by
    rw [hget] at hv
    split at hv
    ·rename_i e
     obtain ⟨rfl, rfl⟩ := kk_inj ht hs hn.set h0 (by omega) hn.at0 h60 e
     cases hv
     exact ⟨ns.length, nv, T3, rfl, rfl, rfl⟩
    ·obtain ⟨i, n, g1, g2⟩ := hB.m2 s a v hs h0 h1 hv
     exact ⟨i, n, hold _ _ g1, g2⟩
   qs := fun b r hr i hi => by
    rw [hq'] at hr
    split at hr
    ·rename_i e
     subst e
     cases hr
     rcases List.mem_append.1 hi with hi | hi
     ·rcases Q2 _ _ r1 with h | ⟨h, _⟩
      ·obtain ⟨n, k1, k2⟩ := hB.qs _ _ h i hi
       exact ⟨n, hold _ _ k1, k2⟩
      ·rw [h] at hi; cases hi
     ·simp only [List.mem_singleton] at hi
      subst hi
      exact ⟨nv, T3, rfl⟩
    ·rcases Q2 _ _ hr with h | ⟨h, _⟩
     ·obtain ⟨n, k1, k2⟩ := hB.qs _ _ h i hi
      exact ⟨n, hold _ _ k1, k2⟩
     ·rw [h] at hi; cases hi
   qn := fun i n hi => by
    rw [W3] at hi
    split at hi
    ·rename_i e
     cases hi
     refine ⟨row ++ [(ns.length : Int)], row.length, by rw [hq', if_pos rfl], ?_⟩
     rw [T3, e]
    ·obtain ⟨r, p, k1, k2⟩ := hB.qn i n hi
     by_cases e : n.change = nv.change
     ·have : r = row := by
       have := Q1 _ _ k1
       rw [e, r1] at this
       exact (Option.some.inj this).symm
      subst this
      exact ⟨_, p, by rw [hq', if_pos e], aa6 k2⟩
     ·exact ⟨r, p, by rw [hq', if_neg e]; exact Q1 _ _ k1, k2⟩
   nd := hnd
   un := hun
   vl := fun p hp => by
    rw [← hm'] at hp
    rcases mset_mem hp with h | h
    ·subst h; simp only; omega
    ·exact hB.vl p h
   ql := by simp only [List.length_set, List.length_append, List.length_singleton]; omega
   rl := fun b r hr => by
    rw [hq'] at hr
    simp only [List.length_append, List.length_singleton]
    split at hr
    ·cases hr; simp; omega
    ·rcases Q2 _ _ hr with h | ⟨h, _⟩
     ·have := hB.rl _ _ h; omega
     ·simp [h] }
 ·exact {
   sat := fun k v hk => by
    rw [hget]
    split
    ·rename_i e
     rw [e] at hk
     have := hlt v hk
     exact ⟨_, rfl, by omega⟩
    ·exact ⟨v, hk, Int.le_refl _⟩
   nst := hold
   row := fun b r hr => by
    rw [hq']
    split
    ·rename_i e
     subst e
     have := Q1 _ _ hr
     rw [r1] at this
     cases this
     exact ⟨[(ns.length : Int)], rfl⟩
    ·exact ⟨[], by rw [Q1 _ _ hr, List.append_nil]⟩
   old := fun b hb => by
    rw [hq', if_neg (by omega)]
    cases h : ix q b with
    | some r => exact Q1 _ _ h
    | none =>
     cases h2 : ix q1 b with
     | none => rfl
     | some r =>
      rcases Q2 _ _ h2 with k | ⟨_, k1, k2⟩
      ·rw [h] at k; cases k
      ·omega
   len := by simp only [List.length_set]; omega
   psi := by simp only [List.length_set]; omega
   pend := fun r hr => by
    rw [hq']
    have h1 := Q1 _ _ hr
    split
    ·rename_i e
     subst e
     rw [r1] at h1
     cases h1
     exact ⟨_, rfl, by simp; omega⟩
    ·exact ⟨r, h1, by omega⟩
   nsl := by simp only [List.length_append, List.length_singleton]; omega }
theorem Chn.len {ns : List d3} {i : Int} {st : List Int} (h : Chn ns i st) : st.length ≤ (i + 1).toNat := by
 induction h with
 | root h => simp
 | op h ho hf hc ih =>
  have := j7 h
  simp only [List.length_append, List.length_singleton]
  omega
 | no h ho hf hc ih =>
  have := j7 h
  omega
theorem steps_loop {ns : List d3} (hN : ns.length ≤ 4000000000) {i : Int} {st : List Int} (h : Chn ns i st) : ∀ acc : List Int, acc.length + st.length ≤ 4000000000 → ∃ k, A5 (m9 ns) k (acc, i) = some (acc ++ st.reverse) := by
 induction h with
 | root h =>
  intro acc _
  refine ⟨1, ?_⟩
  simp only [A5, m9]
  rw [if_neg (by omega)]
  simp
 | @op i n st h ho hf hc ih =>
  intro acc hl
  simp only [List.length_append, List.length_singleton] at hl
  obtain ⟨k, hk⟩ := ih (acc ++ [n.op]) (by simp; omega)
  refine ⟨k + 1, ?_⟩
  have ha : app 8 acc [n.op] = some (acc ++ [n.op]) := by rw [app, if_pos (by simp; omega)]
  have := j7 h
  simp only [A5, m9]
  rw [if_pos (by omega), h]
  simp only [oB]
  rw [if_pos ho, ha]
  simp only [oB]
  rw [hk]
  simp
 | @no i n st h ho hf hc ih =>
  intro acc hl
  obtain ⟨k, hk⟩ := ih acc hl
  refine ⟨k + 1, ?_⟩
  have := j7 h
  simp only [A5, m9]
  rw [if_pos (by omega), h]
  simp only [oB]
  rw [if_neg (by omega)]
  simp only [oB]
  exact hk
theorem steps_spec {t : d5} {plan : List Int} {ns : List d3} {q : List (List Int)} {m : Mp'} (hN : ns.length ≤ 2100000000) {i : Int} {st : List Int} (h : Chn ns i st) (hi : i < ns.length) : u6 i t plan ns q m = some st := by
 have hl := h.len
 obtain ⟨k, hk⟩ := steps_loop (by omega) h [] (by simp; omega)
 unfold u6
 rw [S7.2 ⟨k, hk⟩]
 simp
end Ab
end
section
namespace Ab
open Go
structure Hd (t : d5) (plan : List Int) (m : Mp') (n : d3) : Prop where
 goal : n.fat = plan.length → ¬ ∀ x ∈ t.goal, x ∈ n.fs
 keep : ∀ op, ix plan n.fat = some op → can t n.fs op → Sat m (aft t n.fs op) (n.fat + 1) n.change
 skip : n.fat < plan.length → Sat m n.fs (n.fat + 1) (n.change + 1)
 ins : ∀ op : Int, 0 ≤ op → op < t.operators.length → can t n.fs op → Sat m (aft t n.fs op) n.fat (n.change + 1)
theorem Hd.mono {t : d5} {plan : List Int} {c : Int} {m m' : Mp'} {ns ns' : List d3} {q q' : List (List Int)} {n : d3} (h : Hd t plan m n) (hs : Stp c m ns q m' ns' q') : Hd t plan m' n :=
 ⟨h.goal, fun op h1 h2 => hs.keep (h.keep op h1 h2), fun h1 => hs.keep (h.skip h1), fun op h0 h1 h2 => hs.keep (h.ins op h0 h1 h2)⟩
structure Rd (t : d5) (plan : List Int) (c : Int) (m : Mp') (ns : List d3) (q : List (List Int)) : Prop where
 bs : Bs t plan c m ns q
 nb : ns.length + pot c m ≤ 2 * univ.length
 ql : c < q.length
theorem Sat.le {m : Mp'} {s : List Int} {a d d' : Int} (h : Sat m s a d) (hd : d ≤ d') : Sat m s a d' := by
 obtain ⟨v, h1, h2⟩ := h
 exact ⟨v, h1, by omega⟩
theorem take_next {plan : List Int} {a op : Int} (h : ix plan a = some op) : plan.take (a + 1).toNat = plan.take a.toNat ++ [op] := by
 obtain ⟨h0, h1, h2⟩ := j7 h
 rw [show (a + 1).toNat = a.toNat + 1 by omega, List.take_add_one, h2]; rfl
theorem way_keep {t : d5} {plan st : List Int} (hp : H1 t plan) {n : d3} (h : Way t plan st n) {op : Int} (hop : ix plan n.fat = some op) (hc : can t n.fs op) (i : Int) : Way t plan (st ++ [op]) ⟨aft t n.fs op, n.fat + 1, i, op, n.change⟩ := by
 obtain ⟨h1, h2, h3⟩ := h
 refine ⟨fun x hx => ?_, ?_, ?_⟩
 ·rcases List.mem_append.1 hx with hx | hx
  ·exact h1 x hx
  ·simp only [List.mem_singleton] at hx; subst hx; exact hp.2 _ (p8 hop)
 ·rw [aa9, h2]
  simp only [oB, ends]
  rw [if_pos (i6 hc)]
 ·show Ed n.change.toNat (plan.take (n.fat + 1).toNat) (st ++ [op])
  rw [take_next hop]
  exact h3.keepR op
theorem way_skip {t : d5} {plan st : List Int} {n : d3} (h : Way t plan st n) (hch : 0 ≤ n.change) {op : Int} (hop : ix plan n.fat = some op) (i : Int) : Way t plan st ⟨n.fs, n.fat + 1, i, -1, n.change + 1⟩ := by
 obtain ⟨h1, h2, h3⟩ := h
 refine ⟨h1, h2, ?_⟩
 show Ed (n.change + 1).toNat (plan.take (n.fat + 1).toNat) st
 rw [take_next hop, show (n.change + 1).toNat = n.change.toNat + 1 by omega]
 exact h3.delR op
theorem way_ins {t : d5} {plan st : List Int} {n : d3} (h : Way t plan st n) (hch : 0 ≤ n.change) {op : Int} (h0 : 0 ≤ op) (hl : op < t.operators.length) (hc : can t n.fs op) (i : Int) : Way t plan (st ++ [op]) ⟨aft t n.fs op, n.fat, i, op, n.change + 1⟩ := by
 obtain ⟨h1, h2, h3⟩ := h
 refine ⟨fun x hx => ?_, ?_, ?_⟩
 ·rcases List.mem_append.1 hx with hx | hx
  ·exact h1 x hx
  ·simp only [List.mem_singleton] at hx; subst hx; exact ⟨h0, hl⟩
 ·rw [aa9, h2]
  simp only [oB, ends]
  rw [if_pos (i6 hc)]
 ·show Ed (n.change + 1).toNat (plan.take n.fat.toNat) (st ++ [op])
  rw [show (n.change + 1).toNat = n.change.toNat + 1 by omega]
  exact h3.insR op
theorem add_rd {t : d5} (ht : k9 t) {plan : List Int} (hp : H1 t plan) {c : Int} (hc : 0 ≤ c) {m : Mp'} {ns : List d3} {q : List (List Int)} (h : Rd t plan c m ns q)
  {nv : d3} (hn : NodeOk t plan nv) (hch : nv.change = c ∨ nv.change = c + 1) (hW : ∃ st, Chn ns nv.ffrom st ∧ nv.ffrom < ns.length ∧ Way t plan (if 0 ≤ nv.op then st ++ [nv.op] else st) nv) :
  ∃ m' ns' q', k6 nv t plan ns q m = some (m', ns', q') ∧ Rd t plan c m' ns' q' ∧ Stp c m ns q m' ns' q' ∧ Sat m' nv.fs nv.fat nv.change := by
 have := h.ql
 obtain ⟨m', ns', q', h1, h2, h3, h4⟩ := add_spec ht hp.1 hc h.bs h.nb hn hch (by omega) hW
 refine ⟨m', ns', q', h1, ⟨h2, ?_, ?_⟩, h3, h4⟩
 ·have := h.nb; have := h3.nsl; omega
 ·have := h3.len; omega
theorem Rd.small {t : d5} {plan : List Int} {c : Int} {m : Mp'} {ns : List d3} {q : List (List Int)} (h : Rd t plan c m ns q) : c < 2100000000 ∧ ns.length ≤ 2100000000 := by
 have := h.nb; have := h.ql; have := h.bs.ql; have := univ_len
 omega
theorem expand_tail {t : d5} (ht : k9 t) {plan : List Int} (hp : H1 t plan) {c : Int} (hc : 0 ≤ c) {m : Mp'} {ns : List d3} {q : List (List Int)} (h : Rd t plan c m ns q) {i : Int} {n : d3} (hi : ix ns i = some n) (hnc : n.change = c) :
  ∃ m' ns' q', o7 i t plan n m ns q = some (m', ns', q') ∧ Rd t plan c m' ns' q' ∧ Stp c m ns q m' ns' q' ∧ ∀ op : Int, 0 ≤ op → op < t.operators.length → can t n.fs op → Sat m' (aft t n.fs op) n.fat (n.change + 1) := by
 obtain ⟨hok, _, st, hch, hway⟩ := h.bs.node i n hi
 have hsm := h.small
 unfold o7
 obtain ⟨⟨m', ns', q'⟩, h1, h2, h3, h4⟩ := C9 (body := u9 i t plan n) (n := (t.operators.length : Int)) (s := (m, ns, q))
  (fun j s => Rd t plan c s.1 s.2.1 s.2.2 ∧ Stp c m ns q s.1 s.2.1 s.2.2 ∧ ∀ op : Int, 0 ≤ op → op < j → can t n.fs op → Sat s.1 (aft t n.fs op) n.fat (n.change + 1)) (by omega) ⟨h, .refl .., fun op g0 g1 => by omega⟩
  (fun j s j0 j1 hP => by
   obtain ⟨m1, ns1, q1⟩ := s
   obtain ⟨g1, g2, g3⟩ := hP
   simp only at g1 g2 g3
   unfold u9
   simp only [can_eq ht j0 j1 hok.set, next_eq ht j0 j1 hok.set, oB]
   by_cases hcan : can t n.fs j
   ·rw [if_pos (i6 hcan), k8 (by omega) (by omega)]
    have hs1 := g1.small
    obtain ⟨m2, ns2, q2, k1, k2, k3, k4⟩ := add_rd ht hp hc g1 (nv := ⟨aft t n.fs j, n.fat, i, j, n.change + 1⟩) ⟨L5 _ _ _, hok.at0, hok.at1, by simp only; omega⟩ (by simp only; omega)
     ⟨st, hch.mono g2.nst, by have := j7 (g2.nst i n hi); exact this.2.1, by simp only; rw [if_pos j0]; exact way_ins hway hok.ch0 j0 j1 hcan i⟩
    rw [k1]
    refine ⟨(m2, ns2, q2), rfl, k2, g2.trans k3, fun op o0 o1 ho => ?_⟩
    by_cases e : op = j
    ·subst e; exact k4
    ·exact k3.keep (g3 op o0 (by omega) ho)
   ·rw [if_neg (by rw [g9]; exact hcan)]
    refine ⟨(m1, ns1, q1), rfl, g1, g2, fun op o0 o1 ho => ?_⟩
    by_cases e : op = j
    ·subst e; exact absurd ho hcan
    ·exact g3 op o0 (by omega) ho)
 rw [h1]
 exact ⟨m', ns', q', rfl, h2, h3, h4⟩
theorem expand_spec {t : d5} (ht : k9 t) {plan : List Int} (hp : H1 t plan) {c : Int} (hc : 0 ≤ c) {m : Mp'} {ns : List d3} {q : List (List Int)} (h : Rd t plan c m ns q) {i : Int} {n : d3} (hi : ix ns i = some n) (hnc : n.change = c) (hg : n.fat = plan.length → ¬ ∀ x ∈ t.goal, x ∈ n.fs) :
  ∃ m' ns' q', s7 i t plan ns q m = some (m', ns', q') ∧ Rd t plan c m' ns' q' ∧ Stp c m ns q m' ns' q' ∧ Hd t plan m' n := by
 obtain ⟨hok, _, st, hch, hway⟩ := h.bs.node i n hi
 have hsm := h.small
 have h60 := hp.1
 have hat0 := hok.at0
 have hat1 := hok.at1
 have fin : ∀ {m1 : Mp'} {ns1 : List d3} {q1 : List (List Int)}, Rd t plan c m1 ns1 q1 → Stp c m ns q m1 ns1 q1 → (∀ op, ix plan n.fat = some op → can t n.fs op → Sat m1 (aft t n.fs op) (n.fat + 1) n.change) → (n.fat < plan.length → Sat m1 n.fs (n.fat + 1) (n.change + 1)) →
   ∃ m' ns' q', (Option.bind (z6 t n.fs) fun a75 => Option.bind (o7 i t plan n m1 ns1 q1) fun ⟨c71, c72, c73⟩ => some (c71, c72, c73)) = some (m', ns', q') ∧ Rd t plan c m' ns' q' ∧ Stp c m ns q m' ns' q' ∧ Hd t plan m' n := fun {m1 ns1 q1} g1 g2 g3 g4 => by
  obtain ⟨m', ns', q', k1, k2, k3, k4⟩ := expand_tail ht hp hc g1 (g2.nst i n hi) hnc
  rw [z6]
  simp only [oB, k1]
  exact ⟨m', ns', q', rfl, k2, g2.trans k3, hg, fun op o1 o2 => k3.keep (g3 op o1 o2), fun o => k3.keep (g4 o), k4⟩
 unfold s7
 rw [hi]
 simp only [oB]
 by_cases c1 : n.fat < (plan.length : Int)
 ·rw [if_pos c1]
  obtain ⟨op, hop, _⟩ := i9 (l := plan) hat0 c1
  have hv := hp.2 op (p8 hop)
  rw [k8 (n := n.fat + 1) (by omega) (by omega), k8 (n := n.change + 1) (by omega) (by omega)]
  simp only [hop, oB, can_eq ht hv.1 hv.2 hok.set, next_eq ht hv.1 hv.2 hok.set]
  have skip : ∀ {m1 : Mp'} {ns1 : List d3} {q1 : List (List Int)}, Rd t plan c m1 ns1 q1 → Stp c m ns q m1 ns1 q1 → ∃ m' ns' q', k6 ⟨n.fs, n.fat + 1, i, -1, n.change + 1⟩ t plan ns1 q1 m1 = some (m', ns', q') ∧ Rd t plan c m' ns' q' ∧ Stp c m1 ns1 q1 m' ns' q' ∧ Sat m' n.fs (n.fat + 1) (n.change + 1) := fun {m1 ns1 q1} g1 g2 =>
   add_rd ht hp hc g1 (nv := ⟨n.fs, n.fat + 1, i, -1, n.change + 1⟩) ⟨hok.set, by simp only; omega, by simp only; omega, by simp only; omega⟩ (by simp only; omega)
    ⟨st, hch.mono g2.nst, (j7 (g2.nst i n hi)).2.1, by simp only; rw [if_neg (by omega)]; exact way_skip hway hok.ch0 hop i⟩
  by_cases hcan : can t n.fs op
  ·rw [if_pos (i6 hcan)]
   obtain ⟨m1, ns1, q1, k1, k2, k3, k4⟩ := add_rd ht hp hc h (nv := ⟨aft t n.fs op, n.fat + 1, i, op, n.change⟩) ⟨L5 _ _ _, by simp only; omega, by simp only; omega, hok.ch0⟩ (by simp only; omega)
    ⟨st, hch, (j7 hi).2.1, by simp only; rw [if_pos hv.1]; exact way_keep hp hway hop hcan i⟩
   obtain ⟨m2, ns2, q2, l1, l2, l3, l4⟩ := skip k2 k3
   simp only [k1, l1, oB]
   exact fin l2 (k3.trans l3) (fun op' o1 o2 => by rw [hop] at o1; cases o1; exact l3.keep k4) (fun _ => l4)
  ·rw [if_neg (by rw [g9]; exact hcan)]
   obtain ⟨m2, ns2, q2, l1, l2, l3, l4⟩ := skip h (.refl ..)
   simp only [l1, oB]
   exact fin l2 l3 (fun op' o1 o2 => by rw [hop] at o1; cases o1; exact absurd o2 hcan) (fun _ => l4)
 ·rw [if_neg c1]
  simp only [oB]
  exact fin h (.refl ..) (fun op' o1 _ => by have := j7 o1; omega) (fun o => absurd o c1)
theorem sat_ed {t : d5} {plan : List Int} {c C : Int} {m : Mp'} {ns : List d3} {q : List (List Int)} (hB : Bs t plan c m ns q) (hall : ∀ i n, ix ns i = some n → n.change < C → Hd t plan m n)
  {k : Nat} {A B : List Int} (h : Ed k A B) : ∀ {s e : List Int} {a d : Int}, Sat m s a d → SetN s t.facts → 0 ≤ a → 0 ≤ d → (∃ R, plan.drop a.toNat = A ++ R) → a + A.length ≤ plan.length → (∀ x ∈ B, (0 : Int) ≤ x ∧ x < t.operators.length) → ends t s B = some e → d + k < C → Sat m e (a + A.length) (d + k) := by
 have node : ∀ {s : List Int} {a d : Int}, Sat m s a d → SetN s t.facts → 0 ≤ a → a ≤ plan.length → d < C → ∃ n, Hd t plan m n ∧ n.fs = s ∧ n.fat = a ∧ n.change ≤ d := fun {s a d} ⟨v, h1, h2⟩ hs h0 hl hd => by
  obtain ⟨i, n, g1, g2, g3, g4⟩ := hB.m2 s a v hs h0 hl h1
  exact ⟨n, hall i n g1 (by omega), g2, g3, by omega⟩
 induction h with
 | nil =>
  intro s e a d hS hs h0 hd _ _ _ he _
  simp only [ends, Option.some.injEq] at he
  subst he
  simpa using hS
 | @keep k x A B h ih =>
  intro s e a d hS hs h0 hd hR hl hv he hC
  obtain ⟨R, hR⟩ := hR
  simp only [List.length_cons] at hl ⊢
  obtain ⟨n, g1, rfl, rfl, g4⟩ := node hS hs h0 (by omega) (by omega)
  have hx : ix plan n.fat = some x := by
   rw [show n.fat = ((n.fat.toNat : Nat) : Int) by omega, o6]
   have := congrArg (fun l => l[0]?) hR
   simpa using this
  simp only [ends] at he
  split at he
  ·rename_i hc
   have hS2 := (g1.keep x hx (g9.1 hc)).le g4
   have := ih hS2 (L5 _ _ _) (by omega) hd ⟨R, by
    rw [show (n.fat + 1).toNat = n.fat.toNat + 1 by omega, ← List.drop_drop, hR]; rfl⟩ (by omega) (fun y hy => hv y (List.mem_cons_of_mem _ hy)) he hC
   rw [show n.fat + ((A.length + 1 : Nat) : Int) = n.fat + 1 + A.length by omega]
   exact this
  ·cases he
 | @del k x A B h ih =>
  intro s e a d hS hs h0 hd hR hl hv he hC
  obtain ⟨R, hR⟩ := hR
  simp only [List.length_cons] at hl ⊢
  obtain ⟨n, g1, rfl, rfl, g4⟩ := node hS hs h0 (by omega) (by omega)
  have hS2 := (g1.skip (by omega)).le (d' := d + 1) (by omega)
  have := ih hS2 hs (by omega) (by omega) ⟨R, by
    rw [show (n.fat + 1).toNat = n.fat.toNat + 1 by omega, ← List.drop_drop, hR]; rfl⟩ (by omega) hv he (by omega)
  rw [show n.fat + ((A.length + 1 : Nat) : Int) = n.fat + 1 + A.length by omega, show d + ((k + 1 : Nat) : Int) = d + 1 + k by omega]
  exact this
 | @ins k y A B h ih =>
  intro s e a d hS hs h0 hd hR hl hv he hC
  obtain ⟨n, g1, rfl, rfl, g4⟩ := node hS hs h0 (by omega) (by omega)
  have hvy := hv y List.mem_cons_self
  simp only [ends] at he
  split at he
  ·rename_i hc
   have hS2 := (g1.ins y hvy.1 hvy.2 (g9.1 hc)).le (d' := d + 1) (by omega)
   have := ih hS2 (L5 _ _ _) h0 (by omega) hR hl (fun y hy => hv y (List.mem_cons_of_mem _ hy)) he (by omega)
   rw [show d + ((k + 1 : Nat) : Int) = d + 1 + k by omega]
   exact this
  ·cases he
theorem none_nearer {t : d5} (hi : SetN t.init t.facts) {plan : List Int} {c C : Int} {m : Mp'} {ns : List d3} {q : List (List Int)} (hB : Bs t plan c m ns q) (hall : ∀ i n, ix ns i = some n → n.change < C → Hd t plan m n) (h0 : Sat m t.init 0 0)
  {st : List Int} (hv : ∀ x ∈ st, (0 : Int) ≤ x ∧ x < t.operators.length) (hw : C2 t t.init st) : C ≤ dm plan st := by
 obtain ⟨e, h1, h2⟩ := hw
 rcases Int.lt_or_le (dm plan st : Int) C with h | h
 ·exfalso
  have hS := sat_ed hB hall (dm_ed plan st) h0 hi (Int.le_refl 0) (Int.le_refl 0) ⟨[], by simp⟩ (by omega) hv h1 (by omega)
  obtain ⟨v, g1, g2⟩ := hS
  obtain ⟨i, n, k1, k2, k3, k4⟩ := hB.m2 e _ v (ends_setN hi h1) (by omega) (by omega) g1
  refine (hall i n k1 (by omega)).goal (by omega) ?_
  rw [k2]; exact h2
 ·exact h
structure Found (t : d5) (plan st : List Int) (d : Int) : Prop where
 ok : ∀ x ∈ st, (0 : Int) ≤ x ∧ x < t.operators.length
 sol : C2 t t.init st
 d0 : 0 ≤ d
 ed : Ed d.toNat plan st
 low : ∀ other, (∀ x ∈ other, (0 : Int) ≤ x ∧ x < t.operators.length) → C2 t t.init other → d ≤ dm plan other
theorem Found.dist {t : d5} {plan st : List Int} {d : Int} (h : Found t plan st d) : (dm plan st : Int) = d := by
 have h1 := h.low st h.ok h.sol
 have h2 := dm_le h.ed
 have := h.d0
 omega
def Res (t : d5) (plan : List Int) (o : List Int × Int × Bool × j6) : Prop :=
 ∃ st d, Found t plan st d ∧ ((st.length ≤ 60 ∧ o = (st, d, true, ⟨0, 0⟩)) ∨ (60 < st.length ∧ o = ([], 0, false, ⟨10, -5⟩)))
theorem Bs.next {t : d5} {plan : List Int} {c : Int} {m : Mp'} {ns : List d3} {q : List (List Int)} (h : Bs t plan c m ns q) : Bs t plan (c + 1) m ns q :=
 {h with
  node := fun i n hi => by obtain ⟨h1, h2, h3⟩ := h.node i n hi; exact ⟨h1, by omega, h3⟩
  vl := fun p hp => by have := h.vl p hp; omega }
def allHd (t : d5) (plan : List Int) (c : Int) (m : Mp') (ns : List d3) : Prop := ∀ i n, ix ns i = some n → n.change < c → Hd t plan m n
theorem allHd.step {t : d5} {plan : List Int} {c : Int} {m m' : Mp'} {ns ns' : List d3} {q q' : List (List Int)} (h : allHd t plan c m ns) (hB : Bs t plan c m ns q) (hB' : Bs t plan c m' ns' q') (hs : Stp c m ns q m' ns' q') : allHd t plan c m' ns' := fun i n hi hl => by
 obtain ⟨row, p, g1, g2⟩ := hB'.qn i n hi
 rw [hs.old _ hl] at g1
 obtain ⟨n0, k1, k2⟩ := hB.qs _ _ g1 i (p8 g2)
 have := hs.nst i n0 k1
 rw [hi] at this
 cases this
 exact (h i n k1 hl).mono hs
theorem plan_inner {t : d5} (ht : k9 t) {plan : List Int} (hp : H1 t plan) {c : Int} (hc : 0 ≤ c) {m : Mp'} {ns : List d3} {q : List (List Int)} (h : Rd t plan c m ns q) (hall : allHd t plan c m ns) (hsat : Sat m t.init 0 0) :
  ∃ o, Loop (H2 t plan c) (m, ns, q, 0) = some o ∧ ((∃ m' ns' q', o = .inl (m', ns', q') ∧ Rd t plan c m' ns' q' ∧ allHd t plan (c + 1) m' ns' ∧ Sat m' t.init 0 0 ∧ q'.length + pot c m' ≤ q.length + pot c m) ∨ ∃ x, o = .inr x ∧ Res t plan x) := by
 have hsm := h.small
 refine G8 (body := H2 t plan c) (s := (m, ns, q, 0))
  (fun s => Rd t plan c s.1 s.2.1 s.2.2.1 ∧ allHd t plan c s.1 s.2.1 ∧ Sat s.1 t.init 0 0 ∧ s.2.2.1.length + pot c s.1 ≤ q.length + pot c m ∧ 0 ≤ s.2.2.2 ∧
   ∀ row, ix s.2.2.1 c = some row → s.2.2.2 ≤ row.length ∧ ∀ p i n, p < s.2.2.2 → ix row p = some i → ix s.2.1 i = some n → Hd t plan s.1 n)
  (fun o => (∃ m' ns' q', o = .inl (m', ns', q') ∧ Rd t plan c m' ns' q' ∧ allHd t plan (c + 1) m' ns' ∧ Sat m' t.init 0 0 ∧ q'.length + pot c m' ≤ q.length + pot c m) ∨ ∃ x, o = .inr x ∧ Res t plan x)
  (fun s => ((ix s.2.2.1 c).getD []).length + pot c s.1 - s.2.2.2.toNat) ⟨h, hall, hsat, Nat.le_refl _, Int.le_refl _, fun row _ => ⟨by simp only; omega, fun p i n hp' hi => by have := j7 hi; simp only at hp'; omega⟩⟩
  (fun s hP => ?_)
 obtain ⟨m1, ns1, q1, j⟩ := s
 obtain ⟨h1, h2, h3, h4, h5, h6⟩ := hP
 simp only at h1 h2 h3 h4 h5 h6
 have hs1 := h1.small
 obtain ⟨row, hrow, _⟩ := i9 (l := q1) hc h1.ql
 obtain ⟨g1, g2⟩ := h6 row hrow
 have hrl := h1.bs.rl _ _ hrow
 unfold H2
 simp only [hrow, oB]
 by_cases cj : j < (row.length : Int)
 ·rw [if_pos cj]
  obtain ⟨i, hi, _⟩ := i9 (l := row) h5 cj
  obtain ⟨n, hn, hnc⟩ := h1.bs.qs _ _ hrow i (p8 hi)
  obtain ⟨hok, _, st, hch, hway⟩ := h1.bs.node i n hn
  simp only [hi, oB, hn]
  have htest : (if n.fat = (plan.length : Int) then Option.bind (v7 n.fs t.goal) fun a92 => some a92 else some false) = some (dec (n.fat = plan.length ∧ ∀ x ∈ t.goal, x ∈ n.fs)) := by
   by_cases e : n.fat = (plan.length : Int)
   ·rw [if_pos e, aa4 hok.set.1 ht.goal.1 (by have := hok.set.len; have := ht.n1; omega)]
    exact congrArg some (Q9 ⟨fun g => ⟨e, g⟩, fun g => g.2⟩)
   ·rw [if_neg e, n7 (fun g => e g.1)]
  rw [htest]
  simp only [oB]
  by_cases cg : n.fat = plan.length ∧ ∀ x ∈ t.goal, x ∈ n.fs
  ·rw [if_pos (i6 cg), steps_spec hs1.2 hch (j7 hn).2.1]
   simp only [oB]
   have hF : Found t plan st c := {
    ok := hway.1
    sol := ⟨n.fs, hway.2.1, cg.2⟩
    d0 := hc
    ed := by
     have := hway.2.2
     rw [hnc, cg.1] at this
     simpa using this
    low := fun other ho hw => none_nearer ht.init h1.bs h2 h3 ho hw }
   right
   by_cases c60 : (60 : Int) < st.length
   ·rw [if_pos c60]
    exact ⟨_, rfl, .inr ⟨_, rfl, st, c, hF, .inr ⟨by omega, rfl⟩⟩⟩
   ·rw [if_neg c60]
    exact ⟨_, rfl, .inr ⟨_, rfl, st, c, hF, .inl ⟨by omega, rfl⟩⟩⟩
  ·rw [if_neg (by rw [g9]; exact cg)]
   obtain ⟨m2, ns2, q2, k1, k2, k3, k4⟩ := expand_spec ht hp hc h1 hn hnc (fun e g => cg ⟨e, g⟩)
   rw [k1, k8 (by omega) (by omega)]
   simp only [oB]
   left
   obtain ⟨row2, r1, r2⟩ := k3.pend row hrow
   refine ⟨(m2, ns2, q2, j + 1), rfl, ⟨k2, h2.step h1.bs k2.bs k3, k3.keep h3, by have := k3.psi; simp only; omega, by simp only; omega, fun row' hr' => ?_⟩, ?_⟩
   ·obtain ⟨e, he⟩ := k3.row c row hrow
    simp only at hr' ⊢
    rw [he] at hr'
    cases hr'
    refine ⟨by simp; omega, fun p i' n' hp' hi' hn' => ?_⟩
    have hp0 := (j7 hi').1
    obtain ⟨i2, hi2, _⟩ := i9 (l := row) hp0 (by omega)
    have e2 : ix (row ++ e) p = ix row p := by
     rw [show p = ((p.toNat : Nat) : Int) by omega, o6, o6, List.getElem?_append_left (by omega)]
    rw [e2, hi2] at hi'
    cases hi'
    obtain ⟨n2, hn2, _⟩ := h1.bs.qs _ _ hrow i' (p8 hi2)
    have := k3.nst _ _ hn2
    rw [hn'] at this
    cases this
    by_cases ep : p = j
    ·subst ep
     rw [hi] at hi2
     cases hi2
     rw [hn] at hn2
     cases hn2
     exact k4
    ·exact (g2 p i' n' (by omega) hi2 hn2).mono k3
   ·simp only [r1, hrow, Option.getD_some]
    omega
 ·rw [if_neg cj]
  right
  refine ⟨_, rfl, .inl ⟨m1, ns1, q1, rfl, h1, fun i n hi hl => ?_, h3, h4⟩⟩
  by_cases e : n.change = c
  ·obtain ⟨r, p, k1, k2⟩ := h1.bs.qn i n hi
   rw [e, hrow] at k1
   cases k1
   exact g2 p i n (by have := j7 k2; omega) k2 hi
  ·exact h2 i n hi (by omega)
theorem plan_outer {t : d5} (ht : k9 t) {plan : List Int} (hp : H1 t plan) {m : Mp'} {ns : List d3} {q : List (List Int)} (h : Rd t plan 0 m ns q) (hsat : Sat m t.init 0 0) :
  ∃ o, Loop (H4 t plan) (m, ns, q, 0) = some o ∧ ((o = .inl () ∧ ∀ st, (∀ x ∈ st, (0 : Int) ≤ x ∧ x < t.operators.length) → ¬ C2 t t.init st) ∨ ∃ x, o = .inr x ∧ Res t plan x) := by
 refine G8 (body := H4 t plan) (s := (m, ns, q, 0))
  (fun s => 0 ≤ s.2.2.2 ∧ s.2.2.2 ≤ s.2.2.1.length ∧ Bs t plan s.2.2.2 s.1 s.2.1 s.2.2.1 ∧ s.2.1.length + pot s.2.2.2 s.1 ≤ 2 * univ.length ∧ allHd t plan s.2.2.2 s.1 s.2.1 ∧ Sat s.1 t.init 0 0)
  (fun o => (o = .inl () ∧ ∀ st, (∀ x ∈ st, (0 : Int) ≤ x ∧ x < t.operators.length) → ¬ C2 t t.init st) ∨ ∃ x, o = .inr x ∧ Res t plan x)
  (fun s => s.2.2.1.length + pot s.2.2.2 s.1 - s.2.2.2.toNat) ⟨Int.le_refl _, by simp only; omega, h.bs, h.nb, fun i n hi hl => by have := (h.bs.node i n hi).1.ch0; simp only at hl; omega, hsat⟩ (fun s hP => ?_)
 obtain ⟨m1, ns1, q1, c⟩ := s
 obtain ⟨h1, h2, h3, h4, h5, h6⟩ := hP
 simp only at h1 h2 h3 h4 h5 h6
 unfold H4
 dsimp only
 by_cases cq : c < (q1.length : Int)
 ·rw [if_pos cq]
  obtain ⟨o, g1, g2⟩ := plan_inner ht hp h1 ⟨h3, h4, cq⟩ h5 h6
  rw [g1]
  rcases g2 with ⟨m2, ns2, q2, rfl, k1, k2, k3, k4⟩ | ⟨x, rfl, hx⟩
  ·left
   have := k1.small
   refine ⟨(m2, ns2, q2, c + 1), by simp only [oB]; rw [k8 (by omega) (by omega)], ⟨by simp only; omega, ?_, k1.bs.next, ?_, k2, k3⟩, ?_⟩
   ·have := k1.ql; simp only; omega
   ·have := k1.nb
    have := late_mono (c := c) (c' := c + 1) (by omega) m2
    simp only [pot] at *
    omega
   ·have := late_mono (c := c) (c' := c + 1) (by omega) m2
    simp only [pot] at *
    omega
  ·right
   exact ⟨_, rfl, .inr ⟨x, rfl, hx⟩⟩
 ·rw [if_neg cq]
  right
  refine ⟨_, rfl, .inl ⟨rfl, fun st hv hw => ?_⟩⟩
  have hall : ∀ i n, ix ns1 i = some n → n.change < ((dm plan st : Nat) : Int) + 1 → Hd t plan m1 n := fun i n hi _ => h5 i n hi (by
   obtain ⟨r, p, k1, _⟩ := h3.qn i n hi
   have := j7 k1
   omega)
  have := none_nearer ht.init h3 hall h6 hv hw
  omega
end Ab
end
section
namespace Ab
open Go
theorem bs_nil (t : d5) (plan : List Int) : Bs t plan 0 [] [] [] :=
 have hnil : ∀ {α : Type} (i : Int), ix ([] : List α) i = none := fun i => by simp [ix]
 {node := fun i n h => by rw [hnil] at h; cases h
  m1 := fun i n h => by rw [hnil] at h; cases h
  m2 := fun s a v _ _ _ h => by cases h
  qs := fun b row h => by rw [hnil] at h; cases h
  qn := fun i n h => by rw [hnil] at h; cases h
  nd := by simp
  un := fun k hk => by cases hk
  vl := fun k hk => by cases hk
  ql := Nat.le_refl _
  rl := fun b row h => by rw [hnil] at h; cases h }
theorem pot_nil {U : Nat} (hU : univ.length = U) {c : Int} {m : Mp'} (hm : m.length = 0) (hl : late c m = 0) : pot c m = 2 * U := by
 unfold pot
 rw [hU, hm, hl, Nat.sub_zero, Nat.add_zero]
theorem first_add {t : d5} (ht : k9 t) {plan : List Int} (hp : H1 t plan) : ∃ m ns q, k6 (⟨t.init, 0, -1, -1, 0⟩ : d3) t plan ([] : List d3) ([] : List (List Int)) ([] : List (ByteArray × Int)) = some (m, ns, q) ∧ Rd t plan 0 m ns q ∧ Sat m t.init 0 0 := by
 obtain ⟨U, hU⟩ : ∃ U, univ.length = U := ⟨_, rfl⟩
 have hpot := pot_nil hU (c := 0) (m := []) rfl rfl
 have h0 : ([] : List d3).length + pot 0 ([] : Mp') ≤ 2 * univ.length := by
  rw [hpot, hU, List.length_nil, Nat.zero_add]
  exact Nat.le_refl _
 obtain ⟨m, ns, q, h1, h2, h3, h4⟩ := add_spec ht hp.1 (Int.le_refl 0) (bs_nil t plan) h0 (nv := ⟨t.init, 0, -1, -1, 0⟩) ⟨ht.init, Int.le_refl 0, Int.natCast_nonneg _, Int.le_refl 0⟩ (.inl rfl) (Int.le_refl 0)
  ⟨[], .root (by show (-1 : Int) < 0; decide), by show (-1 : Int) < 0; decide, by
   simp only
   rw [if_neg (by decide)]
   exact ⟨by simp, rfl, .nil⟩⟩
 have hN : ns.length + pot 0 m ≤ 2 * univ.length := by
  have := h3.nsl
  rw [hpot, List.length_nil, Nat.zero_add] at this
  rw [hU]; exact this
 clear h0 hpot hU
 refine ⟨m, ns, q, h1, ⟨h2, hN, ?_⟩, h4⟩
 obtain ⟨v, g1, g2⟩ := h4
 obtain ⟨i, n, k1, _, _, k4⟩ := h2.m2 _ _ _ ht.init (by decide) (Int.natCast_nonneg _) g1
 have := (h2.node i n k1).1.ch0
 obtain ⟨row, p, l1, _⟩ := h2.qn i n k1
 have h9 := (j7 l1).2.1
 have g3 : v ≤ 0 := g2
 clear hN
 omega
theorem plan_spec (t : d5) (plan : List Int) : ∃ r e, G9 t plan = some r ∧ C6 t plan = some e ∧
  ((e.code ≠ 0 ∧ ¬ (k9 t ∧ H1 t plan) ∧ r = ([], 0, false, e)) ∨
   (e = ⟨0, 0⟩ ∧ k9 t ∧ H1 t plan ∧ Many t ∧ r = ([], 0, false, ⟨10, -7⟩)) ∨
   (e = ⟨0, 0⟩ ∧ k9 t ∧ H1 t plan ∧ (∃ l : List (List Int), l.Nodup ∧ l.length ≤ 2000 ∧ ∀ s, s ∈ l ↔ Rt t s) ∧ ((r = ([], 0, false, ⟨0, 0⟩) ∧ ∀ st, (∀ x ∈ st, (0 : Int) ≤ x ∧ x < t.operators.length) → ¬ C2 t t.init st) ∨ Res t plan r))) := by
 obtain ⟨e, h1, h2, h3⟩ := planFault_eq t plan
 unfold G9
 rw [h1]
 simp only [oB]
 rcases h3 with ⟨rfl, ht, hp⟩ | ⟨hc, hn⟩
 ·rw [if_neg (by simp)]
  obtain ⟨b, b1, b2, b3⟩ := breadth_spec ht
  rw [O8, b1]
  simp only [oB]
  cases b with
  | false =>
   rw [if_pos (by rfl)]
   exact ⟨_, _, rfl, h2, .inr (.inl ⟨rfl, ht, hp, b2 rfl, rfl⟩)⟩
  | true =>
   rw [if_neg (by simp)]
   obtain ⟨m, ns, q, a1, a2, a3⟩ := first_add ht hp
   rw [a1]
   simp only [oB]
   obtain ⟨o, o1, o2⟩ := plan_outer ht hp a2 a3
   rw [o1]
   rcases o2 with ⟨rfl, o2⟩ | ⟨x, rfl, o2⟩
   ·exact ⟨_, _, rfl, h2, .inr (.inr ⟨rfl, ht, hp, b3 rfl, .inl ⟨rfl, o2⟩⟩)⟩
   ·exact ⟨_, _, rfl, h2, .inr (.inr ⟨rfl, ht, hp, b3 rfl, .inr o2⟩)⟩
 ·rw [if_pos (fault_no hc)]
  exact ⟨_, _, rfl, h2, .inl ⟨hc, hn, rfl⟩⟩
theorem dm_self (a : List Int) : dm a a = 0 := by have := dm_le (Ed.refl a); omega
theorem near_eq : G9 C0 [1] = some ([1], 0, true, ⟨0, 0⟩) := by
 obtain ⟨r, e, h1, h2, h3⟩ := plan_spec C0 [1]
 have hp : H1 C0 [1] := ⟨by decide, by simp [C0]⟩
 have hv : ∀ x ∈ ([1] : List Int), (0 : Int) ≤ x ∧ x < C0.operators.length := by simp [C0]
 have hw : C2 C0 C0.init [1] := by
  refine ⟨aft C0 C0.init 1, ?_, fun x hx => ?_⟩
  ·simp only [ends]
   rw [if_pos (i6 (show can C0 C0.init 1 from fun x hx => by simp [opAt, C0] at hx))]
  ·refine M7.2 ⟨?_, ?_, .inl ?_⟩ <;> simp [C0] at hx <;> subst hx <;> simp [C0, opAt]
 rcases h3 with ⟨_, hn, _⟩ | ⟨_, _, _, ⟨l, l1, l2, l3⟩, _⟩ | ⟨_, _, _, _, ⟨_, h⟩ | ⟨st, d, hF, h⟩⟩
 ·exact absurd ⟨step_ok, hp⟩ hn
 ·have := U5 (S := allS 2 0) l1 (fun s hs => by
   have := (l3 s hs).setN step_ok
   exact X4 this.1 fun x hx => by have := this.2 x hx; simp only [C0] at this; omega)
  rw [allS_len] at this
  omega
 ·exact absurd hw (h _ hv)
 ·have hd := hF.low [1] hv hw
  rw [dm_self] at hd
  have h0 := hF.d0
  have : d = 0 := by omega
  subst this
  have := hF.ed.eq rfl
  subst this
  rcases h with ⟨_, h⟩ | ⟨h, _⟩
  ·rw [h1, h]
  ·simp at h
theorem nearest_true : B5 = some true := by
 unfold B5
 rw [show Y5 = some C0 from rfl, distance_eq (by decide) (by decide)]
 simp only [oB, near_eq]
 rw [show dm [1, 2] [2, 3] = 2 by decide]
 simp [numbers_eq, dec]
end Ab
end
section
namespace Ab
open Go
theorem Found.len {t : d5} {plan st : List Int} {d : Int} (h : Found t plan st d) : (st.length : Int) ≤ plan.length + d := by
 have key : ∀ {n : Nat} {a b : List Int}, Ed n a b → b.length ≤ a.length + n := fun h => by
  induction h <;> simp only [List.length_cons, List.length_nil] <;> omega
 have := key h.ed
 have := h.d0
 omega
theorem ab1 (t : d5) (plan : List Int) : A4 t plan = some true := by
 unfold A4
 simp only [nearest_true, oB]
 obtain ⟨r, e, h1, h2, h3⟩ := plan_spec t plan
 rw [h1, h2]
 simp only [oB]
 by_cases he : e.code = 0
 ·rw [if_pos he]
  rcases h3 with ⟨k, _, rfl⟩ | ⟨_, ht, hp, hm, rfl⟩ | ⟨_, ht, hp, hf, h3⟩
  ·exact absurd he k
  ·obtain ⟨S, b, r1, r2, r3⟩ := ad5 ht
   rw [r1]
   simp only [oB]
   cases b with
   | false => rw [if_pos (by simp)]
   | true =>
    obtain ⟨q1, q2, q3, _⟩ := r3 rfl
    obtain ⟨l, l1, l2, l3⟩ := hm
    have := U5 l1 (S := S) fun s hs => (q3 s).2 (l3 s hs)
    omega
  ·obtain ⟨S, b, r1, r2, r3⟩ := ad5 ht
   rw [r1]
   simp only [oB]
   by_cases hsm : b = true ∧ S.length ≤ 35 ∧ plan.length ≤ 12
   ·obtain ⟨rfl, s1, s2⟩ := hsm
    obtain ⟨q1, q2, q3, _⟩ := r3 rfl
    rw [if_neg (by simp; omega)]
    have hS : Sts t S := ⟨q1, s1, q3⟩
    obtain ⟨x, x1, x2⟩ := nearest_spec ht hS s2 hp.2
    rw [x1]
    simp only [oB]
    rcases h3 with ⟨rfl, hno⟩ | ⟨st, d, hF, hr⟩
    ·rcases x2 with ⟨rfl, _⟩ | ⟨_, _, hn, _⟩
     ·rw [if_pos (by omega)]; simp
     ·obtain ⟨p, p1, p2, _⟩ := hn.plan
      exact absurd p2 (hno p p1)
    ·obtain ⟨p, p1, p2, p3⟩ := short_plan (fun s hs => (q3 s).2 hs) .init hF.ok hF.sol
     have hd := hF.low p p2 p3
     have hdl := dm_len plan p
     have hlen := hF.len
     have h0 := hF.d0
     have hnr := Nr.of hF.ed (s := t.init) hF.ok hF.sol
     rcases x2 with ⟨rfl, hn⟩ | ⟨x2, x3, hn, hl⟩
     ·have := hn _ hnr; omega
     ·have hx : x = d := by
       obtain ⟨p', a, b, c⟩ := hn.plan
       have h5 := hF.low p' a b
       have h6 := dm_le c
       have h7 := hl _ hnr
       omega
      subst hx
      rw [if_neg (by omega)]
      rcases hr with ⟨k1, rfl⟩ | ⟨k1, _⟩
      ·obtain ⟨f, f1, f2⟩ := rSteps_eq (n := (t.operators.length : Int)) (by omega) (by have := ht.ops; omega) st
       have hsol : O1 t st = some true := by
        unfold O1
        rw [rWorks_eq ht hF.ok, i6 hF.sol]; rfl
       have hap : N0 plan st = some x := by rw [apart_eq hp.1 k1, hF.dist]
       rcases f2 with ⟨rfl, _⟩ | ⟨_, f3⟩
       ·simp [f1, hsol, hap]
       ·exact absurd ⟨k1, hF.ok⟩ f3
      ·omega
   ·rw [if_pos (by cases b <;> simp at hsm ⊢; omega)]
 ·rw [if_neg he]
  rcases h3 with ⟨k, _, rfl⟩ | ⟨rfl, _⟩ | ⟨rfl, _⟩
  ·simp
  ·simp at he
  ·simp at he
end Ab
end
