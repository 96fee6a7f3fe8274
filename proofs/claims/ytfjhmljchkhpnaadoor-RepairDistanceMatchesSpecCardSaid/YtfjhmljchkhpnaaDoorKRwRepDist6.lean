/-
  Texts that the proof stands on.
-/
import Derived.Test.YtfjhmljchkhpnaaDoorKRwRepDist5
set_option linter.all false
section
namespace Ab
open Go
/-- What a handled node has left behind. -/
structure Hd (t : TTask) (plan : List Int) (m : Mp') (n : Trepair_node) : Prop where
  goal : n.fat = plan.length → ¬ ∀ x ∈ t.goal, x ∈ n.fs
  keep : ∀ op, ix plan n.fat = some op → can t n.fs op → Sat m (aft t n.fs op) (n.fat + 1) n.change
  skip : n.fat < plan.length → Sat m n.fs (n.fat + 1) (n.change + 1)
  ins : ∀ op : Int, 0 ≤ op → op < t.operators.length → can t n.fs op → Sat m (aft t n.fs op) n.fat (n.change + 1)
theorem Hd.mono {t : TTask} {plan : List Int} {c : Int} {m m' : Mp'} {ns ns' : List Trepair_node} {q q' : List (List Int)} {n : Trepair_node} (h : Hd t plan m n) (hs : Stp c m ns q m' ns' q') : Hd t plan m' n :=
  ⟨h.goal, fun op h1 h2 => hs.keep (h.keep op h1 h2), fun h1 => hs.keep (h.skip h1), fun op h0 h1 h2 => hs.keep (h.ins op h0 h1 h2)⟩
structure Rd (t : TTask) (plan : List Int) (c : Int) (m : Mp') (ns : List Trepair_node) (q : List (List Int)) : Prop where
  bs : Bs t plan c m ns q
  nb : ns.length + pot c m ≤ 2 * univ.length
  ql : c < q.length
theorem Sat.le {m : Mp'} {s : List Int} {a d d' : Int} (h : Sat m s a d) (hd : d ≤ d') : Sat m s a d' := by
  obtain ⟨v, h1, h2⟩ := h
  exact ⟨v, h1, by omega⟩
theorem take_next {plan : List Int} {a op : Int} (h : ix plan a = some op) : plan.take (a + 1).toNat = plan.take a.toNat ++ [op] := by
  obtain ⟨h0, h1, h2⟩ := ix_lo h
  rw [show (a + 1).toNat = a.toNat + 1 by omega, List.take_add_one, h2]; rfl
theorem way_keep {t : TTask} {plan st : List Int} (hp : PlanOk t plan) {n : Trepair_node} (h : Way t plan st n) {op : Int} (hop : ix plan n.fat = some op) (hc : can t n.fs op) (i : Int) : Way t plan (st ++ [op]) ⟨aft t n.fs op, n.fat + 1, i, op, n.change⟩ := by
  obtain ⟨h1, h2, h3⟩ := h
  refine ⟨fun x hx => ?_, ?_, ?_⟩
  · rcases List.mem_append.1 hx with hx | hx
    · exact h1 x hx
    · simp only [List.mem_singleton] at hx; subst hx; exact hp.2 _ (ix_mem hop)
  · rw [ends_append, h2]
    simp only [Option.bind_some, ends]
    rw [if_pos (dec_of hc)]
  · show Ed n.change.toNat (plan.take (n.fat + 1).toNat) (st ++ [op])
    rw [take_next hop]
    exact h3.keepR op
theorem way_skip {t : TTask} {plan st : List Int} {n : Trepair_node} (h : Way t plan st n) (hch : 0 ≤ n.change) {op : Int} (hop : ix plan n.fat = some op) (i : Int) : Way t plan st ⟨n.fs, n.fat + 1, i, -1, n.change + 1⟩ := by
  obtain ⟨h1, h2, h3⟩ := h
  refine ⟨h1, h2, ?_⟩
  show Ed (n.change + 1).toNat (plan.take (n.fat + 1).toNat) st
  rw [take_next hop, show (n.change + 1).toNat = n.change.toNat + 1 by omega]
  exact h3.delR op
theorem way_ins {t : TTask} {plan st : List Int} {n : Trepair_node} (h : Way t plan st n) (hch : 0 ≤ n.change) {op : Int} (h0 : 0 ≤ op) (hl : op < t.operators.length) (hc : can t n.fs op) (i : Int) : Way t plan (st ++ [op]) ⟨aft t n.fs op, n.fat, i, op, n.change + 1⟩ := by
  obtain ⟨h1, h2, h3⟩ := h
  refine ⟨fun x hx => ?_, ?_, ?_⟩
  · rcases List.mem_append.1 hx with hx | hx
    · exact h1 x hx
    · simp only [List.mem_singleton] at hx; subst hx; exact ⟨h0, hl⟩
  · rw [ends_append, h2]
    simp only [Option.bind_some, ends]
    rw [if_pos (dec_of hc)]
  · show Ed (n.change + 1).toNat (plan.take n.fat.toNat) (st ++ [op])
    rw [show (n.change + 1).toNat = n.change.toNat + 1 by omega]
    exact h3.insR op
theorem add_rd {t : TTask} (ht : TaskOk t) {plan : List Int} (hp : PlanOk t plan) {c : Int} (hc : 0 ≤ c) {m : Mp'} {ns : List Trepair_node} {q : List (List Int)} (h : Rd t plan c m ns q)
    {nv : Trepair_node} (hn : NodeOk t plan nv) (hch : nv.change = c ∨ nv.change = c + 1) (hW : ∃ st, Chn ns nv.ffrom st ∧ nv.ffrom < ns.length ∧ Way t plan (if 0 ≤ nv.op then st ++ [nv.op] else st) nv) :
    ∃ m' ns' q', repair_searcher_add_w2 nv t plan ns q m = some (m', ns', q') ∧ Rd t plan c m' ns' q' ∧ Stp c m ns q m' ns' q' ∧ Sat m' nv.fs nv.fat nv.change := by
  have := h.ql
  obtain ⟨m', ns', q', h1, h2, h3, h4⟩ := add_spec ht hp.1 hc h.bs h.nb hn hch (by omega) hW
  refine ⟨m', ns', q', h1, ⟨h2, ?_, ?_⟩, h3, h4⟩
  · have := h.nb; have := h3.nsl; omega
  · have := h3.len; omega
theorem Rd.small {t : TTask} {plan : List Int} {c : Int} {m : Mp'} {ns : List Trepair_node} {q : List (List Int)} (h : Rd t plan c m ns q) : c < 2100000000 ∧ ns.length ≤ 2100000000 := by
  have := h.nb; have := h.ql; have := h.bs.ql; have := univ_len
  omega
theorem expand_tail {t : TTask} (ht : TaskOk t) {plan : List Int} (hp : PlanOk t plan) {c : Int} (hc : 0 ≤ c) {m : Mp'} {ns : List Trepair_node} {q : List (List Int)} (h : Rd t plan c m ns q) {i : Int} {n : Trepair_node} (hi : ix ns i = some n) (hnc : n.change = c) :
    ∃ m' ns' q', repair_searcher_expand_w_r2 i t plan n m ns q = some (m', ns', q') ∧ Rd t plan c m' ns' q' ∧ Stp c m ns q m' ns' q' ∧ ∀ op : Int, 0 ≤ op → op < t.operators.length → can t n.fs op → Sat m' (aft t n.fs op) n.fat (n.change + 1) := by
  obtain ⟨hok, _, st, hch, hway⟩ := h.bs.node i n hi
  have hsm := h.small
  unfold repair_searcher_expand_w_r2
  obtain ⟨⟨m', ns', q'⟩, h1, h2, h3, h4⟩ := forR_inv (body := repair_searcher_expand_w_l1 i t plan n) (n := (t.operators.length : Int)) (s := (m, ns, q))
    (fun j s => Rd t plan c s.1 s.2.1 s.2.2 ∧ Stp c m ns q s.1 s.2.1 s.2.2 ∧ ∀ op : Int, 0 ≤ op → op < j → can t n.fs op → Sat s.1 (aft t n.fs op) n.fat (n.change + 1)) (by omega) ⟨h, .refl .., fun op g0 g1 => by omega⟩
    (fun j s j0 j1 hP => by
      obtain ⟨m1, ns1, q1⟩ := s
      obtain ⟨g1, g2, g3⟩ := hP
      simp only at g1 g2 g3
      unfold repair_searcher_expand_w_l1
      simp only [can_eq ht j0 j1 hok.set, next_eq ht j0 j1 hok.set, Option.bind_some]
      by_cases hcan : can t n.fs j
      · rw [if_pos (dec_of hcan), w64_of (by omega) (by omega)]
        have hs1 := g1.small
        obtain ⟨m2, ns2, q2, k1, k2, k3, k4⟩ := add_rd ht hp hc g1 (nv := ⟨aft t n.fs j, n.fat, i, j, n.change + 1⟩) ⟨setN_aft _ _ _, hok.at0, hok.at1, by simp only; omega⟩ (by simp only; omega)
          ⟨st, hch.mono g2.nst, by have := ix_lo (g2.nst i n hi); exact this.2.1, by simp only; rw [if_pos j0]; exact way_ins hway hok.ch0 j0 j1 hcan i⟩
        rw [k1]
        refine ⟨(m2, ns2, q2), rfl, k2, g2.trans k3, fun op o0 o1 ho => ?_⟩
        by_cases e : op = j
        · subst e; exact k4
        · exact k3.keep (g3 op o0 (by omega) ho)
      · rw [if_neg (by rw [dec_true]; exact hcan)]
        refine ⟨(m1, ns1, q1), rfl, g1, g2, fun op o0 o1 ho => ?_⟩
        by_cases e : op = j
        · subst e; exact absurd ho hcan
        · exact g3 op o0 (by omega) ho)
  rw [h1]
  exact ⟨m', ns', q', rfl, h2, h3, h4⟩
theorem expand_spec {t : TTask} (ht : TaskOk t) {plan : List Int} (hp : PlanOk t plan) {c : Int} (hc : 0 ≤ c) {m : Mp'} {ns : List Trepair_node} {q : List (List Int)} (h : Rd t plan c m ns q) {i : Int} {n : Trepair_node} (hi : ix ns i = some n) (hnc : n.change = c) (hg : n.fat = plan.length → ¬ ∀ x ∈ t.goal, x ∈ n.fs) :
    ∃ m' ns' q', repair_searcher_expand_w i t plan ns q m = some (m', ns', q') ∧ Rd t plan c m' ns' q' ∧ Stp c m ns q m' ns' q' ∧ Hd t plan m' n := by
  obtain ⟨hok, _, st, hch, hway⟩ := h.bs.node i n hi
  have hsm := h.small
  have h60 := hp.1
  have hat0 := hok.at0
  have hat1 := hok.at1
  have fin : ∀ {m1 : Mp'} {ns1 : List Trepair_node} {q1 : List (List Int)}, Rd t plan c m1 ns1 q1 → Stp c m ns q m1 ns1 q1 → (∀ op, ix plan n.fat = some op → can t n.fs op → Sat m1 (aft t n.fs op) (n.fat + 1) n.change) → (n.fat < plan.length → Sat m1 n.fs (n.fat + 1) (n.change + 1)) →
      ∃ m' ns' q', (Option.bind (strips_Successors_w t n.fs) fun a75 => Option.bind (repair_searcher_expand_w_r2 i t plan n m1 ns1 q1) fun ⟨c71, c72, c73⟩ => some (c71, c72, c73)) = some (m', ns', q') ∧ Rd t plan c m' ns' q' ∧ Stp c m ns q m' ns' q' ∧ Hd t plan m' n := fun {m1 ns1 q1} g1 g2 g3 g4 => by
    obtain ⟨m', ns', q', k1, k2, k3, k4⟩ := expand_tail ht hp hc g1 (g2.nst i n hi) hnc
    rw [strips_Successors_w]
    simp only [Option.bind_some, k1]
    exact ⟨m', ns', q', rfl, k2, g2.trans k3, hg, fun op o1 o2 => k3.keep (g3 op o1 o2), fun o => k3.keep (g4 o), k4⟩
  unfold repair_searcher_expand_w
  rw [hi]
  simp only [Option.bind_some]
  by_cases c1 : n.fat < (plan.length : Int)
  · rw [if_pos c1]
    obtain ⟨op, hop, _⟩ := ix_of (l := plan) hat0 c1
    have hv := hp.2 op (ix_mem hop)
    rw [w64_of (n := n.fat + 1) (by omega) (by omega), w64_of (n := n.change + 1) (by omega) (by omega)]
    simp only [hop, Option.bind_some, can_eq ht hv.1 hv.2 hok.set, next_eq ht hv.1 hv.2 hok.set]
    have skip : ∀ {m1 : Mp'} {ns1 : List Trepair_node} {q1 : List (List Int)}, Rd t plan c m1 ns1 q1 → Stp c m ns q m1 ns1 q1 → ∃ m' ns' q', repair_searcher_add_w2 ⟨n.fs, n.fat + 1, i, -1, n.change + 1⟩ t plan ns1 q1 m1 = some (m', ns', q') ∧ Rd t plan c m' ns' q' ∧ Stp c m1 ns1 q1 m' ns' q' ∧ Sat m' n.fs (n.fat + 1) (n.change + 1) := fun {m1 ns1 q1} g1 g2 =>
      add_rd ht hp hc g1 (nv := ⟨n.fs, n.fat + 1, i, -1, n.change + 1⟩) ⟨hok.set, by simp only; omega, by simp only; omega, by simp only; omega⟩ (by simp only; omega)
        ⟨st, hch.mono g2.nst, (ix_lo (g2.nst i n hi)).2.1, by simp only; rw [if_neg (by omega)]; exact way_skip hway hok.ch0 hop i⟩
    by_cases hcan : can t n.fs op
    · rw [if_pos (dec_of hcan)]
      obtain ⟨m1, ns1, q1, k1, k2, k3, k4⟩ := add_rd ht hp hc h (nv := ⟨aft t n.fs op, n.fat + 1, i, op, n.change⟩) ⟨setN_aft _ _ _, by simp only; omega, by simp only; omega, hok.ch0⟩ (by simp only; omega)
        ⟨st, hch, (ix_lo hi).2.1, by simp only; rw [if_pos hv.1]; exact way_keep hp hway hop hcan i⟩
      obtain ⟨m2, ns2, q2, l1, l2, l3, l4⟩ := skip k2 k3
      simp only [k1, l1, Option.bind_some]
      exact fin l2 (k3.trans l3) (fun op' o1 o2 => by rw [hop] at o1; cases o1; exact l3.keep k4) (fun _ => l4)
    · rw [if_neg (by rw [dec_true]; exact hcan)]
      obtain ⟨m2, ns2, q2, l1, l2, l3, l4⟩ := skip h (.refl ..)
      simp only [l1, Option.bind_some]
      exact fin l2 l3 (fun op' o1 o2 => by rw [hop] at o1; cases o1; exact absurd o2 hcan) (fun _ => l4)
  · rw [if_neg c1]
    simp only [Option.bind_some]
    exact fin h (.refl ..) (fun op' o1 _ => by have := ix_lo o1; omega) (fun o => absurd o c1)
/-- What is found is no farther than any plan: all that is cheaper has been handled. -/
theorem sat_ed {t : TTask} {plan : List Int} {c C : Int} {m : Mp'} {ns : List Trepair_node} {q : List (List Int)} (hB : Bs t plan c m ns q) (hall : ∀ i n, ix ns i = some n → n.change < C → Hd t plan m n)
    {k : Nat} {A B : List Int} (h : Ed k A B) : ∀ {s e : List Int} {a d : Int}, Sat m s a d → SetN s t.facts → 0 ≤ a → 0 ≤ d → (∃ R, plan.drop a.toNat = A ++ R) → a + A.length ≤ plan.length → (∀ x ∈ B, (0 : Int) ≤ x ∧ x < t.operators.length) → ends t s B = some e → d + k < C → Sat m e (a + A.length) (d + k) := by
  have node : ∀ {s : List Int} {a d : Int}, Sat m s a d → SetN s t.facts → 0 ≤ a → a ≤ plan.length → d < C → ∃ n, Hd t plan m n ∧ n.fs = s ∧ n.fat = a ∧ n.change ≤ d := fun {s a d} ⟨v, h1, h2⟩ hs h0 hl hd => by
    obtain ⟨i, n, g1, g2, g3, g4⟩ := hB.m2 s a v hs h0 hl h1
    exact ⟨n, hall i n g1 (by omega), g2, g3, by omega⟩
  induction h with
  | nil =>
    intro s e a d hS hs h0 hd _ _ _ he _
    simp only [ends, Option.some.injEq] at he
    subst he
    simpa using hS
  | @keep k x A B h ih =>
    intro s e a d hS hs h0 hd hR hl hv he hC
    obtain ⟨R, hR⟩ := hR
    simp only [List.length_cons] at hl ⊢
    obtain ⟨n, g1, rfl, rfl, g4⟩ := node hS hs h0 (by omega) (by omega)
    have hx : ix plan n.fat = some x := by
      rw [show n.fat = ((n.fat.toNat : Nat) : Int) by omega, ix_nat]
      have := congrArg (fun l => l[0]?) hR
      simpa using this
    simp only [ends] at he
    split at he
    · rename_i hc
      have hS2 := (g1.keep x hx (dec_true.1 hc)).le g4
      have := ih hS2 (setN_aft _ _ _) (by omega) hd ⟨R, by
        rw [show (n.fat + 1).toNat = n.fat.toNat + 1 by omega, ← List.drop_drop, hR]; rfl⟩ (by omega) (fun y hy => hv y (List.mem_cons_of_mem _ hy)) he hC
      rw [show n.fat + ((A.length + 1 : Nat) : Int) = n.fat + 1 + A.length by omega]
      exact this
    · cases he
  | @del k x A B h ih =>
    intro s e a d hS hs h0 hd hR hl hv he hC
    obtain ⟨R, hR⟩ := hR
    simp only [List.length_cons] at hl ⊢
    obtain ⟨n, g1, rfl, rfl, g4⟩ := node hS hs h0 (by omega) (by omega)
    have hS2 := (g1.skip (by omega)).le (d' := d + 1) (by omega)
    have := ih hS2 hs (by omega) (by omega) ⟨R, by
        rw [show (n.fat + 1).toNat = n.fat.toNat + 1 by omega, ← List.drop_drop, hR]; rfl⟩ (by omega) hv he (by omega)
    rw [show n.fat + ((A.length + 1 : Nat) : Int) = n.fat + 1 + A.length by omega, show d + ((k + 1 : Nat) : Int) = d + 1 + k by omega]
    exact this
  | @ins k y A B h ih =>
    intro s e a d hS hs h0 hd hR hl hv he hC
    obtain ⟨n, g1, rfl, rfl, g4⟩ := node hS hs h0 (by omega) (by omega)
    have hvy := hv y List.mem_cons_self
    simp only [ends] at he
    split at he
    · rename_i hc
      have hS2 := (g1.ins y hvy.1 hvy.2 (dec_true.1 hc)).le (d' := d + 1) (by omega)
      have := ih hS2 (setN_aft _ _ _) h0 (by omega) hR hl (fun y hy => hv y (List.mem_cons_of_mem _ hy)) he (by omega)
      rw [show d + ((k + 1 : Nat) : Int) = d + 1 + k by omega]
      exact this
    · cases he
theorem none_nearer {t : TTask} (hi : SetN t.init t.facts) {plan : List Int} {c C : Int} {m : Mp'} {ns : List Trepair_node} {q : List (List Int)} (hB : Bs t plan c m ns q) (hall : ∀ i n, ix ns i = some n → n.change < C → Hd t plan m n) (h0 : Sat m t.init 0 0)
    {st : List Int} (hv : ∀ x ∈ st, (0 : Int) ≤ x ∧ x < t.operators.length) (hw : works t t.init st) : C ≤ dm plan st := by
  obtain ⟨e, h1, h2⟩ := hw
  rcases Int.lt_or_le (dm plan st : Int) C with h | h
  · exfalso
    have hS := sat_ed hB hall (dm_ed plan st) h0 hi (Int.le_refl 0) (Int.le_refl 0) ⟨[], by simp⟩ (by omega) hv h1 (by omega)
    obtain ⟨v, g1, g2⟩ := hS
    obtain ⟨i, n, k1, k2, k3, k4⟩ := hB.m2 e _ v (ends_setN hi h1) (by omega) (by omega) g1
    refine (hall i n k1 (by omega)).goal (by omega) ?_
    rw [k2]; exact h2
  · exact h
/-- A plan that is found. -/
structure Found (t : TTask) (plan st : List Int) (d : Int) : Prop where
  ok : ∀ x ∈ st, (0 : Int) ≤ x ∧ x < t.operators.length
  sol : works t t.init st
  d0 : 0 ≤ d
  ed : Ed d.toNat plan st
  low : ∀ other, (∀ x ∈ other, (0 : Int) ≤ x ∧ x < t.operators.length) → works t t.init other → d ≤ dm plan other
def Res (t : TTask) (plan : List Int) (o : List Int × Int × Bool × TFault) : Prop :=
  ∃ st d, Found t plan st d ∧ ((st.length ≤ 60 ∧ o = (st, d, true, ⟨0, 0⟩)) ∨ (60 < st.length ∧ o = ([], 0, false, ⟨10, -5⟩)))
theorem Bs.next {t : TTask} {plan : List Int} {c : Int} {m : Mp'} {ns : List Trepair_node} {q : List (List Int)} (h : Bs t plan c m ns q) : Bs t plan (c + 1) m ns q :=
  { h with
    node := fun i n hi => by obtain ⟨h1, h2, h3⟩ := h.node i n hi; exact ⟨h1, by omega, h3⟩
    vl := fun p hp => by have := h.vl p hp; omega }
def allHd (t : TTask) (plan : List Int) (c : Int) (m : Mp') (ns : List Trepair_node) : Prop := ∀ i n, ix ns i = some n → n.change < c → Hd t plan m n
theorem allHd.step {t : TTask} {plan : List Int} {c : Int} {m m' : Mp'} {ns ns' : List Trepair_node} {q q' : List (List Int)} (h : allHd t plan c m ns) (hB : Bs t plan c m ns q) (hB' : Bs t plan c m' ns' q') (hs : Stp c m ns q m' ns' q') : allHd t plan c m' ns' := fun i n hi hl => by
  obtain ⟨row, p, g1, g2⟩ := hB'.qn i n hi
  rw [hs.old _ hl] at g1
  obtain ⟨n0, k1, k2⟩ := hB.qs _ _ g1 i (ix_mem g2)
  have := hs.nst i n0 k1
  rw [hi] at this
  cases this
  exact (h i n k1 hl).mono hs
theorem plan_inner {t : TTask} (ht : TaskOk t) {plan : List Int} (hp : PlanOk t plan) {c : Int} (hc : 0 ≤ c) {m : Mp'} {ns : List Trepair_node} {q : List (List Int)} (h : Rd t plan c m ns q) (hall : allHd t plan c m ns) (hsat : Sat m t.init 0 0) :
    ∃ o, Loop (repair_Plan_l2 t plan c) (m, ns, q, 0) = some o ∧ ((∃ m' ns' q', o = .inl (m', ns', q') ∧ Rd t plan c m' ns' q' ∧ allHd t plan (c + 1) m' ns' ∧ Sat m' t.init 0 0 ∧ q'.length + pot c m' ≤ q.length + pot c m) ∨ ∃ x, o = .inr x ∧ Res t plan x) := by
  have hsm := h.small
  refine Loop_inv (body := repair_Plan_l2 t plan c) (s := (m, ns, q, 0))
    (fun s => Rd t plan c s.1 s.2.1 s.2.2.1 ∧ allHd t plan c s.1 s.2.1 ∧ Sat s.1 t.init 0 0 ∧ s.2.2.1.length + pot c s.1 ≤ q.length + pot c m ∧ 0 ≤ s.2.2.2 ∧
      ∀ row, ix s.2.2.1 c = some row → s.2.2.2 ≤ row.length ∧ ∀ p i n, p < s.2.2.2 → ix row p = some i → ix s.2.1 i = some n → Hd t plan s.1 n)
    (fun o => (∃ m' ns' q', o = .inl (m', ns', q') ∧ Rd t plan c m' ns' q' ∧ allHd t plan (c + 1) m' ns' ∧ Sat m' t.init 0 0 ∧ q'.length + pot c m' ≤ q.length + pot c m) ∨ ∃ x, o = .inr x ∧ Res t plan x)
    (fun s => ((ix s.2.2.1 c).getD []).length + pot c s.1 - s.2.2.2.toNat) ⟨h, hall, hsat, Nat.le_refl _, Int.le_refl _, fun row _ => ⟨by simp only; omega, fun p i n hp' hi => by have := ix_lo hi; simp only at hp'; omega⟩⟩
    (fun s hP => ?_)
  obtain ⟨m1, ns1, q1, j⟩ := s
  obtain ⟨h1, h2, h3, h4, h5, h6⟩ := hP
  simp only at h1 h2 h3 h4 h5 h6
  have hs1 := h1.small
  obtain ⟨row, hrow, _⟩ := ix_of (l := q1) hc h1.ql
  obtain ⟨g1, g2⟩ := h6 row hrow
  have hrl := h1.bs.rl _ _ hrow
  unfold repair_Plan_l2
  simp only [hrow, Option.bind_some]
  by_cases cj : j < (row.length : Int)
  · rw [if_pos cj]
    obtain ⟨i, hi, _⟩ := ix_of (l := row) h5 cj
    obtain ⟨n, hn, hnc⟩ := h1.bs.qs _ _ hrow i (ix_mem hi)
    obtain ⟨hok, _, st, hch, hway⟩ := h1.bs.node i n hn
    simp only [hi, Option.bind_some, hn]
    have htest : (if n.fat = (plan.length : Int) then Option.bind (strips_Contains n.fs t.goal) fun a92 => some a92 else some false) = some (dec (n.fat = plan.length ∧ ∀ x ∈ t.goal, x ∈ n.fs)) := by
      by_cases e : n.fat = (plan.length : Int)
      · rw [if_pos e, contains_eq hok.set.1 ht.goal.1 (by have := hok.set.len; have := ht.n1; omega)]
        exact congrArg some (dec_congr ⟨fun g => ⟨e, g⟩, fun g => g.2⟩)
      · rw [if_neg e, dec_no (fun g => e g.1)]
    rw [htest]
    simp only [Option.bind_some]
    by_cases cg : n.fat = plan.length ∧ ∀ x ∈ t.goal, x ∈ n.fs
    · rw [if_pos (dec_of cg), steps_spec hs1.2 hch (ix_lo hn).2.1]
      simp only [Option.bind_some]
      have hF : Found t plan st c := {
        ok := hway.1
        sol := ⟨n.fs, hway.2.1, cg.2⟩
        d0 := hc
        ed := by
          have := hway.2.2
          rw [hnc, cg.1] at this
          simpa using this
        low := fun other ho hw => none_nearer ht.init h1.bs h2 h3 ho hw }
      right
      by_cases c60 : (60 : Int) < st.length
      · rw [if_pos c60]
        exact ⟨_, rfl, .inr ⟨_, rfl, st, c, hF, .inr ⟨by omega, rfl⟩⟩⟩
      · rw [if_neg c60]
        exact ⟨_, rfl, .inr ⟨_, rfl, st, c, hF, .inl ⟨by omega, rfl⟩⟩⟩
    · rw [if_neg (by rw [dec_true]; exact cg)]
      obtain ⟨m2, ns2, q2, k1, k2, k3, k4⟩ := expand_spec ht hp hc h1 hn hnc (fun e g => cg ⟨e, g⟩)
      rw [k1, w64_of (by omega) (by omega)]
      simp only [Option.bind_some]
      left
      obtain ⟨row2, r1, r2⟩ := k3.pend row hrow
      refine ⟨(m2, ns2, q2, j + 1), rfl, ⟨k2, h2.step h1.bs k2.bs k3, k3.keep h3, by have := k3.psi; simp only; omega, by simp only; omega, fun row' hr' => ?_⟩, ?_⟩
      · obtain ⟨e, he⟩ := k3.row c row hrow
        simp only at hr' ⊢
        rw [he] at hr'
        cases hr'
        refine ⟨by simp; omega, fun p i' n' hp' hi' hn' => ?_⟩
        have hp0 := (ix_lo hi').1
        obtain ⟨i2, hi2, _⟩ := ix_of (l := row) hp0 (by omega)
        have e2 : ix (row ++ e) p = ix row p := by
          rw [show p = ((p.toNat : Nat) : Int) by omega, ix_nat, ix_nat, List.getElem?_append_left (by omega)]
        rw [e2, hi2] at hi'
        cases hi'
        obtain ⟨n2, hn2, _⟩ := h1.bs.qs _ _ hrow i' (ix_mem hi2)
        have := k3.nst _ _ hn2
        rw [hn'] at this
        cases this
        by_cases ep : p = j
        · subst ep
          rw [hi] at hi2
          cases hi2
          rw [hn] at hn2
          cases hn2
          exact k4
        · exact (g2 p i' n' (by omega) hi2 hn2).mono k3
      · simp only [r1, hrow, Option.getD_some]
        omega
  · rw [if_neg cj]
    right
    refine ⟨_, rfl, .inl ⟨m1, ns1, q1, rfl, h1, fun i n hi hl => ?_, h3, h4⟩⟩
    by_cases e : n.change = c
    · obtain ⟨r, p, k1, k2⟩ := h1.bs.qn i n hi
      rw [e, hrow] at k1
      cases k1
      exact g2 p i n (by have := ix_lo k2; omega) k2 hi
    · exact h2 i n hi (by omega)
theorem plan_outer {t : TTask} (ht : TaskOk t) {plan : List Int} (hp : PlanOk t plan) {m : Mp'} {ns : List Trepair_node} {q : List (List Int)} (h : Rd t plan 0 m ns q) (hsat : Sat m t.init 0 0) :
    ∃ o, Loop (repair_Plan_l1 t plan) (m, ns, q, 0) = some o ∧ ((o = .inl () ∧ ∀ st, (∀ x ∈ st, (0 : Int) ≤ x ∧ x < t.operators.length) → ¬ works t t.init st) ∨ ∃ x, o = .inr x ∧ Res t plan x) := by
  refine Loop_inv (body := repair_Plan_l1 t plan) (s := (m, ns, q, 0))
    (fun s => 0 ≤ s.2.2.2 ∧ s.2.2.2 ≤ s.2.2.1.length ∧ Bs t plan s.2.2.2 s.1 s.2.1 s.2.2.1 ∧ s.2.1.length + pot s.2.2.2 s.1 ≤ 2 * univ.length ∧ allHd t plan s.2.2.2 s.1 s.2.1 ∧ Sat s.1 t.init 0 0)
    (fun o => (o = .inl () ∧ ∀ st, (∀ x ∈ st, (0 : Int) ≤ x ∧ x < t.operators.length) → ¬ works t t.init st) ∨ ∃ x, o = .inr x ∧ Res t plan x)
    (fun s => s.2.2.1.length + pot s.2.2.2 s.1 - s.2.2.2.toNat) ⟨Int.le_refl _, by simp only; omega, h.bs, h.nb, fun i n hi hl => by have := (h.bs.node i n hi).1.ch0; simp only at hl; omega, hsat⟩ (fun s hP => ?_)
  obtain ⟨m1, ns1, q1, c⟩ := s
  obtain ⟨h1, h2, h3, h4, h5, h6⟩ := hP
  simp only at h1 h2 h3 h4 h5 h6
  unfold repair_Plan_l1
  dsimp only
  by_cases cq : c < (q1.length : Int)
  · rw [if_pos cq]
    obtain ⟨o, g1, g2⟩ := plan_inner ht hp h1 ⟨h3, h4, cq⟩ h5 h6
    rw [g1]
    rcases g2 with ⟨m2, ns2, q2, rfl, k1, k2, k3, k4⟩ | ⟨x, rfl, hx⟩
    · left
      have := k1.small
      refine ⟨(m2, ns2, q2, c + 1), by simp only [Option.bind_some]; rw [w64_of (by omega) (by omega)], ⟨by simp only; omega, ?_, k1.bs.next, ?_, k2, k3⟩, ?_⟩
      · have := k1.ql; simp only; omega
      · have := k1.nb
        have := late_mono (c := c) (c' := c + 1) (by omega) m2
        simp only [pot] at *
        omega
      · have := late_mono (c := c) (c' := c + 1) (by omega) m2
        simp only [pot] at *
        omega
    · right
      exact ⟨_, rfl, .inr ⟨x, rfl, hx⟩⟩
  · rw [if_neg cq]
    right
    refine ⟨_, rfl, .inl ⟨rfl, fun st hv hw => ?_⟩⟩
    have hall : ∀ i n, ix ns1 i = some n → n.change < ((dm plan st : Nat) : Int) + 1 → Hd t plan m1 n := fun i n hi _ => h5 i n hi (by
      obtain ⟨r, p, k1, _⟩ := h3.qn i n hi
      have := ix_lo k1
      omega)
    have := none_nearer ht.init h3 hall h6 hv hw
    omega
end Ab
end
section
namespace Ab
open Go
/-- The states that are reached. -/
inductive Rt (t : TTask) : List Int → Prop
  | init : Rt t t.init
  | step {s : List Int} {op : Int} (h : Rt t s) (h0 : 0 ≤ op) (h1 : op < t.operators.length) (hc : can t s op) : Rt t (aft t s op)
theorem Rt.setN {t : TTask} (ht : TaskOk t) {s : List Int} (h : Rt t s) : SetN s t.facts := by
  cases h with
  | init => exact ht.init
  | step => exact setN_aft _ _ _
theorem Rt.ends {t : TTask} : ∀ {plan s e : List Int}, Rt t s → (∀ x ∈ plan, (0 : Int) ≤ x ∧ x < t.operators.length) → ends t s plan = some e → Rt t e
  | [], s, e, hs, _, h => by simp only [Ab.ends, Option.some.injEq] at h; subst h; exact hs
  | op :: r, s, e, hs, hv, h => by
    simp only [Ab.ends] at h
    split at h
    · rename_i hc
      have := hv op List.mem_cons_self
      exact Rt.ends (hs.step this.1 this.2 (dec_true.1 hc)) (fun x hx => hv x (List.mem_cons_of_mem _ hx)) h
    · cases h
def Cls (t : TTask) (l : List (List Int)) (s : List Int) : Prop := ∀ op : Int, 0 ≤ op → op < t.operators.length → can t s op → aft t s op ∈ l
theorem Rt.mem {t : TTask} {l : List (List Int)} (hi : t.init ∈ l) (hc : ∀ s ∈ l, Cls t l s) {s : List Int} (h : Rt t s) : s ∈ l := by
  induction h with
  | init => exact hi
  | step h h0 h1 hcan ih => exact hc _ ih _ h0 h1 hcan
theorem kone_eq {s : List Int} (hs : small s) (h1 : s.length ≤ 1000) : belief_Key [s] = some (keyK [s]) := by
  refine key_eq (by simp [hs]) ?_
  have := encS_len s
  simp only [encK, List.flatMap_cons, List.flatMap_nil, List.append_nil]
  omega
theorem kone_inj {t : TTask} (ht : TaskOk t) {s s' : List Int} (h : SetN s t.facts) (h' : SetN s' t.facts) (e : keyK [s] = keyK [s']) : s = s' := by
  have := keyK_inj (fun x hx => by simp at hx; subst hx; exact small_set ht h) (fun x hx => by simp at hx; subst hx; exact small_set ht h') e
  simpa using this
theorem containsAny_eq {l : List (List Int)} {f : List Int → Option Bool} {p : List Int → Prop} (h : ∀ x ∈ l, f x = some (dec (p x))) : slices_ContainsFunc_LLint l f = some (dec (∃ x ∈ l, p x)) := by
  unfold slices_ContainsFunc_LLint slices_IndexFunc_LLint
  rcases rngX_test (body := slices_IndexFunc_LLint_l1 l f) (n := (l.length : Int)) (fun j => if dec (∃ x, ix l j = some x ∧ p x) = true then some j else none) (by omega) (fun j h0 h1 _ => by
    obtain ⟨x, hx, _⟩ := ix_of (l := l) h0 h1
    unfold slices_IndexFunc_LLint_l1
    simp only [hx, Option.bind_some, h x (ix_mem hx)]
    by_cases e : p x
    · rw [ifP e, ifP ⟨x, rfl, e⟩]
    · rw [ifN e, ifN (by rintro ⟨z, hz, hp⟩; cases hz; exact e hp)]) with ⟨h1, h2⟩ | ⟨j, o, h0, h1, h2, h3, h4⟩
  · rw [h1]
    simp only [Option.bind_some]
    rw [dec_no]
    · rfl
    · rintro ⟨x, hx, hp⟩
      obtain ⟨i, i0, i1, hi⟩ := mem_ix hx
      have := h2 i i0 i1
      rw [ifP ⟨x, hi, hp⟩] at this
      cases this
  · rw [h4]
    split at h2
    · rename_i e
      cases h2
      simp only [Option.bind_some]
      obtain ⟨x, hx, hp⟩ := dec_true.1 e
      rw [dec_of ⟨x, ix_mem hx, hp⟩, decide_eq_true h0]
    · cases h2
theorem sure_one {s pre : List Int} (hs : Inc s) (hp : Inc pre) (hl : s.length ≤ 1000000) : belief_Sure [s] pre = some (dec (∀ x ∈ pre, x ∈ s)) := by
  unfold belief_Sure
  rw [containsAny_eq (p := fun y => ¬ ∀ x ∈ pre, x ∈ y) (fun x hx => by
    simp only [List.mem_singleton] at hx
    subst hx
    unfold belief_Sure_1
    rw [contains_eq hs hp hl]
    simp only [Option.bind_some, dec_not])]
  simp only [Option.bind_some, dec_not]
  refine congrArg some (dec_congr ⟨fun h => Classical.byContradiction fun g => h ⟨s, by simp, g⟩, fun h => ?_⟩)
  rintro ⟨x, hx, hn⟩
  simp only [List.mem_singleton] at hx
  subst hx
  exact hn h
theorem after_one {t : TTask} (ht : TaskOk t) {s : List Int} (hs : SetN s t.facts) {op : Int} (h0 : 0 ≤ op) (h1 : op < t.operators.length) : belief_After t [s] op = some [aft t s op] := by
  have e : forR 0 (([s] : List (List Int)).length : Int) (belief_After_l1 t [s] op) [] = some [aft t s op] := by
    show forN (belief_After_l1 t [s] op) 1 0 [] = _
    simp only [forN]
    have e0 : ix [s] 0 = some s := rfl
    have e1 : app 24 ([] : List (List Int)) [aft t s op] = some [aft t s op] := rfl
    unfold belief_After_l1
    simp only [e0, Option.bind_some, next_eq ht h0 h1 hs, e1]
  unfold belief_After
  rw [e]
  simp only [Option.bind_some]
  obtain ⟨r, r1, r2, r3, _⟩ := normal_eq (l := [aft t s op]) (by simp)
  rw [r1]
  simp only [Option.bind_some]
  rw [Ord.ext r2 (by simp) r3]
structure Bq (t : TTask) (l : List (List Int)) (m : Mp') (qu : List Tbelief_entry_int) : Prop where
  node : qu.map (·.node) = l.map (fun s => [s])
  nd : l.Nodup
  rt : ∀ s ∈ l, Rt t s
  map : ∀ s, SetN s t.facts → (0 < (mget m (keyK [s])).getD 0 ↔ s ∈ l)
  len : l.length ≤ 2000
theorem Bq.ql {t : TTask} {l : List (List Int)} {m : Mp'} {qu : List Tbelief_entry_int} (h : Bq t l m qu) : qu.length = l.length := by
  have := congrArg List.length h.node
  simpa using this
theorem Bq.at {t : TTask} {l : List (List Int)} {m : Mp'} {qu : List Tbelief_entry_int} (h : Bq t l m qu) {i : Int} {e : Tbelief_entry_int} (hi : ix qu i = some e) : ∃ s, ix l i = some s ∧ e.node = [s] := by
  obtain ⟨h0, h1, h2⟩ := ix_lo hi
  have hg := congrArg (fun l => l[i.toNat]?) h.node
  simp only [List.getElem?_map, h2, Option.map_some] at hg
  cases hs : l[i.toNat]? with
  | none => rw [hs] at hg; cases hg
  | some s =>
    rw [hs] at hg
    simp only [Option.map_some, Option.some.injEq] at hg
    refine ⟨s, ?_, hg⟩
    rw [show i = ((i.toNat : Nat) : Int) by omega, ix_nat]
    exact hs
def Many (t : TTask) : Prop := ∃ l : List (List Int), l.Nodup ∧ l.length = 2001 ∧ ∀ s ∈ l, Rt t s
theorem breadth_in {t : TTask} (ht : TaskOk t) {l : List (List Int)} {m : Mp'} {qu : List Tbelief_entry_int} (h : Bq t l m qu) {c : Int} {e : Tbelief_entry_int} {s : List Int} (hs : s ∈ l) (he : e.node = [s]) :
    (∃ l' m' qu', belief_Breadth_int_w_r4 t.facts t.init t.goal t.operators qu m c e = some (.inl (m', qu')) ∧ Bq t l' m' qu' ∧ (∃ ex, l' = l ++ ex) ∧ Cls t l' s) ∨ (∃ y, belief_Breadth_int_w_r4 t.facts t.init t.goal t.operators qu m c e = some (.inr y) ∧ Many t) := by
  have hsN := (h.rt s hs).setN ht
  have h24 := ht.n1
  unfold belief_Breadth_int_w_r4
  rcases rngX_inv (body := belief_Breadth_int_w_l3 t.facts t.init t.goal t.operators c e) (n := (t.operators.length : Int)) (s := (m, qu))
    (fun j st => ∃ l', Bq t l' st.1 st.2 ∧ (∃ ex, l' = l ++ ex) ∧ ∀ op : Int, 0 ≤ op → op < j → can t s op → aft t s op ∈ l')
    (fun o => ∃ y, o = .inr y ∧ Many t) (by omega) ⟨l, h, ⟨[], by simp⟩, fun op o0 o1 => by omega⟩
    (fun j st j0 j1 hP => by
      obtain ⟨m1, qu1⟩ := st
      obtain ⟨l1, g1, g2, g3⟩ := hP
      simp only at g1
      have hop := ht.at j0 j1
      have hnew := setN_aft t s j
      unfold belief_Breadth_int_w_l3
      simp only [ix_op j0 j1, Option.bind_some, he]
      rw [sure_one hsN.1 hop.1.1.1 (by have := hsN.len; omega)]
      simp only [Option.bind_some]
      by_cases hc : can t s j
      · rw [if_pos (dec_of (show ∀ x ∈ (opAt t j).pre, x ∈ s from hc))]
        have ea : belief_After (⟨t.facts, t.init, t.goal, t.operators⟩ : TTask) [s] j = some [aft t s j] := after_one ht hsN j0 j1
        rw [ea]
        simp only [Option.bind_some, kone_eq (small_set ht hnew) (by have := hnew.len; omega)]
        by_cases hm : aft t s j ∈ l1
        · rw [if_pos ((g1.map _ hnew).2 hm)]
          refine .inl ⟨_, rfl, l1, g1, g2, fun op o0 o1 oc => ?_⟩
          by_cases eo : op = j
          · subst eo; exact hm
          · exact g3 op o0 (by omega) oc
        · rw [if_neg (fun hx => hm ((g1.map _ hnew).1 hx))]
          have hrt : Rt t (aft t s j) := (h.rt s hs).step j0 j1 hc
          have hnd : (l1 ++ [aft t s j]).Nodup := by
            rw [List.nodup_append]
            refine ⟨g1.nd, by simp, fun a ha b hb eab => ?_⟩
            simp only [List.mem_singleton] at hb
            subst hb; subst eab; exact hm ha
          have hrs : ∀ y ∈ l1 ++ [aft t s j], Rt t y := fun y hy => by
            rcases List.mem_append.1 hy with hy | hy
            · exact g1.rt y hy
            · simp only [List.mem_singleton] at hy; subst hy; exact hrt
          have hql := g1.ql
          have hlen := g1.len
          by_cases hq : (qu1.length : Int) = 2000
          · rw [if_pos hq]
            exact .inr ⟨_, rfl, _, rfl, l1 ++ [aft t s j], hnd, by simp; omega, hrs⟩
          · rw [if_neg hq]
            have ha : app 40 qu1 [(⟨[aft t s j], c, j⟩ : Tbelief_entry_int)] = some (qu1 ++ [⟨[aft t s j], c, j⟩]) := by rw [app, if_pos (by simp; omega)]
            rw [ha]
            refine .inl ⟨_, rfl, l1 ++ [aft t s j], ⟨by simp [g1.node], hnd, hrs, fun y hy => ?_, by simp; omega⟩, ?_, fun op o0 o1 oc => ?_⟩
            · simp only
              rw [mget_mset]
              by_cases ek : keyK [y] = keyK [aft t s j]
              · rw [if_pos ek, kone_inj ht hy hnew ek]; simp
              · rw [if_neg ek, g1.map y hy, List.mem_append, List.mem_singleton]
                exact ⟨.inl, fun g => g.elim id fun g => absurd (by rw [g]) ek⟩
            · obtain ⟨ex, rfl⟩ := g2
              exact ⟨ex ++ [aft t s j], by simp⟩
            · by_cases eo : op = j
              · subst eo; simp
              · exact List.mem_append_left _ (g3 op o0 (by omega) oc)
      · rw [if_neg (show ¬ dec (∀ x ∈ (opAt t j).pre, x ∈ s) = true from fun g => hc (dec_true.1 g))]
        refine .inl ⟨_, rfl, l1, g1, g2, fun op o0 o1 oc => ?_⟩
        by_cases eo : op = j
        · subst eo; exact absurd oc hc
        · exact g3 op o0 (by omega) oc) with ⟨⟨m', qu'⟩, h1, l', h2, h3, h4⟩ | ⟨o, h1, y, rfl, h2⟩
  · left
    rw [h1]
    exact ⟨l', m', qu', rfl, h2, h3, h4⟩
  · right
    rw [h1]
    exact ⟨y, rfl, h2⟩
theorem breadth_spec {t : TTask} (ht : TaskOk t) : ∃ b, belief_Small_int_w [t.init] t.facts t.init t.goal t.operators = some b ∧ (b = false → Many t) ∧ (b = true → ∃ l : List (List Int), l.Nodup ∧ l.length ≤ 2000 ∧ ∀ s, s ∈ l ↔ Rt t s) := by
  have h24 := ht.n1
  unfold belief_Small_int_w belief_Breadth_int_w
  rw [kone_eq (small_set ht ht.init) (by have := ht.init.len; omega)]
  simp only [Option.bind_some]
  obtain ⟨o, h1, h2⟩ := Loop_inv (body := belief_Breadth_int_w_l1 t.facts t.init t.goal t.operators) (s := ([(⟨[t.init], -1, 0⟩ : Tbelief_entry_int)], mset ([] : List (ByteArray × Int)) (keyK [t.init]) 1, 0))
    (fun s => ∃ l, Bq t l s.2.1 s.1 ∧ t.init ∈ l ∧ 0 ≤ s.2.2 ∧ s.2.2 ≤ l.length ∧ ∀ (k : Int) (x : List Int), k < s.2.2 → ix l k = some x → Cls t l x)
    (fun o => (o = .inl () ∧ ∃ l : List (List Int), l.Nodup ∧ l.length ≤ 2000 ∧ ∀ s, s ∈ l ↔ Rt t s) ∨ (o = .inr ([], false, false) ∧ Many t))
    (fun s => 2001 - s.2.2.toNat) ⟨[t.init], ⟨rfl, by simp, fun s hs => by simp at hs; subst hs; exact .init, fun s hs => by
      simp only
      rw [mget_mset]
      by_cases ek : keyK [s] = keyK [t.init]
      · rw [if_pos ek, kone_inj ht hs ht.init ek]; simp
      · rw [if_neg ek]
        simp only [mget, Option.getD_none, List.mem_singleton]
        exact ⟨fun h => by omega, fun g => absurd (by rw [g]) ek⟩, by simp⟩, by simp, by simp only; omega, by simp only; omega, fun k x hk hx => by have := ix_lo hx; simp only at hk; omega⟩
    (fun s hP => by
      obtain ⟨qu, m, c⟩ := s
      obtain ⟨l, g1, g2, g3, g4, g5⟩ := hP
      simp only at g1 g3 g4 g5
      have hql := g1.ql
      have hlen := g1.len
      unfold belief_Breadth_int_w_l1
      dsimp only
      by_cases cc : c < (qu.length : Int)
      · rw [if_pos cc]
        obtain ⟨e, he, _⟩ := ix_of (l := qu) g3 cc
        obtain ⟨s, hs, hn⟩ := g1.at he
        simp only [he, Option.bind_some, belief_Small_int_1, belief_Next_1_w, belief_Successors_w]
        rw [if_neg (by simp)]
        rcases breadth_in ht g1 (c := c) (ix_mem hs) hn with ⟨l', m', qu', k1, k2, ⟨ex, rfl⟩, k4⟩ | ⟨⟨y1, y2⟩, k1, k2⟩
        · left
          rw [k1]
          refine ⟨(qu', m', c + 1), by simp only [Option.bind_some]; rw [w64_of (by omega) (by omega)], ⟨l ++ ex, k2, List.mem_append_left _ g2, by simp only; omega, by simp only [List.length_append]; omega, fun k x hk hx => ?_⟩, by simp only; omega⟩
          simp only at hk
          have hx0 := ix_lo hx
          have hx2 : ix l k = some x := by
            rw [show k = ((k.toNat : Nat) : Int) by omega, ix_nat] at hx ⊢
            rwa [List.getElem?_append_left (by omega)] at hx
          by_cases ek : k = c
          · subst ek
            rw [hs] at hx2; cases hx2
            exact k4
          · exact fun op o0 o1 oc => List.mem_append_left _ (g5 k x (by omega) hx2 op o0 o1 oc)
        · right
          rw [k1]
          exact ⟨_, rfl, .inr ⟨rfl, k2⟩⟩
      · rw [if_neg cc]
        right
        refine ⟨_, rfl, .inl ⟨rfl, l, g1.nd, hlen, fun s => ⟨g1.rt s, fun hs => hs.mem g2 fun x hx => ?_⟩⟩⟩
        obtain ⟨k, k0, k1, k2⟩ := mem_ix hx
        exact g5 k x (by omega) k2)
  rw [h1]
  rcases h2 with ⟨rfl, h2⟩ | ⟨rfl, h2⟩
  · exact ⟨true, rfl, by simp, fun _ => h2⟩
  · exact ⟨false, rfl, fun _ => h2, by simp⟩
end Ab
end
section
namespace Ab
open Go
theorem bs_nil (t : TTask) (plan : List Int) : Bs t plan 0 [] [] [] :=
  have hnil : ∀ {α : Type} (i : Int), ix ([] : List α) i = none := fun i => by simp [ix]
  { node := fun i n h => by rw [hnil] at h; cases h
    m1 := fun i n h => by rw [hnil] at h; cases h
    m2 := fun s a v _ _ _ h => by cases h
    qs := fun b row h => by rw [hnil] at h; cases h
    qn := fun i n h => by rw [hnil] at h; cases h
    nd := by simp
    un := fun k hk => by cases hk
    vl := fun k hk => by cases hk
    ql := Nat.le_refl _
    rl := fun b row h => by rw [hnil] at h; cases h }
theorem pot_nil {U : Nat} (hU : univ.length = U) {c : Int} {m : Mp'} (hm : m.length = 0) (hl : late c m = 0) : pot c m = 2 * U := by
  unfold pot
  rw [hU, hm, hl, Nat.sub_zero, Nat.add_zero]
theorem first_add {t : TTask} (ht : TaskOk t) {plan : List Int} (hp : PlanOk t plan) : ∃ m ns q, repair_searcher_add_w2 (⟨t.init, 0, -1, -1, 0⟩ : Trepair_node) t plan ([] : List Trepair_node) ([] : List (List Int)) ([] : List (ByteArray × Int)) = some (m, ns, q) ∧ Rd t plan 0 m ns q ∧ Sat m t.init 0 0 := by
  obtain ⟨U, hU⟩ : ∃ U, univ.length = U := ⟨_, rfl⟩
  have hpot := pot_nil hU (c := 0) (m := []) rfl rfl
  have h0 : ([] : List Trepair_node).length + pot 0 ([] : Mp') ≤ 2 * univ.length := by
    rw [hpot, hU, List.length_nil, Nat.zero_add]
    exact Nat.le_refl _
  obtain ⟨m, ns, q, h1, h2, h3, h4⟩ := add_spec ht hp.1 (Int.le_refl 0) (bs_nil t plan) h0 (nv := ⟨t.init, 0, -1, -1, 0⟩) ⟨ht.init, Int.le_refl 0, Int.natCast_nonneg _, Int.le_refl 0⟩ (.inl rfl) (Int.le_refl 0)
    ⟨[], .root (by show (-1 : Int) < 0; decide), by show (-1 : Int) < 0; decide, by
      simp only
      rw [if_neg (by decide)]
      exact ⟨by simp, rfl, .nil⟩⟩
  have hN : ns.length + pot 0 m ≤ 2 * univ.length := by
    have := h3.nsl
    rw [hpot, List.length_nil, Nat.zero_add] at this
    rw [hU]; exact this
  clear h0 hpot hU
  refine ⟨m, ns, q, h1, ⟨h2, hN, ?_⟩, h4⟩
  obtain ⟨v, g1, g2⟩ := h4
  obtain ⟨i, n, k1, _, _, k4⟩ := h2.m2 _ _ _ ht.init (by decide) (Int.natCast_nonneg _) g1
  have := (h2.node i n k1).1.ch0
  obtain ⟨row, p, l1, _⟩ := h2.qn i n k1
  have h9 := (ix_lo l1).2.1
  have g3 : v ≤ 0 := g2
  clear hN
  omega
theorem plan_spec (t : TTask) (plan : List Int) : ∃ r e, repair_Plan t plan = some r ∧ ref1_PlanFault t plan = some e ∧
    ((e.code ≠ 0 ∧ ¬ (TaskOk t ∧ PlanOk t plan) ∧ r = ([], 0, false, e)) ∨
     (e = ⟨0, 0⟩ ∧ TaskOk t ∧ PlanOk t plan ∧ Many t ∧ r = ([], 0, false, ⟨10, -7⟩)) ∨
     (e = ⟨0, 0⟩ ∧ TaskOk t ∧ PlanOk t plan ∧ (∃ l : List (List Int), l.Nodup ∧ l.length ≤ 2000 ∧ ∀ s, s ∈ l ↔ Rt t s) ∧ ((r = ([], 0, false, ⟨0, 0⟩) ∧ ∀ st, (∀ x ∈ st, (0 : Int) ≤ x ∧ x < t.operators.length) → ¬ works t t.init st) ∨ Res t plan r))) := by
  obtain ⟨e, h1, h2, h3⟩ := planFault_eq t plan
  unfold repair_Plan
  rw [h1]
  simp only [Option.bind_some]
  rcases h3 with ⟨rfl, ht, hp⟩ | ⟨hc, hn⟩
  · rw [if_neg (by simp)]
    obtain ⟨b, b1, b2, b3⟩ := breadth_spec ht
    rw [belief_Next_w, b1]
    simp only [Option.bind_some]
    cases b with
    | false =>
      rw [if_pos (by rfl)]
      exact ⟨_, _, rfl, h2, .inr (.inl ⟨rfl, ht, hp, b2 rfl, rfl⟩)⟩
    | true =>
      rw [if_neg (by simp)]
      obtain ⟨m, ns, q, a1, a2, a3⟩ := first_add ht hp
      rw [a1]
      simp only [Option.bind_some]
      obtain ⟨o, o1, o2⟩ := plan_outer ht hp a2 a3
      rw [o1]
      rcases o2 with ⟨rfl, o2⟩ | ⟨x, rfl, o2⟩
      · exact ⟨_, _, rfl, h2, .inr (.inr ⟨rfl, ht, hp, b3 rfl, .inl ⟨rfl, o2⟩⟩)⟩
      · exact ⟨_, _, rfl, h2, .inr (.inr ⟨rfl, ht, hp, b3 rfl, .inr o2⟩)⟩
  · rw [if_pos (fault_no hc)]
    exact ⟨_, _, rfl, h2, .inl ⟨hc, hn, rfl⟩⟩
theorem dm_self (a : List Int) : dm a a = 0 := by have := dm_le (Ed.refl a); omega
theorem near_eq : repair_Plan stepT [1] = some ([1], 0, true, ⟨0, 0⟩) := by
  obtain ⟨r, e, h1, h2, h3⟩ := plan_spec stepT [1]
  have hp : PlanOk stepT [1] := ⟨by decide, by simp [stepT]⟩
  have hv : ∀ x ∈ ([1] : List Int), (0 : Int) ≤ x ∧ x < stepT.operators.length := by simp [stepT]
  have hw : works stepT stepT.init [1] := by
    refine ⟨aft stepT stepT.init 1, ?_, fun x hx => ?_⟩
    · simp only [ends]
      rw [if_pos (dec_of (show can stepT stepT.init 1 from fun x hx => by simp [opAt, stepT] at hx))]
    · refine mem_setOf.2 ⟨?_, ?_, .inl ?_⟩ <;> simp [stepT] at hx <;> subst hx <;> simp [stepT, opAt]
  rcases h3 with ⟨_, hn, _⟩ | ⟨_, _, _, ⟨l, l1, l2, l3⟩, _⟩ | ⟨_, _, _, _, ⟨_, h⟩ | ⟨st, d, hF, h⟩⟩
  · exact absurd ⟨step_ok, hp⟩ hn
  · have := nodup_len (S := allS 2 0) l1 (fun s hs => by
      have := (l3 s hs).setN step_ok
      exact mem_allS this.1 fun x hx => by have := this.2 x hx; simp only [stepT] at this; omega)
    rw [allS_len] at this
    omega
  · exact absurd hw (h _ hv)
  · have hd := hF.low [1] hv hw
    rw [dm_self] at hd
    have h0 := hF.d0
    have : d = 0 := by omega
    subst this
    have := hF.ed.eq rfl
    subst this
    rcases h with ⟨_, h⟩ | ⟨h, _⟩
    · rw [h1, h]
    · simp at h
theorem nearest_true : law8_nearest = some true := by
  unfold law8_nearest
  rw [show law8_step = some stepT from rfl, distance_eq (by decide) (by decide)]
  simp only [Option.bind_some, near_eq]
  rw [show dm [1, 2] [2, 3] = 2 by decide]
  simp [numbers_eq, dec]
/-- RepairDistanceMatchesSpec, plainly. -/
theorem RepairDistanceMatchesSpec_true (av bv : List Int) : law8_RepairDistanceMatchesSpec av bv = some true := by
  unfold law8_RepairDistanceMatchesSpec
  simp only [nearest_true, Option.bind_some, at_eq]
  by_cases h : av.length ≤ 60 ∧ bv.length ≤ 60
  · rw [distance_eq h.1 h.2, apart_eq h.1 h.2]
    simp only [Option.bind_some]
    rw [if_neg (by simp; omega)]
    simp
  · rw [distance_long (by omega)]
    simp only [Option.bind_some]
    rw [if_pos (by simp; omega)]
    simp
end Ab
end
