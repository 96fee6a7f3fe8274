/-
  Texts that the proof stands on.
-/
import Derived.Test.YtbffiagfngopaaaGreatDoorKRwCycPol5
set_option linter.all false
section
namespace Ab
open Go
/-- What may follow a state when a choice is made. -/
noncomputable def nxC (t : TOpenTask) (ch : List Int → Int) (s : List Int) : List (List Int) := (ooAt t (ch s)).outcomes.map (efc t.facts s)
inductive RchC (t : TOpenTask) (ch : List Int → Int) : List Int → Prop
  | init : RchC t ch t.init
  | step {s y : List Int} (h : RchC t ch s) (hg : ¬ GoalS t s) (hy : y ∈ nxC t ch s) : RchC t ch y
/-- The choice can be made wherever it is asked for. -/
def ChOk (t : TOpenTask) (ch : List Int → Int) : Prop := ∀ s, RchC t ch s → ¬ GoalS t s → (0 ≤ ch s ∧ ch s < t.operators.length) ∧ oCan t s (ch s)
section
variable {t : TOpenTask} {ch : List Int → Int}
theorem RchC.set (ht : OTaskOk t) {s : List Int} (h : RchC t ch s) : SetN s t.facts := by
  cases h with
  | init => exact ht.init
  | step _ _ hy => obtain ⟨x, _, rfl⟩ := List.mem_map.1 hy; exact setN_efc _ _ _
/-- A policy of the choice: for the states that are reached, and no others. -/
structure PolB (t : TOpenTask) (ch : List Int → Int) (p : List TChoice) : Prop where
  ord : Ord (p.map TChoice.state)
  mem : ∀ s, (∃ c ∈ p, c.state = s) ↔ RchC t ch s ∧ ¬ GoalS t s
  op : ∀ c ∈ p, c.operator = ch c.state
theorem polB_eq {p : List TChoice} (h : ∀ c ∈ p, c.operator = ch c.state) : p = (p.map TChoice.state).map fun s => (⟨s, ch s⟩ : TChoice) := by
  rw [List.map_map]
  have : p.map id = p.map ((fun s => (⟨s, ch s⟩ : TChoice)) ∘ TChoice.state) := List.map_congr_left fun c hc => by
    have := h c hc
    cases c with
    | mk s o => dsimp only at this; simp only [id, Function.comp, this]
  rwa [List.map_id] at this
theorem PolB.unique {p q : List TChoice} (h : PolB t ch p) (g : PolB t ch q) : p = q := by
  have e : p.map TChoice.state = q.map TChoice.state := by
    refine Ord.ext h.ord g.ord fun s => ?_
    have a := h.mem s; have b := g.mem s
    simp only [List.mem_map]
    exact ⟨fun ⟨c, h1, h2⟩ => b.2 (a.1 ⟨c, h1, h2⟩), fun ⟨c, h1, h2⟩ => a.2 (b.1 ⟨c, h1, h2⟩)⟩
  rw [polB_eq h.op, e, ← polB_eq g.op]
theorem PolB.rch {p : List TChoice} (h : PolB t ch p) {c : TChoice} (hc : c ∈ p) : RchC t ch c.state ∧ ¬ GoalS t c.state := (h.mem _).1 ⟨c, hc, rfl⟩
theorem PolB.pol (ht : OTaskOk t) (hk : ChOk t ch) {p : List TChoice} (h : PolB t ch p) (hl : p.length ≤ 200) : PolOk t p :=
  ⟨hl, h.ord, fun c hc => (h.rch hc).1.set ht, fun c hc => by rw [h.op c hc]; exact (hk _ (h.rch hc).1 (h.rch hc).2).1, fun c hc => by rw [h.op c hc]; exact (hk _ (h.rch hc).1 (h.rch hc).2).2⟩
theorem chO_ch {p : List TChoice} (hop : ∀ c ∈ p, c.operator = ch c.state) (s : List Int) : (chO p s = -1 ∧ ∀ c ∈ p, c.state ≠ s) ∨ ((∃ c ∈ p, c.state = s) ∧ chO p s = ch s) := by
  obtain ⟨r, h1, h2⟩ := rChosen_eq p s
  have : chO p s = r := by rw [chO, h1]; rfl
  rw [this]
  rcases h2 with ⟨rfl, h⟩ | ⟨c, hc, rfl, rfl⟩
  · exact .inl ⟨rfl, h⟩
  · exact .inr ⟨⟨c, hc, rfl⟩, hop c hc⟩
theorem rch_of {p : List TChoice} (hop : ∀ c ∈ p, c.operator = ch c.state) {s : List Int} (h : Rch t p s) : RchC t ch s := by
  induction h with
  | init => exact .init
  | @step s y _ hg hl hy ih =>
    refine .step ih hg ?_
    rcases chO_ch hop s with ⟨e, _⟩ | ⟨_, e⟩
    · unfold LiveS at hl; omega
    · unfold nxS at hy; rw [e] at hy; exact hy
theorem PolB.live {p : List TChoice} (h : PolB t ch p) {s : List Int} (hs : RchC t ch s) (hg : ¬ GoalS t s) : chO p s = ch s := by
  rcases chO_ch h.op s with ⟨_, e⟩ | ⟨_, e⟩
  · obtain ⟨c, hc, he⟩ := (h.mem s).2 ⟨hs, hg⟩
    exact absurd he (e c hc)
  · exact e
/-! ### One choice put in its place -/
theorem mem_takeN {α : Type} {l : List α} {n : Nat} {a : α} (h : a ∈ l.take n) : ∃ k : Int, 0 ≤ k ∧ k < n ∧ ix l k = some a := by
  obtain ⟨k, hk⟩ := List.getElem?_of_mem h
  rw [List.getElem?_take] at hk
  split at hk
  · exact ⟨k, by omega, by omega, by rw [ix_nat]; exact hk⟩
  · cases hk
theorem mem_dropN {α : Type} {l : List α} {n : Nat} {a : α} (h : a ∈ l.drop n) : ∃ k : Int, (n : Int) ≤ k ∧ ix l k = some a := by
  obtain ⟨k, hk⟩ := List.getElem?_of_mem h
  rw [List.getElem?_drop] at hk
  exact ⟨(n + k : Nat), by omega, by rw [ix_nat]; exact hk⟩
theorem ins_ord {p : List TChoice} {c : TChoice} {i : Int} (ho : Ord (p.map TChoice.state)) (h0 : 0 ≤ i) (hlt : ∀ k a, 0 ≤ k → k < i → ix p k = some a → llt a.state c.state) (hge : ∀ k a, i ≤ k → ix p k = some a → ¬ llt a.state c.state) (hns : ∀ a ∈ p, a.state ≠ c.state) :
    Ord ((p.take i.toNat ++ c :: p.drop i.toNat).map TChoice.state) := by
  have a1 : ∀ a ∈ p.take i.toNat, llt a.state c.state := fun a ha => by
    obtain ⟨k, k0, k1, hk⟩ := mem_takeN ha
    exact hlt k a k0 (by omega) hk
  have a2 : ∀ a ∈ p.drop i.toNat, llt c.state a.state := fun a ha => by
    obtain ⟨k, k1, hk⟩ := mem_dropN ha
    rcases llt_total a.state c.state with h | h | h
    · exact absurd h (hge k a (by omega) hk)
    · exact absurd h (hns a (ix_mem hk))
    · exact h
  have s1 : Ord ((p.take i.toNat).map TChoice.state) := by rw [List.map_take]; exact List.Pairwise.sublist (List.take_sublist _ _) ho
  have s2 : Ord ((p.drop i.toNat).map TChoice.state) := by rw [List.map_drop]; exact List.Pairwise.sublist (List.drop_sublist _ _) ho
  rw [List.map_append, List.map_cons]
  refine List.pairwise_append.2 ⟨s1, List.pairwise_cons.2 ⟨fun x hx => ?_, s2⟩, fun x hx y hy => ?_⟩
  · obtain ⟨a, ha, rfl⟩ := List.mem_map.1 hx
    exact a2 a ha
  · obtain ⟨a, ha, rfl⟩ := List.mem_map.1 hx
    rcases List.mem_cons.1 hy with rfl | hy
    · exact a1 a ha
    · obtain ⟨b, hb, rfl⟩ := List.mem_map.1 hy
      exact llt_trans (a1 a ha) (a2 b hb)
theorem ins_mem {α : Type} {p : List α} {c x : α} {n : Nat} : x ∈ p.take n ++ c :: p.drop n ↔ x = c ∨ x ∈ p := by
  have : x ∈ p ↔ x ∈ p.take n ∨ x ∈ p.drop n := by
    rw [← List.mem_append, List.take_append_drop]
  rw [this]
  simp only [List.mem_append, List.mem_cons]
  constructor
  · rintro (h | h | h)
    · exact .inr (.inl h)
    · exact .inl h
    · exact .inr (.inr h)
  · rintro (h | h | h)
    · exact .inr (.inl h)
    · exact .inl h
    · exact .inr (.inr h)
theorem ins_len {α : Type} {p : List α} {c : α} {n : Nat} (h : n ≤ p.length) : (p.take n ++ c :: p.drop n).length = p.length + 1 := by simp; omega
/-- What is known of a policy on the way. -/
structure PolP (t : TOpenTask) (ch : List Int → Int) (p : List TChoice) : Prop where
  pol : PolOk t p
  of : ∀ c ∈ p, (RchC t ch c.state ∧ ¬ GoalS t c.state) ∧ c.operator = ch c.state
theorem PolP.op {p : List TChoice} (h : PolP t ch p) : ∀ c ∈ p, c.operator = ch c.state := fun c hc => (h.of c hc).2
theorem PolP.ins (ht : OTaskOk t) (hk : ChOk t ch) {p : List TChoice} (h : PolP t ch p) {s : List Int} (hs : RchC t ch s) (hg : ¬ GoalS t s) {i : Int} (h0 : 0 ≤ i) (h1 : i ≤ p.length) (hlt : ∀ k a, 0 ≤ k → k < i → ix p k = some a → llt a.state s) (hge : ∀ k a, i ≤ k → ix p k = some a → ¬ llt a.state s) (hns : ∀ a ∈ p, a.state ≠ s) (hl : p.length < 200) :
    PolP t ch (p.take i.toNat ++ ⟨s, ch s⟩ :: p.drop i.toNat) := by
  have key : ∀ {q : TChoice → Prop}, q ⟨s, ch s⟩ → (∀ c ∈ p, q c) → ∀ c ∈ p.take i.toNat ++ ⟨s, ch s⟩ :: p.drop i.toNat, q c := fun h1 h2 c hc => by
    rcases ins_mem.1 hc with rfl | hc
    · exact h1
    · exact h2 c hc
  exact ⟨⟨by rw [ins_len (by omega)]; omega, ins_ord h.pol.ord h0 hlt hge hns, key (hs.set ht) h.pol.set, key (hk s hs hg).1 h.pol.op, key (hk s hs hg).2 h.pol.can⟩, key ⟨⟨hs, hg⟩, rfl⟩ h.of⟩
theorem states_nodup {p : List TChoice} (h : Ord (p.map TChoice.state)) {s : List Int} (hns : ∀ a ∈ p, a.state ≠ s) : (s :: p.map TChoice.state).Nodup :=
  List.nodup_cons.2 ⟨fun hm => by obtain ⟨a, ha, e⟩ := List.mem_map.1 hm; exact hns a ha e, h.nodup⟩
/-- The program's way: from state to state. -/
structure BI (t : TOpenTask) (ch : List Int → Int) (q : List (List Int)) (p : List TChoice) (a : Int) : Prop where
  a0 : 0 ≤ a
  a1 : a ≤ q.length
  pp : PolP t ch p
  qr : ∀ s ∈ q, RchC t ch s
  qi : t.init ∈ q
  px : ∀ c ∈ p, ∀ y ∈ nxC t ch c.state, y ∈ q
  dn : ∀ k s, k < a → ix q k = some s → GoalS t s ∨ ∃ c ∈ p, c.state = s
  ql : q.length ≤ 1 + 4 * p.length
theorem build_prog (ht : OTaskOk t) (hk : ChOk t ch) {choose : List Int → Option Int} (hch : ∀ s, RchC t ch s → ¬ GoalS t s → choose s = some (ch s)) :
    ∃ r, strong_Build t choose = some r ∧ ((r = ([], false) ∧ ∃ l : List (List Int), l.Nodup ∧ (∀ s ∈ l, RchC t ch s ∧ ¬ GoalS t s) ∧ l.length = 201) ∨ ∃ p, r = (p, true) ∧ PolB t ch p ∧ p.length ≤ 200) := by
  have hn := ht.n1
  obtain ⟨o, o1, o2⟩ := Loop_inv (body := strong_Build_l1 t choose) (fun x => BI t ch x.1 x.2.1 x.2.2) (fun o => (o = .inr ([], false) ∧ ∃ l : List (List Int), l.Nodup ∧ (∀ s ∈ l, RchC t ch s ∧ ¬ GoalS t s) ∧ l.length = 201) ∨ ∃ p, o = .inl p ∧ PolB t ch p ∧ p.length ≤ 200) (fun x => (1000 - x.2.2).toNat)
    (s := ([t.init], [], 0)) ⟨by dsimp only; omega, by simp, ⟨⟨by simp, .nil, by simp, by simp, by simp⟩, by simp⟩, fun s hs => by rw [List.mem_singleton.1 hs]; exact .init, by simp, by simp, fun k s hk hs => by have := (ix_lo hs).1; dsimp only at hk; omega, by simp⟩ (fun ⟨q, p, a⟩ h => by
      have a0 : 0 ≤ a := h.a0
      have a1 : a ≤ q.length := h.a1
      have ql : q.length ≤ 1 + 4 * p.length := h.ql
      have pp : PolP t ch p := h.pp
      have qr : ∀ s ∈ q, RchC t ch s := h.qr
      have qi : t.init ∈ q := h.qi
      have px : ∀ c ∈ p, ∀ y ∈ nxC t ch c.state, y ∈ q := h.px
      have dn : ∀ k s, k < a → ix q k = some s → GoalS t s ∨ ∃ c ∈ p, c.state = s := h.dn
      have pl : p.length ≤ 200 := pp.pol.len
      clear h
      dsimp only
      unfold strong_Build_l1
      dsimp only
      by_cases c : a < q.length
      · rw [if_pos c]
        obtain ⟨s, hs, _⟩ := ix_of (l := q) a0 c
        have hr := qr s (ix_mem hs)
        have hset := hr.set ht
        have hsl := hset.len
        rw [hs]
        simp only [Option.bind_some, contains_eq hset.1 ht.goal.1 (show s.length ≤ 1000000 by omega), (chosen_chO pp.pol s).1]
        have key : (if dec (∀ x ∈ t.goal, x ∈ s) = true then some true else some (decide (0 ≤ chO p s))) = some (dec (GoalS t s ∨ 0 ≤ chO p s)) := by
          by_cases hg : GoalS t s
          · rw [ifP (p := ∀ x ∈ t.goal, x ∈ s) hg, dec_of (.inl hg)]
          · rw [ifN (p := ∀ x ∈ t.goal, x ∈ s) hg, decide_dec]
            congr 1
            exact dec_congr ⟨.inr, fun h => h.resolve_left hg⟩
        rw [key]
        simp only [Option.bind_some]
        have hw : w64 (a + 1) = a + 1 := w64_of (by omega) (by omega)
        by_cases cg : GoalS t s ∨ 0 ≤ chO p s
        · rw [ifP cg]
          unfold strong_Build_j2
          dsimp only
          refine .inl ⟨(q, p, a + 1), by rw [hw], ⟨by dsimp only; omega, by dsimp only; omega, pp, qr, qi, px, fun (k : Int) z hk2 hz => ?_, ql⟩, by dsimp only; omega⟩
          dsimp only at hk2 hz
          by_cases e : k = a
          · subst e
            rw [hs] at hz; cases hz
            refine cg.imp id fun hc => ?_
            rcases chO_ch pp.op s with ⟨e, _⟩ | ⟨e, _⟩
            · omega
            · exact e
          · exact dn k z (by omega) hz
        · rw [ifN cg]
          have hg : ¬ GoalS t s := fun g => cg (.inl g)
          have hns : ∀ c ∈ p, c.state ≠ s := by
            rcases chO_ch pp.op s with ⟨_, e⟩ | ⟨_, e⟩
            · exact e
            · exact absurd (.inr (by rw [e]; exact (hk s hr hg).1.1)) cg
          by_cases cl : (p.length : Int) = 200
          · rw [if_pos cl]
            refine .inr ⟨_, rfl, .inl ⟨rfl, s :: p.map TChoice.state, states_nodup pp.pol.ord hns, fun z hz => ?_, by simp; omega⟩⟩
            rcases List.mem_cons.1 hz with rfl | hz
            · exact ⟨hr, hg⟩
            · obtain ⟨c, hc, rfl⟩ := List.mem_map.1 hz
              exact (pp.of c hc).1
          · rw [if_neg cl, hch s hr hg]
            simp only [Option.bind_some]
            have ho := hk s hr hg
            obtain ⟨i, i1, i0, _, i2, i3, i4⟩ := bsf_full (key := TChoice.state) (xs := p) (t := s) (cmp := strong_Build_1) pp.pol.ord (by omega) (fun a => by unfold strong_Build_1; rw [compare_eq]; rfl)
            have hb : slices_BinarySearchFunc_api_Choice_api_Choice_int p s strong_Build_1 = some (i, dec (∃ a ∈ p, a.state = s)) := i1
            rw [hb]
            simp only [Option.bind_some, clone_eq (show s.length ≤ 1000000 by omega)]
            rw [insL, if_pos ⟨i0, i2, by omega⟩]
            obtain ⟨st, w, r1, _, r3, r4, _⟩ := oResults_eq ht ho.1.1 ho.1.2 hset
            simp only [Option.bind_some, r1]
            rw [app, if_pos (by omega)]
            simp only [Option.bind_some]
            unfold strong_Build_j2
            dsimp only
            have hst : ∀ y, y ∈ st ↔ y ∈ nxC t ch s := fun y => by rw [r3, nxC, List.mem_map]
            have pp' := pp.ins ht hk hr hg i0 i2 i3 i4 hns (by omega)
            refine .inl ⟨(q ++ st, p.take i.toNat ++ ⟨s, ch s⟩ :: p.drop i.toNat, a + 1), by rw [hw], ⟨by dsimp only; omega, by simp; omega, pp', fun z hz => ?_, List.mem_append_left _ qi, fun c hc y hy => ?_, fun k z hk2 hz => ?_, ?_⟩, by dsimp only; omega⟩
            · rcases List.mem_append.1 hz with hz | hz
              · exact qr z hz
              · exact .step hr hg ((hst z).1 hz)
            · rcases ins_mem.1 hc with rfl | hc
              · exact List.mem_append_right _ ((hst y).2 hy)
              · exact List.mem_append_left _ (px c hc y hy)
            · dsimp only at hk2 hz
              obtain ⟨z', hz', _⟩ := ix_of (l := q) (i := k) (ix_lo hz).1 (by omega)
              have e : z' = z := by
                obtain ⟨k0, _, g1⟩ := ix_lo hz
                obtain ⟨_, k1, g2⟩ := ix_lo hz'
                rw [List.getElem?_append_left (by omega), g2] at g1
                exact Option.some.inj g1
              subst e
              by_cases e : k = a
              · subst e
                rw [hs] at hz'; cases hz'
                exact .inr ⟨⟨s, ch s⟩, ins_mem.2 (.inl rfl), rfl⟩
              · refine (dn k _ (by omega) hz').imp id fun ⟨c, hc, e⟩ => ⟨c, ins_mem.2 (.inr hc), e⟩
            · dsimp only
              rw [List.length_append, ins_len (by omega)]
              omega
      · rw [if_neg c]
        have all : ∀ s, RchC t ch s → s ∈ q := fun s hs => by
          induction hs with
          | init => exact qi
          | @step s y _ hg hy ih =>
            obtain ⟨k, k0, k1, hk1⟩ := mem_ix ih
            rcases dn k s (by omega) hk1 with g | ⟨c, hc, rfl⟩
            · exact absurd g hg
            · exact px c hc y hy
        refine .inr ⟨_, rfl, .inr ⟨p, rfl, ⟨pp.pol.ord, fun s => ⟨fun ⟨c, hc, e⟩ => e ▸ (pp.of c hc).1, fun ⟨hs, hg⟩ => ?_⟩, pp.op⟩, pl⟩⟩
        obtain ⟨k, k0, k1, hk1⟩ := mem_ix (all s hs)
        exact (dn k s (by omega) hk1).resolve_left hg)
  unfold strong_Build
  rw [o1]
  rcases o2 with ⟨rfl, h⟩ | ⟨p, rfl, h⟩
  · exact ⟨_, rfl, .inl ⟨rfl, h⟩⟩
  · exact ⟨_, rfl, .inr ⟨p, rfl, h⟩⟩
end
end Ab
end
section
namespace Ab
open Go
/-! ### Values of ordered states -/
noncomputable def sc (t : TOpenTask) (s : List Int) (op : Int) : List (List Int) := (ooAt t op).outcomes.map (efc t.facts s)
/-- A row of values: of f, state by state. -/
structure Rep {A : Type} (all : List (List Int)) (v : List A) (f : List Int → A) : Prop where
  len : v.length = all.length
  get : ∀ {i : Int} {s : List Int}, ix all i = some s → ix v i = some (f s)
noncomputable def upd {A : Type} (f : List Int → A) (s : List Int) (x : A) : List Int → A := fun z => if dec (z = s) = true then x else f z
theorem upd_self {A : Type} {f : List Int → A} {s : List Int} {x : A} : upd f s x s = x := ifP rfl
theorem upd_ne {A : Type} {f : List Int → A} {s z : List Int} {x : A} (h : z ≠ s) : upd f s x z = f z := ifN h
section
variable {A : Type} {all : List (List Int)} {v : List A} {f g : List Int → A}
theorem Rep.of (h : Rep all v f) {s : List Int} (hs : s ∈ all) : ∃ i, ix all i = some s ∧ ix v i = some (f s) := by
  obtain ⟨i, _, _, hi⟩ := mem_ix hs
  exact ⟨i, hi, h.get hi⟩
theorem Rep.set (ho : Ord all) (h : Rep all v f) {i : Int} {s : List Int} (hi : ix all i = some s) (x : A) : Rep all (v.set i.toNat x) (upd f s x) := by
  obtain ⟨i0, i1, _⟩ := ix_lo hi
  have hl := h.len
  refine ⟨by rw [List.length_set]; exact hl, fun {j z} hj => ?_⟩
  rw [ix_put i0 (by omega) (ix_lo hj).1]
  by_cases e : j = i
  · subst e
    rw [hi] at hj; cases hj
    rw [if_pos rfl, upd_self]
  · rw [if_neg e, upd_ne (fun hz => e (by subst hz; exact ho.inj hj hi))]
    exact h.get hj
theorem Rep.congr (h : Rep all v f) (e : ∀ s ∈ all, f s = g s) : Rep all v g := ⟨h.len, fun hi => by rw [← e _ (ix_mem hi)]; exact h.get hi⟩
theorem Rep.repl (c : A) : Rep all (List.replicate all.length c) fun _ => c := ⟨by simp, fun {i s} hi => by
  obtain ⟨i0, i1, g⟩ := ix_lo hi
  have : i.toNat < all.length := (List.getElem?_eq_some_iff.1 g).1
  rw [ix, if_pos i0, List.getElem?_replicate, if_pos this]⟩
end
theorem repeat_eq (c : Int) {n : Nat} (h1 : 1 ≤ n) (hn : n ≤ 100000) : slices_Repeat_int_int [c] (n : Int) = some (List.replicate n c) := by
  unfold slices_Repeat_int_int
  dsimp only
  rw [if_pos (show (1 : Int) ≤ n ∧ (n : Int) ≤ 4294967295 by omega)]
  simp
/-- Reached in k steps at most, whatever outcomes come, by some operators. -/
def DnA (t : TOpenTask) : Nat → List Int → Prop
  | 0, s => GoalS t s
  | k + 1, s => GoalS t s ∨ ∃ op : Int, (0 ≤ op ∧ op < t.operators.length) ∧ oCan t s op ∧ ∀ y ∈ sc t s op, DnA t k y
section
variable {t : TOpenTask}
theorem DnA.goal {k : Nat} {s : List Int} (h : GoalS t s) : DnA t k s := by
  cases k with
  | zero => exact h
  | succ k => exact .inl h
theorem DnA.succ : ∀ {k : Nat} {s : List Int}, DnA t k s → DnA t (k + 1) s
  | 0, s, h => .inl h
  | k + 1, s, h => by
    rcases h with h | ⟨op, h1, h2, h3⟩
    · exact .inl h
    · exact .inr ⟨op, h1, h2, fun y hy => DnA.succ (h3 y hy)⟩
theorem DnA.mono {k m : Nat} {s : List Int} (h : DnA t k s) (hm : k ≤ m) : DnA t m s := by
  induction hm with
  | refl => exact h
  | step _ ih => exact ih.succ
def HtA (t : TOpenTask) (k : Nat) (s : List Int) : Prop := DnA t k s ∧ ∀ j, j < k → ¬ DnA t j s
theorem HtA.unique {k m : Nat} {s : List Int} (h : HtA t k s) (h' : HtA t m s) : k = m := by
  rcases Nat.lt_trichotomy k m with c | c | c
  · exact absurd h.1 (h'.2 k c)
  · exact c
  · exact absurd h'.1 (h.2 m c)
theorem HtA.zero {s : List Int} (h : GoalS t s) : HtA t 0 s := ⟨h, fun j hj => by omega⟩
theorem HtA.of_not {k : Nat} {s : List Int} (h : DnA t (k + 1) s) (hn : ¬ DnA t k s) : HtA t (k + 1) s := ⟨h, fun j hj hd => hn (hd.mono (by omega))⟩
/-- Closed states in order. -/
structure ClO (t : TOpenTask) (all : List (List Int)) : Prop where
  cl : Cl t all
  ord : Ord all
theorem ClO.len {all : List (List Int)} (h : ClO t all) : all.length ≤ 2000 := h.cl.len
theorem ClO.set {all : List (List Int)} (h : ClO t all) {s : List Int} (hs : s ∈ all) : SetN s t.facts := h.cl.set s hs
theorem ClO.sc {all : List (List Int)} (h : ClO t all) {s : List Int} (hs : s ∈ all) {op : Int} (h0 : 0 ≤ op ∧ op < t.operators.length) (hc : oCan t s op) {y : List Int} (hy : y ∈ sc t s op) : y ∈ all := by
  obtain ⟨x, hx, rfl⟩ := List.mem_map.1 hy
  exact h.cl.closed s hs op h0.1 h0.2 hc x hx
/-! ### Ranks, layer by layer -/
/-- All ranks. -/
structure RankA (t : TOpenTask) (all : List (List Int)) (f : List Int → Int) : Prop where
  val : ∀ s ∈ all, (f s = -1 ∧ ∀ k, ¬ DnA t k s) ∨ ∃ k : Nat, f s = k ∧ HtA t k s
  le : ∀ s ∈ all, f s ≤ all.length
theorem RankA.ht {all : List (List Int)} {f : List Int → Int} (h : RankA t all f) {s : List Int} (hs : s ∈ all) {k : Nat} (hk : HtA t k s) : f s = k := by
  rcases h.val s hs with ⟨_, e⟩ | ⟨m, e, hm⟩
  · exact absurd hk.1 (e k)
  · rw [e, hm.unique hk]
end
section
variable {t : TOpenTask}
end
end Ab
end
section
namespace Ab
open Go
/-! ### Loops that do the same, till one of them gives up -/
section
variable {t : TOpenTask} {m : Int}
end
end Ab
end
section
namespace Ab
open Go
def sumN (l : List Int) : Nat := (l.map Int.toNat).sum
theorem sumN_set : ∀ {l : List Int} {i : Nat} {x y : Int}, l[i]? = some y → 0 ≤ x → x < y → sumN (l.set i x) < sumN l
  | [], _, _, _, h, _, _ => by simp at h
  | a :: l, 0, x, y, h, h0, h1 => by
    simp only [List.getElem?_cons_zero, Option.some.injEq] at h
    subst h
    simp only [sumN, List.set_cons_zero, List.map_cons, List.sum_cons]
    omega
  | a :: l, i + 1, x, y, h, h0, h1 => by
    have := sumN_set (l := l) (i := i) (by simpa using h) h0 h1
    simp only [sumN, List.set_cons_succ, List.map_cons, List.sum_cons] at this ⊢
    omega
section
variable {t : TOpenTask}
end
section
variable {t : TOpenTask}
structure LowA (t : TOpenTask) (all : List (List Int)) (g : List Int → Int) : Prop where
  b : ∀ s ∈ all, 0 ≤ g s ∧ g s ≤ 1000000000
  dn : ∀ s ∈ all, g s < 1000000000 → DnA t (g s).toNat s
  goal : ∀ s ∈ all, GoalS t s → g s = 0
end
section
variable {t : TOpenTask}
end
end Ab
end
section
namespace Ab
open Go
section
variable {t : TOpenTask}
/-- The goal can be reached in k steps, by operators whose outcomes all lie in S. -/
def DsC (t : TOpenTask) (S : List Int → Prop) : Nat → List Int → Prop
  | 0, s => GoalS t s
  | k + 1, s => GoalS t s ∨ (S s ∧ ∃ op : Int, (0 ≤ op ∧ op < t.operators.length) ∧ oCan t s op ∧ (∀ y ∈ sc t s op, S y) ∧ ∃ y ∈ sc t s op, DsC t S k y)
variable {S T : List Int → Prop}
theorem DsC.goal {k : Nat} {s : List Int} (h : GoalS t s) : DsC t S k s := by
  cases k with
  | zero => exact h
  | succ k => exact .inl h
theorem DsC.succ : ∀ {k : Nat} {s : List Int}, DsC t S k s → DsC t S (k + 1) s
  | 0, s, h => .inl h
  | k + 1, s, h => by
    rcases h with h | ⟨h0, op, h1, h2, h3, y, hy, h4⟩
    · exact .inl h
    · exact .inr ⟨h0, op, h1, h2, h3, y, hy, h4.succ⟩
theorem DsC.mono {k m : Nat} {s : List Int} (h : DsC t S k s) (hm : k ≤ m) : DsC t S m s := by
  induction hm with
  | refl => exact h
  | step _ ih => exact ih.succ
theorem DsC.sub (hST : ∀ s, S s → T s) : ∀ {k : Nat} {s : List Int}, DsC t S k s → DsC t T k s
  | 0, s, h => h
  | k + 1, s, h => by
    rcases h with h | ⟨h0, op, h1, h2, h3, y, hy, h4⟩
    · exact .inl h
    · exact .inr ⟨hST s h0, op, h1, h2, fun z hz => hST z (h3 z hz), y, hy, h4.sub hST⟩
def HtD (t : TOpenTask) (S : List Int → Prop) (k : Nat) (s : List Int) : Prop := DsC t S k s ∧ ∀ j, j < k → ¬ DsC t S j s
theorem HtD.unique {k m : Nat} {s : List Int} (h : HtD t S k s) (h' : HtD t S m s) : k = m := by
  rcases Nat.lt_trichotomy k m with c | c | c
  · exact absurd h.1 (h'.2 k c)
  · exact c
  · exact absurd h'.1 (h.2 m c)
theorem HtD.of_dn : ∀ {k : Nat} {s : List Int}, DsC t S k s → ∃ m, m ≤ k ∧ HtD t S m s
  | 0, s, h => ⟨0, Nat.le_refl _, h, fun j hj => by omega⟩
  | k + 1, s, h => by
    by_cases c : DsC t S k s
    · obtain ⟨m, h1, h2⟩ := HtD.of_dn c
      exact ⟨m, by omega, h2⟩
    · exact ⟨k + 1, Nat.le_refl _, h, fun j hj hd => c (hd.mono (by omega))⟩
theorem HtD.of_not {k : Nat} {s : List Int} (h : DsC t S (k + 1) s) (hn : ¬ DsC t S k s) : HtD t S (k + 1) s := ⟨h, fun j hj hd => hn (hd.mono (by omega))⟩
theorem HtD.step {k : Nat} {s : List Int} (h : HtD t S (k + 1) s) : ¬ GoalS t s ∧ S s ∧ ∃ op : Int, (0 ≤ op ∧ op < t.operators.length) ∧ oCan t s op ∧ (∀ y ∈ sc t s op, S y) ∧ ∃ y ∈ sc t s op, HtD t S k y := by
  have hg : ¬ GoalS t s := fun g => h.2 0 (by omega) g
  rcases h.1 with g | ⟨h0, op, h1, h2, h3, y, hy, h4⟩
  · exact absurd g hg
  · refine ⟨hg, h0, op, h1, h2, h3, y, hy, h4, fun j hj hd => ?_⟩
    exact h.2 (j + 1) (by omega) (.inr ⟨h0, op, h1, h2, h3, y, hy, hd⟩)
theorem HtD.chain {all : List (List Int)} (hc : ClO t all) : ∀ {k : Nat} {s : List Int}, s ∈ all → HtD t S k s → ∃ c : List (List Int), c.length = k + 1 ∧ c.Nodup ∧ ∀ x ∈ c, x ∈ all ∧ ∃ j, j ≤ k ∧ HtD t S j x
  | 0, s, hs, h => ⟨[s], rfl, by simp, fun x hx => by rw [List.mem_singleton.1 hx]; exact ⟨hs, 0, Nat.le_refl _, h⟩⟩
  | k + 1, s, hs, h => by
    obtain ⟨_, _, op, h1, h2, _, y, hy, h4⟩ := h.step
    obtain ⟨c, c1, c2, c3⟩ := HtD.chain hc (hc.sc hs h1 h2 hy) h4
    refine ⟨s :: c, by simp [c1], List.nodup_cons.2 ⟨fun hm => ?_, c2⟩, fun x hx => ?_⟩
    · obtain ⟨_, j, j1, j2⟩ := c3 s hm
      have := j2.unique h; omega
    · rcases List.mem_cons.1 hx with rfl | hx
      · exact ⟨hs, k + 1, Nat.le_refl _, h⟩
      · obtain ⟨q0, j, q1, q2⟩ := c3 x hx
        exact ⟨q0, j, by omega, q2⟩
theorem HtD.lt {all : List (List Int)} (hc : ClO t all) {k : Nat} {s : List Int} (hs : s ∈ all) (h : HtD t S k s) : k < all.length := by
  obtain ⟨c, c1, c2, c3⟩ := h.chain hc hs
  have := nodup_len c2 fun x hx => (c3 x hx).1
  omega
/-! ### Lists of numbers -/
theorem containsF_eq {l : List Int} {f : Int → Option Bool} {p : Int → Prop} (h : ∀ x ∈ l, f x = some (dec (p x))) : slices_ContainsFunc_int_int l f = some (dec (∃ x ∈ l, p x)) := by
  unfold slices_ContainsFunc_int_int slices_IndexFunc_int_int
  rcases rngX_test (body := slices_IndexFunc_int_int_l1 l f) (n := (l.length : Int)) (fun j => if dec (∃ x, ix l j = some x ∧ p x) = true then some j else none) (by omega) (fun j h0 h1 _ => by
    obtain ⟨x, hx, _⟩ := ix_of (l := l) h0 h1
    unfold slices_IndexFunc_int_int_l1
    simp only [hx, Option.bind_some, h x (ix_mem hx)]
    by_cases e : p x
    · rw [ifP e, ifP ⟨x, rfl, e⟩]
    · rw [ifN e, ifN (by rintro ⟨z, hz, hp⟩; cases hz; exact e hp)]) with ⟨h1, h2⟩ | ⟨j, o, h0, h1, h2, h3, h4⟩
  · rw [h1]
    simp only [Option.bind_some]
    rw [dec_no]
    · rfl
    · rintro ⟨x, hx, hp⟩
      obtain ⟨i, i0, i1, hi⟩ := mem_ix hx
      have := h2 i i0 i1
      rw [ifP ⟨x, hi, hp⟩] at this
      cases this
  · rw [h4]
    split at h2
    · rename_i e
      cases h2
      simp only [Option.bind_some]
      obtain ⟨x, hx, hp⟩ := dec_true.1 e
      rw [dec_of ⟨x, ix_mem hx, hp⟩, decide_eq_true h0]
    · cases h2
theorem containsFL_eq {l : List (List Int)} {f : List Int → Option Bool} {p : List Int → Prop} (h : ∀ x ∈ l, f x = some (dec (p x))) : slices_ContainsFunc_LLint l f = some (dec (∃ x ∈ l, p x)) := by
  unfold slices_ContainsFunc_LLint slices_IndexFunc_LLint
  rcases rngX_test (body := slices_IndexFunc_LLint_l1 l f) (n := (l.length : Int)) (fun j => if dec (∃ x, ix l j = some x ∧ p x) = true then some j else none) (by omega) (fun j h0 h1 _ => by
    obtain ⟨x, hx, _⟩ := ix_of (l := l) h0 h1
    unfold slices_IndexFunc_LLint_l1
    simp only [hx, Option.bind_some, h x (ix_mem hx)]
    by_cases e : p x
    · rw [ifP e, ifP ⟨x, rfl, e⟩]
    · rw [ifN e, ifN (by rintro ⟨z, hz, hp⟩; cases hz; exact e hp)]) with ⟨h1, h2⟩ | ⟨j, o, h0, h1, h2, h3, h4⟩
  · rw [h1]
    simp only [Option.bind_some]
    rw [dec_no]
    · rfl
    · rintro ⟨x, hx, hp⟩
      obtain ⟨i, i0, i1, hi⟩ := mem_ix hx
      have := h2 i i0 i1
      rw [ifP ⟨x, hi, hp⟩] at this
      cases this
  · rw [h4]
    split at h2
    · rename_i e
      cases h2
      simp only [Option.bind_some]
      obtain ⟨x, hx, hp⟩ := dec_true.1 e
      rw [dec_of ⟨x, ix_mem hx, hp⟩, decide_eq_true h0]
    · cases h2
/-! ### The numbers of the states after an operator -/
def ArcL (t : TOpenTask) (all : List (List Int)) (s : List Int) (op : Int) (l : List Int) : Prop := (oCan t s op ∧ ∀ k, k ∈ l ↔ ∃ y ∈ sc t s op, ix all k = some y) ∨ (¬ oCan t s op ∧ l = [])
structure ArcsOk (t : TOpenTask) (all : List (List Int)) (nx : List (List (List Int))) : Prop where
  len : nx.length = all.length
  row : ∀ i s, ix all i = some s → ∃ r, ix nx i = some r ∧ r.length = t.operators.length ∧ ∀ op l, ix r op = some l → ArcL t all s op l
theorem ix_set_same {A : Type} {l : List A} {i : Int} {x y : A} (h : ix l i = some y) : ix (l.set i.toNat x) i = some x := by
  obtain ⟨i0, i1, _⟩ := ix_lo h
  rw [ix_put i0 i1 i0, if_pos rfl]
theorem arcs_eq (ht : OTaskOk t) {all : List (List Int)} (hc : ClO t all) : ∃ nx, cyclic_arcs t all = some nx ∧ ArcsOk t all nx := by
  have hlen := hc.len
  have hops := ht.ops
  unfold cyclic_arcs
  rw [show mkL 24 (all.length : Int) ([] : List (List Int)) = some (List.replicate all.length []) by rw [mkL, if_pos (by omega)]; simp]
  simp only [Option.bind_some]
  obtain ⟨nx, h1, h2, h3⟩ := forR_inv (body := cyclic_arcs_l1 t all) (n := (all.length : Int)) (s := List.replicate all.length ([] : List (List Int))) (fun j nx => nx.length = all.length ∧ ∀ i s, i < j → ix all i = some s → ∃ r, ix nx i = some r ∧ r.length = t.operators.length ∧ ∀ op l, ix r op = some l → ArcL t all s op l) (by omega) ⟨by simp, fun i s hi hs => by have := (ix_lo hs).1; omega⟩ (fun j nx j0 j1 ⟨a1, a2⟩ => by
    obtain ⟨s, hs, _⟩ := ix_of (l := all) j0 j1
    have hsm := ix_mem hs
    have hset := hc.set hsm
    obtain ⟨r0, hr0, _⟩ := ix_of (l := nx) j0 (by omega)
    unfold cyclic_arcs_l1
    rw [hs]
    simp only [Option.bind_some]
    rw [show mkL 24 (t.operators.length : Int) ([] : List Int) = some (List.replicate t.operators.length []) by rw [mkL, if_pos (by omega)]; simp]
    simp only [Option.bind_some, hr0]
    obtain ⟨r, r1, r2, r3⟩ := forR_inv (body := cyclic_arcs_l2 t all s) (n := (t.operators.length : Int)) (s := List.replicate t.operators.length ([] : List Int)) (fun k r => r.length = t.operators.length ∧ (∀ op l, op < k → ix r op = some l → ArcL t all s op l) ∧ ∀ op l, k ≤ op → ix r op = some l → l = []) (by omega) ⟨by simp, fun op l h0 h => by have := (ix_lo h).1; omega, fun op l _ h => List.eq_of_mem_replicate (ix_mem h)⟩ (fun k r k0 k1 ⟨b1, b2, b3⟩ => by
      unfold cyclic_arcs_l2
      rw [oCan_eq ht k0 k1 hset]
      simp only [Option.bind_some, dec_not]
      by_cases cc : oCan t s k
      · rw [ifNN cc]
        obtain ⟨st, ws, q1, _, q3, q4, _⟩ := oResults_eq ht k0 k1 hset
        have hst : ∀ y, y ∈ st ↔ y ∈ sc t s k := fun y => by rw [q3, sc, List.mem_map]
        rw [q1]
        simp only [Option.bind_some]
        obtain ⟨l0, hl0, _⟩ := ix_of (l := r) k0 (by omega)
        have e0 : l0 = [] := b3 k l0 (Int.le_refl _) hl0
        subst e0
        obtain ⟨r', d1, d2, l', d3, d4, d5⟩ := forR_inv (body := cyclic_arcs_l3 all k (st, ws)) (n := (st.length : Int)) (s := r) (fun m r' => r'.length = r.length ∧ ∃ l, r' = r.set k.toNat l ∧ (l.length : Int) ≤ m ∧ ∀ z, z ∈ l ↔ ∃ q y, 0 ≤ q ∧ q < m ∧ ix st q = some y ∧ ix all z = some y) (by omega) ⟨rfl, [], (by
          have := (ix_lo hl0).2.2
          refine (List.ext_getElem? fun i => ?_)
          rw [List.getElem?_set]
          split
          · rename_i e; subst e; rw [if_pos (List.getElem?_eq_some_iff.1 this).1, this]
          · rfl), by simp, fun z => ⟨fun h => by (cases h), fun ⟨q, y, q0, q1, _⟩ => by omega⟩⟩ (fun m r' m0 m1 ⟨e1, l, e2, e3, e4⟩ => by
          obtain ⟨y, hy, _⟩ := ix_of (l := st) m0 m1
          have hya := hc.sc hsm ⟨k0, k1⟩ cc ((hst y).1 (ix_mem hy))
          obtain ⟨z, z0, z1, hz⟩ := mem_ix hya
          have hg : ix r' k = some l := by rw [e2]; exact ix_set_same hl0
          unfold cyclic_arcs_l3
          dsimp only
          rw [hy]
          simp only [Option.bind_some, hg, find_eq hc.ord (show all.length ≤ 500000 by omega) hz]
          rw [app, if_pos (by simp; omega)]
          simp only [Option.bind_some]
          refine ⟨_, rfl, by rw [List.length_set]; exact e1, l ++ [z], by rw [e2, List.set_set], by simp; omega, fun z' => ?_⟩
          rw [List.mem_append, List.mem_singleton, e4]
          constructor
          · rintro (⟨q, y', q0, q1, q2, q3⟩ | rfl)
            · exact ⟨q, y', q0, by omega, q2, q3⟩
            · exact ⟨m, y, m0, by omega, hy, hz⟩
          · rintro ⟨q, y', q0, q1, q2, q3⟩
            by_cases e : q = m
            · subst e; rw [hy] at q2; cases q2
              exact .inr (hc.ord.inj q3 hz)
            · exact .inl ⟨q, y', q0, by omega, q2, q3⟩)
        rw [d1]
        simp only [Option.bind_some]
        refine ⟨_, rfl, by omega, fun op l ho hl => ?_, fun op l ho hl => ?_⟩
        · rw [d3] at hl
          rcases (by
            have := (ix_lo hl).1
            rw [ix_put k0 (by omega) this] at hl
            by_cases e : op = k
            · rw [if_pos e] at hl; exact .inl ⟨e, Option.some.inj hl⟩
            · rw [if_neg e] at hl; exact .inr ⟨e, hl⟩ : (op = k ∧ l' = l) ∨ (op ≠ k ∧ ix r op = some l)) with ⟨rfl, rfl⟩ | ⟨e, hl⟩
          · refine .inl ⟨cc, fun z => ?_⟩
            rw [d5]
            constructor
            · rintro ⟨q, y, _, _, q2, q3⟩; exact ⟨y, (hst y).1 (ix_mem q2), q3⟩
            · rintro ⟨y, hy, hz⟩
              obtain ⟨q, q0, q1, hq⟩ := mem_ix ((hst y).2 hy)
              exact ⟨q, y, q0, q1, hq, hz⟩
          · exact b2 op l (by omega) hl
        · rw [d3, ix_put k0 (by omega) (by omega), if_neg (by omega)] at hl
          exact b3 op l (by omega) hl
      · rw [ifP cc]
        refine ⟨_, rfl, b1, fun op l ho hl => ?_, fun op l ho hl => b3 op l (by omega) hl⟩
        by_cases e : op = k
        · subst e; exact .inr ⟨cc, b3 op l (Int.le_refl _) hl⟩
        · exact b2 op l (by omega) hl)
    rw [r1]
    simp only [Option.bind_some]
    refine ⟨_, rfl, by rw [List.length_set]; exact a1, fun i z hi hz => ?_⟩
    by_cases e : i = j
    · subst e
      rw [hs] at hz; cases hz
      exact ⟨r, ix_set_same hr0, r2, fun op l hl => r3.1 op l (by have := (ix_lo hl).2.1; omega) hl⟩
    · obtain ⟨r', g1, g2⟩ := a2 i z (by omega) hz
      exact ⟨r', by rw [ix_put j0 (by omega) (ix_lo hz).1, if_neg e]; exact g1, g2⟩)
  rw [h1]
  exact ⟨nx, rfl, h2, fun i s hs => h3 i s (ix_lo hs).2.1 hs⟩
end
end Ab
end
section
namespace Ab
open Go
theorem sumN_le {l : List Int} {i : Nat} {x y : Int} (h : l[i]? = some y) (h0 : 0 ≤ x) (h1 : x ≤ y) : sumN (l.set i x) ≤ sumN l := by
  by_cases e : x = y
  · subst e
    have : l.set i x = l := by
      refine List.ext_getElem? fun k => ?_
      rw [List.getElem?_set]
      split
      · rename_i e; subst e; rw [if_pos (List.getElem?_eq_some_iff.1 h).1, h]
      · rfl
    rw [this]; exact Nat.le_refl _
  · exact Nat.le_of_lt (sumN_set h h0 (by omega))
section
variable {t : TOpenTask} {S : List Int → Prop} {all : List (List Int)}
noncomputable def sfl (S : List Int → Prop) (s : List Int) : Int := if dec (S s) = true then 1 else 0
theorem sfl_pos {s : List Int} (h : S s) : sfl S s = 1 := ifP h
theorem sfl_neg {s : List Int} (h : ¬ S s) : sfl S s = 0 := ifN h
/-- One list of numbers, by what is safe and what is known. -/
theorem measure1 {sv d : List Int} {f : List Int → Int} (hs : Rep all sv (sfl S)) (hd : Rep all d f) {layer : Int} (hl : 0 ≤ layer ∧ layer ≤ 1000000) {l : List Int} (hk : ∀ k ∈ l, ∃ s, ix all k = some s) :
    cyclic_measure_1 l sv d layer = some (dec (l ≠ [] ∧ (∀ k ∈ l, ∀ s, ix all k = some s → S s) ∧ ∃ k ∈ l, ∃ s, ix all k = some s ∧ f s = layer - 1)) := by
  have e1 : cyclic_inside l sv = some (dec (l ≠ [] ∧ ∀ k ∈ l, ∀ s, ix all k = some s → S s)) := by
    unfold cyclic_inside
    by_cases c : 0 < (l.length : Int)
    · rw [if_pos c, containsF_eq (p := fun k => ∃ s, ix all k = some s ∧ ¬ S s) (fun k hk2 => by
        obtain ⟨s, hsk⟩ := hk k hk2
        unfold cyclic_inside_1
        rw [hs.get hsk]
        simp only [Option.bind_some]
        by_cases e : S s
        · rw [sfl_pos e, dec_no (by rintro ⟨z, hz, hn⟩; rw [hsk] at hz; cases hz; exact hn e)]
          rfl
        · rw [sfl_neg e, dec_of ⟨s, hsk, e⟩]
          rfl)]
      simp only [Option.bind_some, dec_not]
      congr 1
      refine dec_congr ⟨fun h => ⟨fun e => by rw [e] at c; simp at c, fun k hk2 s hsk => Classical.byContradiction fun hn => h ⟨k, hk2, s, hsk, hn⟩⟩, fun h => ?_⟩
      rintro ⟨k, hk2, s, hsk, hn⟩
      exact hn (h.2 k hk2 s hsk)
    · rw [if_neg c, dec_no]
      · rfl
      · exact fun h => h.1 (List.eq_nil_of_length_eq_zero (by omega))
  unfold cyclic_measure_1
  rw [e1]
  simp only [Option.bind_some]
  by_cases c : l ≠ [] ∧ ∀ k ∈ l, ∀ s, ix all k = some s → S s
  · rw [ifP c, containsF_eq (p := fun k => ∃ s, ix all k = some s ∧ f s = layer - 1) (fun k hk2 => by
      obtain ⟨s, hsk⟩ := hk k hk2
      unfold cyclic_measure_1_1
      rw [hd.get hsk, w64_of (by omega) (by omega)]
      simp only [Option.bind_some, decide_dec]
      congr 1
      refine dec_congr ⟨fun e => ⟨s, hsk, e⟩, ?_⟩
      rintro ⟨z, hz, e⟩
      rw [hsk] at hz; cases hz; exact e)]
    simp only [Option.bind_some]
    congr 1
    exact dec_congr ⟨fun h => ⟨c.1, c.2, h⟩, fun h => h.2.2⟩
  · rw [ifN c]
    simp only [Option.bind_some]
    rw [dec_no]
    exact fun h => c ⟨h.1, h.2.1⟩
/-- Whether an operator leads to safe states, one of them of a value. -/
def StepC (t : TOpenTask) (S : List Int → Prop) (f : List Int → Int) (s : List Int) (v : Int) : Prop := ∃ op : Int, (0 ≤ op ∧ op < t.operators.length) ∧ oCan t s op ∧ (∀ y ∈ sc t s op, S y) ∧ ∃ y ∈ sc t s op, f y = v
theorem measureR (ht : OTaskOk t) (hc : ClO t all) {nx : List (List (List Int))} (hn : ArcsOk t all nx) {sv d : List Int} {f : List Int → Int} (hs : Rep all sv (sfl S)) (hd : Rep all d f) {layer : Int} (hl : 0 ≤ layer ∧ layer ≤ 1000000) {i : Int} {s : List Int} (hi : ix all i = some s) :
    ∃ r, ix nx i = some r ∧ slices_ContainsFunc_LLint r (fun y1 => cyclic_measure_1 y1 sv d layer) = some (dec (StepC t S f s (layer - 1))) := by
  obtain ⟨r, r1, r2, r3⟩ := hn.row i s hi
  have hsm := ix_mem hi
  refine ⟨r, r1, ?_⟩
  have inr : ∀ x ∈ r, ∃ op, ix r op = some x ∧ (0 ≤ op ∧ op < t.operators.length) ∧ ArcL t all s op x := fun x hx => by
    obtain ⟨op, o0, o1, ho⟩ := mem_ix hx
    exact ⟨op, ho, ⟨o0, by omega⟩, r3 op x ho⟩
  rw [containsFL_eq (p := fun l => l ≠ [] ∧ (∀ k ∈ l, ∀ s, ix all k = some s → S s) ∧ ∃ k ∈ l, ∃ s, ix all k = some s ∧ f s = layer - 1) (fun x hx => by
    obtain ⟨op, _, ho, ha⟩ := inr x hx
    refine measure1 hs hd hl fun k hk => ?_
    rcases ha with ⟨_, ha⟩ | ⟨_, rfl⟩
    · obtain ⟨y, _, hy⟩ := (ha k).1 hk
      exact ⟨y, hy⟩
    · cases hk)]
  congr 1
  refine dec_congr ⟨?_, ?_⟩
  · rintro ⟨x, hx, h1, h2, k, hk, z, hz, hf⟩
    obtain ⟨op, _, ho, ha⟩ := inr x hx
    rcases ha with ⟨hcan, ha⟩ | ⟨_, rfl⟩
    · refine ⟨op, ho, hcan, fun y hy => ?_, z, ?_, hf⟩
      · obtain ⟨q, _, _, hq⟩ := mem_ix (hc.sc hsm ho hcan hy)
        exact h2 q ((ha q).2 ⟨y, hy, hq⟩) y hq
      · obtain ⟨y, hy, hyk⟩ := (ha k).1 hk
        rw [hz] at hyk; cases hyk; exact hy
    · exact absurd rfl h1
  · rintro ⟨op, ho, hcan, h1, y, hy, hf⟩
    obtain ⟨x, hx, _⟩ := ix_of (l := r) ho.1 (by omega)
    rcases r3 op x hx with ⟨_, ha⟩ | ⟨hn2, _⟩
    · obtain ⟨q, _, _, hq⟩ := mem_ix (hc.sc hsm ho hcan hy)
      have hqx := (ha q).2 ⟨y, hy, hq⟩
      refine ⟨x, ix_mem hx, ⟨fun e => (by rw [e] at hqx; cases hqx), fun k hk z hz => ?_, q, hqx, y, hq, hf⟩⟩
      obtain ⟨z', hz', hzk⟩ := (ha k).1 hk
      rw [hz] at hzk; cases hzk
      exact h1 z hz'
    · exact absurd hcan hn2
def RankD (t : TOpenTask) (S : List Int → Prop) (all : List (List Int)) (f : List Int → Int) (L : Nat) : Prop := ∀ s ∈ all, (f s = -1 ∧ ¬ DsC t S L s) ∨ ∃ k : Nat, k ≤ L ∧ f s = k ∧ HtD t S k s
theorem RankD.fresh (hc : ClO t all) {f : List Int → Int} {L : Nat} (h : RankD t S all f L) {s : List Int} (hs : s ∈ all) : HtD t S (L + 1) s ↔ f s < 0 ∧ S s ∧ StepC t S f s L := by
  constructor
  · intro hh
    have hn : ¬ DsC t S L s := hh.2 L (by omega)
    have hf : f s = -1 := by
      rcases h s hs with ⟨e, _⟩ | ⟨k, k1, _, k2⟩
      · exact e
      · exact absurd (k2.1.mono k1) hn
    obtain ⟨_, h0, op, h1, h2, h3, y, hy, h4⟩ := hh.step
    refine ⟨by omega, h0, op, h1, h2, h3, y, hy, ?_⟩
    rcases h y (hc.sc hs h1 h2 hy) with ⟨_, e⟩ | ⟨k, _, e, hk⟩
    · exact absurd h4.1 e
    · rw [e, hk.unique h4]
  · rintro ⟨hf, h0, op, h1, h2, h3, y, hy, h4⟩
    have hn : ¬ DsC t S L s := by
      rcases h s hs with ⟨_, e⟩ | ⟨k, _, e, _⟩
      · exact e
      · omega
    refine HtD.of_not (.inr ⟨h0, op, h1, h2, h3, y, hy, ?_⟩) hn
    rcases h y (hc.sc hs h1 h2 hy) with ⟨e, _⟩ | ⟨k, _, e, hk⟩
    · omega
    · have : k = L := by omega
      subst this; exact hk.1
theorem measure_eq (ht : OTaskOk t) (hc : ClO t all) {nx : List (List (List Int))} (hn : ArcsOk t all nx) {sv : List Int} (hs : Rep all sv (sfl S)) :
    ∃ v f, cyclic_measure t all nx sv = some v ∧ Rep all v f ∧ ∀ s ∈ all, (f s = -1 ∧ ∀ k, ¬ DsC t S k s) ∨ ∃ k : Nat, f s = k ∧ HtD t S k s := by
  have hlen := hc.len
  have hn1 := ht.n1
  unfold cyclic_measure
  rw [repeat_eq (-1) (List.length_pos_of_mem hc.cl.init) (by omega)]
  simp only [Option.bind_some]
  obtain ⟨v0, a1, f0, a2, a3⟩ := forR_inv (body := cyclic_measure_l1 t all) (n := (all.length : Int)) (s := List.replicate all.length (-1)) (fun j v => ∃ f, Rep all v f ∧ ∀ i s, ix all i = some s → (i < j → (GoalS t s → f s = 0) ∧ (¬ GoalS t s → f s = -1)) ∧ (j ≤ i → f s = -1)) (by omega) ⟨_, Rep.repl (-1), fun i s hi => ⟨fun h => by have := (ix_lo hi).1; omega, fun _ => rfl⟩⟩ (fun j v j0 j1 ⟨f, h1, h2⟩ => by
    obtain ⟨s, hs, _⟩ := ix_of (l := all) j0 j1
    have hset := hc.set (ix_mem hs)
    have hsl := hset.len
    unfold cyclic_measure_l1
    rw [hs]
    simp only [Option.bind_some, contains_eq hset.1 ht.goal.1 (show s.length ≤ 1000000 by omega), h1.get hs]
    by_cases hg : GoalS t s
    · rw [ifP (p := ∀ x ∈ t.goal, x ∈ s) hg]
      refine ⟨_, rfl, _, h1.set hc.ord hs 0, fun i z hz => ?_⟩
      by_cases e : i = j
      · subst e
        rw [hs] at hz; cases hz
        rw [upd_self]
        exact ⟨fun _ => ⟨fun _ => rfl, fun h => absurd hg h⟩, fun h => by omega⟩
      · rw [upd_ne (fun hz' => e (hc.ord.inj hz (by rw [hz']; exact hs)))]
        exact ⟨fun h => (h2 i z hz).1 (by omega), fun h => (h2 i z hz).2 (by omega)⟩
    · rw [ifN (p := ∀ x ∈ t.goal, x ∈ s) hg]
      refine ⟨_, rfl, _, h1, fun i z hz => ?_⟩
      by_cases e : i = j
      · subst e
        rw [hs] at hz; cases hz
        exact ⟨fun _ => ⟨fun h => absurd h hg, fun _ => (h2 i s hs).2 (Int.le_refl _)⟩, fun h => by omega⟩
      · exact ⟨fun h => (h2 i z hz).1 (by omega), fun h => (h2 i z hz).2 (by omega)⟩)
  rw [a1]
  simp only [Option.bind_some]
  have r0 : RankD t S all f0 0 := fun s hs => by
    obtain ⟨i, _, i1, hi⟩ := mem_ix hs
    have := (a3 i s hi).1 i1
    by_cases hg : GoalS t s
    · exact .inr ⟨0, Nat.le_refl _, this.1 hg, hg, fun j hj => by omega⟩
    · exact .inl ⟨this.2 hg, hg⟩
  obtain ⟨v, e1, f, L, e2, e3, e4⟩ := Loop_inv (body := cyclic_measure_l2 all nx sv) (fun x => ∃ f L, Rep all x.1 f ∧ x.2 = ((L : Nat) : Int) + 1 ∧ RankD t S all f L ∧ L ≤ all.length) (fun v => ∃ f L, Rep all v f ∧ RankD t S all f L ∧ all.length ≤ L) (fun x => (all.length + 2 - x.2).toNat) (s := (v0, 1)) ⟨f0, 0, a2, by simp, r0, by omega⟩ (fun ⟨v, layer⟩ ⟨f, L, h1, h2, h3, h4⟩ => by
    dsimp only at h1 h2 ⊢
    subst h2
    unfold cyclic_measure_l2
    dsimp only
    by_cases c : ((L : Nat) : Int) + 1 ≤ all.length
    · rw [if_pos c]
      obtain ⟨v', g1, f', g2, g3⟩ := forR_inv (body := cyclic_measure_l3 nx sv (((L : Nat) : Int) + 1)) (n := (all.length : Int)) (s := v) (fun j v' => ∃ f', Rep all v' f' ∧ ∀ i s, ix all i = some s → (i < j → (HtD t S (L + 1) s → f' s = ((L : Nat) : Int) + 1) ∧ (¬ HtD t S (L + 1) s → f' s = f s)) ∧ (j ≤ i → f' s = f s)) (by omega) ⟨f, h1, fun i s hi => ⟨fun h => by have := (ix_lo hi).1; omega, fun _ => rfl⟩⟩ (fun j v' j0 j1 ⟨f', q1, q2⟩ => by
        obtain ⟨s, hsj, _⟩ := ix_of (l := all) j0 j1
        have hsm := ix_mem hsj
        have same : ∀ y ∈ all, f' y = (L : Int) ↔ f y = L := fun y hy => by
          obtain ⟨i, _, _, hi⟩ := mem_ix hy
          have b := q2 i y hi
          by_cases ci : i < j
          · by_cases hh : HtD t S (L + 1) y
            · have := (h3.fresh hc hy).1 hh
              rw [(b.1 ci).1 hh]; omega
            · rw [(b.1 ci).2 hh]
          · rw [b.2 (by omega)]
        have hfs : f' s = f s := (q2 j s hsj).2 (Int.le_refl _)
        obtain ⟨r, r1, r2⟩ := measureR ht hc hn hs q1 (layer := ((L : Nat) : Int) + 1) (by omega) hsj
        have hst : StepC t S f' s (((L : Nat) : Int) + 1 - 1) ↔ StepC t S f s L := by
          rw [show ((L : Nat) : Int) + 1 - 1 = L by omega]
          constructor
          · rintro ⟨op, o1, o2, o3, y, hy, e⟩; exact ⟨op, o1, o2, o3, y, hy, (same y (hc.sc hsm o1 o2 hy)).1 e⟩
          · rintro ⟨op, o1, o2, o3, y, hy, e⟩; exact ⟨op, o1, o2, o3, y, hy, (same y (hc.sc hsm o1 o2 hy)).2 e⟩
        unfold cyclic_measure_l3
        rw [q1.get hsj, hs.get hsj]
        simp only [Option.bind_some]
        have key : (if 0 ≤ f' s then some true else some (decide (sfl S s = 0))) = some (dec (¬ (f s < 0 ∧ S s))) := by
          rw [hfs]
          by_cases c1 : 0 ≤ f s
          · rw [if_pos c1, dec_of (fun h => by omega)]
          · rw [if_neg c1]
            by_cases c2 : S s
            · rw [sfl_pos c2, dec_no (fun h => h ⟨by omega, c2⟩)]; rfl
            · rw [sfl_neg c2, dec_of (fun h => c2 h.2)]; rfl
        rw [key]
        simp only [Option.bind_some]
        have keep : ∀ f'' : List Int → Int, (∀ z ∈ all, z ≠ s → f'' z = f' z) → ((HtD t S (L + 1) s → f'' s = ((L : Nat) : Int) + 1) ∧ (¬ HtD t S (L + 1) s → f'' s = f s)) → ∀ i z, ix all i = some z → (i < j + 1 → (HtD t S (L + 1) z → f'' z = ((L : Nat) : Int) + 1) ∧ (¬ HtD t S (L + 1) z → f'' z = f z)) ∧ (j + 1 ≤ i → f'' z = f z) := fun f'' k1 k2 i z hz => by
          by_cases e : i = j
          · subst e
            rw [hsj] at hz; cases hz
            exact ⟨fun _ => k2, fun h => by omega⟩
          · have hne : z ≠ s := fun hz' => e (hc.ord.inj hz (by rw [hz']; exact hsj))
            rw [k1 z (ix_mem hz) hne]
            exact ⟨fun h => (q2 i z hz).1 (by omega), fun h => (q2 i z hz).2 (by omega)⟩
        by_cases cs : f s < 0 ∧ S s
        · rw [ifNN cs, r1]
          simp only [Option.bind_some, r2]
          rw [dec_congr hst]
          by_cases ch : StepC t S f s L
          · rw [ifP ch]
            have hh := (h3.fresh hc hsm).2 ⟨cs.1, cs.2, ch⟩
            exact ⟨_, rfl, _, q1.set hc.ord hsj _, keep _ (fun z _ hne => upd_ne hne) ⟨fun _ => upd_self, fun h => absurd hh h⟩⟩
          · rw [ifN ch]
            have hh : ¬ HtD t S (L + 1) s := fun h => ch ((h3.fresh hc hsm).1 h).2.2
            exact ⟨_, rfl, _, q1, keep _ (fun z _ _ => rfl) ⟨fun h => absurd h hh, fun _ => hfs⟩⟩
        · rw [ifP cs]
          have hh : ¬ HtD t S (L + 1) s := fun h => cs ⟨((h3.fresh hc hsm).1 h).1, ((h3.fresh hc hsm).1 h).2.1⟩
          exact ⟨_, rfl, _, q1, keep _ (fun z _ _ => rfl) ⟨fun h => absurd h hh, fun _ => hfs⟩⟩)
      rw [g1]
      simp only [Option.bind_some]
      rw [w64_of (by omega) (by omega)]
      refine .inl ⟨_, rfl, ⟨f', L + 1, g2, by dsimp only; omega, fun s hsm => ?_, by omega⟩, by dsimp only; omega⟩
      obtain ⟨i, _, i1, hi⟩ := mem_ix hsm
      have b := (g3 i s hi).1 i1
      by_cases hh : HtD t S (L + 1) s
      · exact .inr ⟨L + 1, Nat.le_refl _, by rw [b.1 hh]; omega, hh⟩
      · rcases h3 s hsm with ⟨q1, q2⟩ | ⟨k, q0, q1, q2⟩
        · exact .inl ⟨by rw [b.2 hh]; exact q1, fun hd => hh (.of_not hd q2)⟩
        · exact .inr ⟨k, by omega, by rw [b.2 hh]; exact q1, q2⟩
    · rw [if_neg c]
      exact .inr ⟨_, rfl, f, L, h1, h3, by omega⟩)
  rw [e1]
  refine ⟨v, f, rfl, e2, fun s hsm => ?_⟩
  rcases e3 s hsm with ⟨q1, q2⟩ | ⟨k, _, q1, q2⟩
  · refine .inl ⟨q1, fun k hk => q2 ?_⟩
    obtain ⟨m, _, hm⟩ := HtD.of_dn hk
    have := hm.lt hc hsm
    exact hm.1.mono (by omega)
  · exact .inr ⟨k, q1, q2⟩
/-- A set each state of which has a way to the goal within it. -/
def PostF (t : TOpenTask) (all : List (List Int)) (T : List Int → Prop) : Prop := ∀ s, T s → s ∈ all ∧ ∃ k, DsC t T k s
def Sd (all : List (List Int)) (f : List Int → Int) (s : List Int) : Prop := s ∈ all ∧ 0 ≤ f s
/-- Distances among the states from which the goal stays reachable. -/
structure CertV (t : TOpenTask) (all : List (List Int)) (f : List Int → Int) : Prop where
  val : ∀ s ∈ all, (f s = -1 ∧ ∀ k, ¬ DsC t (Sd all f) k s) ∨ ∃ k : Nat, f s = k ∧ HtD t (Sd all f) k s
  gr : ∀ T, PostF t all T → ∀ s, T s → 0 ≤ f s
theorem CertV.post {f : List Int → Int} (h : CertV t all f) : PostF t all (Sd all f) := fun s hs => by
  refine ⟨hs.1, ?_⟩
  rcases h.val s hs.1 with ⟨e, _⟩ | ⟨k, _, hk⟩
  · have := hs.2; omega
  · exact ⟨k, hk.1⟩
theorem CertV.lt (hc : ClO t all) {f : List Int → Int} (h : CertV t all f) {s : List Int} (hs : s ∈ all) : f s < all.length := by
  rcases h.val s hs with ⟨e, _⟩ | ⟨k, e, hk⟩
  · omega
  · have := hk.lt hc hs; omega
theorem distances_eq (ht : OTaskOk t) (hc : ClO t all) : ∃ v f, cyclic_Distances t all = some v ∧ Rep all v f ∧ CertV t all f := by
  have hlen := hc.len
  unfold cyclic_Distances
  obtain ⟨nx, n1, n2⟩ := arcs_eq ht hc
  rw [n1]
  simp only [Option.bind_some]
  rw [repeat_eq 1 (List.length_pos_of_mem hc.cl.init) (by omega)]
  simp only [Option.bind_some]
  obtain ⟨v, e1, f, e2, e3⟩ := Loop_inv (body := cyclic_Distances_l1 t all nx) (fun x => ∃ S : List Int → Prop, (∀ s, S s → s ∈ all) ∧ Rep all x (sfl S) ∧ (∀ s ∈ all, GoalS t s → S s) ∧ ∀ T, PostF t all T → ∀ s, T s → S s) (fun v => ∃ f, Rep all v f ∧ CertV t all f) sumN (s := List.replicate all.length 1) ⟨fun s => s ∈ all, fun s h => h, (Rep.repl 1).congr fun s hs => (sfl_pos hs).symm, fun s hs _ => hs, fun T hT s hs => (hT s hs).1⟩ (fun sv ⟨S, s1, s2, s3, s4⟩ => by
    obtain ⟨d, f, d1, d2, d3⟩ := measure_eq ht hc n2 s2
    have sub : ∀ s ∈ all, 0 ≤ f s → S s := fun s hs hf => by
      rcases d3 s hs with ⟨e, _⟩ | ⟨k, _, hk⟩
      · omega
      · cases k with
        | zero => exact s3 s hs hk.1
        | succ k => exact hk.step.2.1
    unfold cyclic_Distances_l1
    rw [d1]
    simp only [Option.bind_some]
    rw [d2.len]
    obtain ⟨⟨sv', b⟩, g1, g2, g3, g4, g5⟩ := forR_inv (body := cyclic_Distances_l2 d) (n := (all.length : Int)) (s := (sv, true)) (fun j x => x.1.length = all.length ∧ (∀ i s, ix all i = some s → ix x.1 i = some (if i < j then sfl (Sd all f) s else sfl S s)) ∧ (x.2 = dec (∀ i s, i < j → ix all i = some s → (0 ≤ f s ↔ S s))) ∧ sumN x.1 + (if x.2 = true then 0 else 1) ≤ sumN sv) (by omega) ⟨s2.len, fun i s hi => by rw [if_neg (by have := (ix_lo hi).1; omega)]; exact s2.get hi, (dec_of fun i s hi h => by have := (ix_lo h).1; omega).symm, by simp⟩ (fun j ⟨x, bx⟩ j0 j1 ⟨q1, q2, q3, q4⟩ => by
      dsimp only at q1 q2 q3 q4 ⊢
      obtain ⟨s, hs, _⟩ := ix_of (l := all) j0 j1
      have hsm := ix_mem hs
      have hfl : f s ≤ all.length ∧ -1 ≤ f s := by
        rcases d3 s hsm with ⟨e, _⟩ | ⟨k, e, hk⟩
        · omega
        · have := hk.lt hc hsm; omega
      have hx := q2 j s hs
      rw [if_neg (by omega)] at hx
      unfold cyclic_Distances_l2
      dsimp only
      rw [d2.get hs, hx]
      simp only [Option.bind_some]
      rw [w64_of (by omega) (by omega)]
      have hmin : min 1 (f s + 1) = sfl (Sd all f) s := by
        by_cases c : 0 ≤ f s
        · rw [sfl_pos ⟨hsm, c⟩]; omega
        · rw [sfl_neg (fun h => c h.2)]; omega
      have key : (if bx = true then some (decide ((decide (0 ≤ f s)) = (decide (0 < sfl S s)))) else some false) = some (dec (∀ i s, i < j + 1 → ix all i = some s → (0 ≤ f s ↔ S s))) := by
        have h2 : (decide ((decide (0 ≤ f s)) = (decide (0 < sfl S s)))) = dec (0 ≤ f s ↔ S s) := by
          have : decide (0 < sfl S s) = dec (S s) := by
            by_cases c : S s
            · rw [sfl_pos c, dec_of c]; rfl
            · rw [sfl_neg c, dec_no c]; rfl
          rw [this, decide_dec (p := 0 ≤ f s), decide_dec]
          exact dec_congr dec_inj
        by_cases cb : bx = true
        · rw [if_pos cb, h2]
          congr 1
          rw [cb] at q3
          have h3 := dec_true.1 q3.symm
          refine dec_congr ⟨fun h i z hi hz => ?_, fun h => h j s (by omega) hs⟩
          by_cases e : i = j
          · subst e; rw [hs] at hz; cases hz; exact h
          · exact h3 i z (by omega) hz
        · rw [if_neg cb, dec_no]
          intro h
          exact cb (by rw [q3]; exact dec_of fun i z hi hz => h i z (by omega) hz)
      rw [key]
      simp only [Option.bind_some]
      rw [hmin]
      refine ⟨_, rfl, by rw [List.length_set]; exact q1, fun i z hz => ?_, rfl, ?_⟩
      · rw [ix_put j0 (by omega) (ix_lo hz).1]
        by_cases e : i = j
        · subst e
          rw [hs] at hz; cases hz
          rw [if_pos rfl, if_pos (by omega)]
        · rw [if_neg e, q2 i z hz]
          congr 1
          by_cases c : i < j
          · rw [if_pos c, if_pos (by omega)]
          · rw [if_neg c, if_neg (by omega)]
      · dsimp only
        have hxg := (ix_lo hx).2.2
        by_cases ca : (∀ i s, i < j + 1 → ix all i = some s → (0 ≤ f s ↔ S s))
        · rw [if_pos (dec_of ca)]
          have hbx : bx = true := by rw [q3]; exact dec_of fun i z hi hz => ca i z (by omega) hz
          rw [if_pos hbx] at q4
          have e : sfl (Sd all f) s = sfl S s := by
            have := ca j s (by omega) hs
            by_cases c : S s
            · rw [sfl_pos c, sfl_pos ⟨hsm, this.2 c⟩]
            · rw [sfl_neg c, sfl_neg (fun h => c (this.1 h.2))]
          rw [e]
          have := sumN_le (x := sfl S s) hxg (by unfold sfl; split <;> omega) (Int.le_refl _)
          omega
        · rw [if_neg (by rw [dec_no ca]; simp)]
          by_cases hbx : bx = true
          · rw [if_pos hbx] at q4
            -- it is here that they differ
            have hd : ¬ (0 ≤ f s ↔ S s) := fun h => ca fun i z hi hz => by
              by_cases e : i = j
              · subst e; rw [hs] at hz; cases hz; exact h
              · exact dec_true.1 (q3.symm.trans hbx) i z (by omega) hz
            have h1 : ¬ 0 ≤ f s := fun h => hd ⟨fun _ => sub s hsm h, fun _ => h⟩
            have h2 : S s := Classical.byContradiction fun h => hd ⟨fun h' => absurd h' h1, fun h' => absurd h' h⟩
            have := sumN_set (x := sfl (Sd all f) s) hxg (by unfold sfl; split <;> omega) (by rw [sfl_pos h2, sfl_neg (fun h => h1 h.2)]; omega)
            omega
          · rw [if_neg hbx] at q4
            have := sumN_le (x := sfl (Sd all f) s) hxg (by unfold sfl; split <;> omega) (by
              by_cases c : 0 ≤ f s
              · rw [sfl_pos ⟨hsm, c⟩, sfl_pos (sub s hsm c)]; exact Int.le_refl _
              · rw [sfl_neg (fun h => c h.2)]; unfold sfl; split <;> omega)
            omega)
    rw [g1]
    simp only [Option.bind_some]
    dsimp only at g2 g3 g4 g5
    by_cases cb : b = true
    · rw [if_pos cb]
      rw [cb] at g4
      have h4 := dec_true.1 g4.symm
      have e : S = Sd all f := funext fun s => propext ⟨fun h => by
        have hm := s1 s h
        obtain ⟨i, _, i1, hi⟩ := mem_ix hm
        exact ⟨hm, (h4 i s i1 hi).2 h⟩, fun h => by
        obtain ⟨i, _, i1, hi⟩ := mem_ix h.1
        exact (h4 i s i1 hi).1 h.2⟩
      refine .inr ⟨d, rfl, f, d2, ⟨by rw [e] at d3; exact d3, fun T hT s hs => ?_⟩⟩
      have := s4 T hT s hs
      rw [e] at this
      exact this.2
    · rw [if_neg cb]
      rw [if_neg cb] at g5
      refine .inl ⟨sv', rfl, ⟨Sd all f, fun s h => h.1, ⟨g2, fun {i s} hi => by rw [g3 i s hi, if_pos (ix_lo hi).2.1]⟩, fun s hs hg => ⟨hs, ?_⟩, fun T hT s hs => ⟨(hT s hs).1, ?_⟩⟩, by omega⟩
      · rcases d3 s hs with ⟨_, e⟩ | ⟨k, e, _⟩
        · exact absurd (DsC.goal hg) (e 0)
        · omega
      · obtain ⟨hm, k, hk⟩ := hT s hs
        rcases d3 s hm with ⟨_, e⟩ | ⟨k, e, _⟩
        · exact absurd (hk.sub (s4 T hT)) (e k)
        · omega)
  rw [e1]
  exact ⟨v, f, rfl, e2, e3⟩
end
end Ab
end
section
namespace Ab
open Go
section
variable {t : TOpenTask} {all : List (List Int)}
/-- An operator that leads to states with distances only, one of them nearer. -/
def CycP (t : TOpenTask) (f : List Int → Int) (s : List Int) (op : Int) : Prop := ((0 ≤ op ∧ op < t.operators.length) ∧ oCan t s op) ∧ (∀ y ∈ sc t s op, 0 ≤ f y) ∧ ∃ y ∈ sc t s op, f y = f s - 1
def FirstC (t : TOpenTask) (f : List Int → Int) (s : List Int) (b : Int) : Prop := CycP t f s b ∧ ∀ op, 0 ≤ op → op < b → ¬ CycP t f s op
theorem cycChoice (ht : OTaskOk t) (hc : ClO t all) {v : List Int} {f : List Int → Int} (hv : Rep all v f) (hb : ∀ s ∈ all, -1 ≤ f s ∧ f s ≤ 100000) {s : List Int} (hs : s ∈ all) :
    ∃ b, cyclic_Policy_1 s v all t = some b ∧ ((b = -1 ∧ ∀ op, ¬ CycP t f s op) ∨ FirstC t f s b) := by
  have hlen := hc.len
  have hset := hc.set hs
  obtain ⟨i, hi, hvi⟩ := hv.of hs
  have hbs := hb s hs
  unfold cyclic_Policy_1
  rw [find_eq hc.ord (by omega) hi]
  simp only [Option.bind_some, hvi]
  have one : ∀ op : Int, 0 ≤ op → op < t.operators.length → cyclic_Policy_1_l1 s v all t (f s) op () = some (match (if dec (CycP t f s op) = true then some op else none) with | none => .inl () | some o => .inr o) := fun op o0 o1 => by
    unfold cyclic_Policy_1_l1
    rw [oCan_eq ht o0 o1 hset]
    simp only [Option.bind_some, dec_not]
    unfold cyclic_Policy_1_j2
    by_cases cc : oCan t s op
    · rw [ifNN cc]
      obtain ⟨st, ws, q1, _, q3, _⟩ := oResults_eq ht o0 o1 hset
      have hst : ∀ y, y ∈ st ↔ y ∈ sc t s op := fun y => by rw [q3, sc, List.mem_map]
      rw [q1]
      simp only [Option.bind_some]
      obtain ⟨⟨sure, near⟩, g1, g2, g3⟩ := forR_inv (body := cyclic_Policy_1_l3 v all (f s) (st, ws)) (n := (st.length : Int)) (s := (true, false)) (fun j x => x.1 = dec (∀ k y, k < j → ix st k = some y → 0 ≤ f y) ∧ x.2 = dec (∃ k y, k < j ∧ ix st k = some y ∧ f y = f s - 1)) (by omega) ⟨(dec_of fun k y hk h => by have := (ix_lo h).1; omega).symm, (dec_no (by rintro ⟨k, y, hk, h, _⟩; have := (ix_lo h).1; omega)).symm⟩ (fun j ⟨sure, near⟩ j0 j1 ⟨a1, a2⟩ => by
        dsimp only at a1 a2
        obtain ⟨y, hy, _⟩ := ix_of (l := st) j0 j1
        obtain ⟨z, hz, hvz⟩ := hv.of (hc.sc hs ⟨o0, o1⟩ cc ((hst y).1 (ix_mem hy)))
        unfold cyclic_Policy_1_l3
        dsimp only
        rw [hy]
        simp only [Option.bind_some, find_eq hc.ord (show all.length ≤ 500000 by omega) hz, hvz]
        rw [w64_of (by omega) (by omega)]
        have e1 : dec (∀ k y, k < j + 1 → ix st k = some y → 0 ≤ f y) = (sure && decide (0 ≤ f y)) := by
          rw [a1, decide_dec, dec_and]
          refine dec_congr ⟨fun h => ⟨fun k z hk hz => h k z (by omega) hz, h j y (by omega) hy⟩, fun ⟨h1, h2⟩ k z hk hz => ?_⟩
          by_cases e : k = j
          · subst e; rw [hy] at hz; cases hz; exact h2
          · exact h1 k z (by omega) hz
        have e2 : dec (∃ k y, k < j + 1 ∧ ix st k = some y ∧ f y = f s - 1) = (near || decide (f y = f s - 1)) := by
          rw [a2, decide_dec, dec_or]
          refine dec_congr ⟨fun ⟨k, z, hk, hz, e⟩ => ?_, ?_⟩
          · by_cases ek : k = j
            · subst ek; rw [hy] at hz; cases hz; exact .inr e
            · exact .inl ⟨k, z, by omega, hz, e⟩
          · rintro (⟨k, z, hk, hz, e⟩ | e)
            · exact ⟨k, z, by omega, hz, e⟩
            · exact ⟨j, y, by omega, hy, e⟩
        rw [e1, e2]
        cases sure <;> cases near <;> simp)
      rw [g1]
      simp only [Option.bind_some]
      dsimp only at g2 g3
      have e : (sure && near) = dec (CycP t f s op) := by
        rw [g2, g3, dec_and]
        refine dec_congr ⟨fun ⟨h1, k, y, _, hy, e⟩ => ⟨⟨⟨o0, o1⟩, cc⟩, fun z hz => ?_, y, (hst y).1 (ix_mem hy), e⟩, fun ⟨_, h1, y, hy, e⟩ => ⟨fun k z _ hz => h1 z ((hst z).1 (ix_mem hz)), ?_⟩⟩
        · obtain ⟨q, _, q1, hq⟩ := mem_ix ((hst z).2 hz)
          exact h1 q z q1 hq
        · obtain ⟨q, _, q1, hq⟩ := mem_ix ((hst y).2 hy)
          exact ⟨q, y, q1, hq, e⟩
      rw [e]
      by_cases h : CycP t f s op
      · rw [ifP h, ifP h]
      · rw [ifN h, ifN h]
    · rw [ifP cc, ifN (fun h => cc h.1.2)]
  rcases rngX_test (body := cyclic_Policy_1_l1 s v all t (f s)) (n := (t.operators.length : Int)) (fun op => if dec (CycP t f s op) = true then some op else none) (by omega) (fun op o0 o1 _ => by
    rw [one op o0 o1]
    by_cases h : CycP t f s op
    · rw [ifP h]
    · rw [ifN h]) with ⟨h1, h2⟩ | ⟨op, o, o0, o1, h2, h3, h4⟩
  · rw [h1]
    refine ⟨-1, rfl, .inl ⟨rfl, fun op h => ?_⟩⟩
    have := h2 op h.1.1.1 h.1.1.2
    rw [ifP h] at this; cases this
  · rw [h4]
    split at h2
    · rename_i e
      cases h2
      refine ⟨op, rfl, .inr ⟨dec_true.1 e, fun q q0 q1 h => ?_⟩⟩
      have := h3 q q0 q1
      rw [ifP h] at this; cases this
    · cases h2
theorem CertV.bnd (hc : ClO t all) {f : List Int → Int} (h : CertV t all f) : ∀ s ∈ all, -1 ≤ f s ∧ f s ≤ 100000 := fun s hs => by
  have := h.lt hc hs
  have := hc.len
  rcases h.val s hs with ⟨e, _⟩ | ⟨k, e, _⟩ <;> omega
theorem CertV.has (hc : ClO t all) {f : List Int → Int} (h : CertV t all f) {s : List Int} (hs : s ∈ all) (hf : 0 ≤ f s) (hg : ¬ GoalS t s) : ∃ op, CycP t f s op := by
  rcases h.val s hs with ⟨e, _⟩ | ⟨k, e, hk⟩
  · omega
  · cases k with
    | zero => exact absurd hk.1 hg
    | succ k =>
      obtain ⟨_, _, op, h1, h2, h3, y, hy, h4⟩ := hk.step
      refine ⟨op, ⟨h1, h2⟩, fun z hz => (h3 z hz).2, y, hy, ?_⟩
      rcases h.val y (h3 y hy).1 with ⟨_, q⟩ | ⟨m, q, hm⟩
      · exact absurd h4.1 (q k)
      · rw [q, hm.unique h4]; omega
/-- What Policy answers. -/
theorem cpolicy_spec (ht : OTaskOk t) : (open_Reach t = some ([], false) ∧ ref8_Reached t 2000 = some ([], false) ∧ cyclic_Policy t = some ([], false, ⟨10, -7⟩)) ∨ ∃ all v f, open_Reach t = some (all, true) ∧ ref8_Reached t 2000 = some (all, true) ∧ ClO t all ∧ Rep all v f ∧ CertV t all f ∧
    ((f t.init = -1 ∧ cyclic_Policy t = some ([], false, ⟨0, 0⟩)) ∨ ∃ ch, ChOk t ch ∧ (∀ s, RchC t ch s → s ∈ all ∧ 0 ≤ f s) ∧ (∀ s, RchC t ch s → ¬ GoalS t s → FirstC t f s (ch s)) ∧
      ((cyclic_Policy t = some ([], false, ⟨10, -8⟩) ∧ ∃ l : List (List Int), l.Nodup ∧ (∀ s ∈ l, RchC t ch s ∧ ¬ GoalS t s) ∧ l.length = 201) ∨ ∃ p, cyclic_Policy t = some (p, true, ⟨0, 0⟩) ∧ PolB t ch p ∧ p.length ≤ 200)) := by
  unfold cyclic_Policy
  rw [explore_ok ht]
  rcases reach_full ht with ⟨all, q1, q2, q3, q4, _⟩ | ⟨q1, q2⟩
  · right
    have hc : ClO t all := ⟨q3, q4⟩
    have hlen := hc.len
    obtain ⟨v, f, r1, r2, r3⟩ := distances_eq ht hc
    obtain ⟨i, hi, hvi⟩ := r2.of q3.init
    refine ⟨all, v, f, q1, q2, hc, r2, r3, ?_⟩
    rw [q1]
    simp only [Option.bind_some, if_true]
    rw [if_neg (by simp), r1]
    simp only [Option.bind_some, find_eq q4 (show all.length ≤ 500000 by omega) hi, hvi]
    by_cases cf : f t.init < 0
    · rw [if_pos cf]
      refine .inl ⟨?_, rfl⟩
      have := (r3.bnd hc _ q3.init).1; omega
    · rw [if_neg cf]
      right
      have step : ∀ s, s ∈ all → 0 ≤ f s → ¬ GoalS t s → ∃ b, cyclic_Policy_1 s v all t = some b ∧ FirstC t f s b := fun s hs hf hg => by
        obtain ⟨b, b1, b2⟩ := cycChoice ht hc r2 (r3.bnd hc) hs
        refine ⟨b, b1, ?_⟩
        rcases b2 with ⟨_, b2⟩ | b2
        · obtain ⟨op, ho⟩ := r3.has hc hs hf hg
          exact absurd ho (b2 op)
        · exact b2
      have inv : ∀ s, RchC t (fun s => (cyclic_Policy_1 s v all t).getD (-1)) s → s ∈ all ∧ 0 ≤ f s := fun s hs => by
        induction hs with
        | init => exact ⟨q3.init, by omega⟩
        | @step s y _ hg hy ih =>
          obtain ⟨b, b1, b2⟩ := step s ih.1 ih.2 hg
          have e : (cyclic_Policy_1 s v all t).getD (-1) = b := by rw [b1]; rfl
          unfold nxC at hy
          dsimp only at hy
          rw [e] at hy
          exact ⟨hc.sc ih.1 b2.1.1.1 b2.1.1.2 hy, b2.1.2.1 y hy⟩
      have hk : ChOk t (fun s => (cyclic_Policy_1 s v all t).getD (-1)) := fun s hs hg => by
        obtain ⟨b, b1, b2⟩ := step s (inv s hs).1 (inv s hs).2 hg
        dsimp only
        rw [b1]; exact b2.1.1
      refine ⟨_, hk, inv, fun s hs hg => ?_, ?_⟩
      · obtain ⟨b, b1, b2⟩ := step s (inv s hs).1 (inv s hs).2 hg
        have e : (cyclic_Policy_1 s v all t).getD (-1) = b := by rw [b1]; rfl
        exact (show FirstC t f s ((cyclic_Policy_1 s v all t).getD (-1)) by rw [e]; exact b2)
      · obtain ⟨r, p1, p2⟩ := build_prog ht hk (choose := fun y1 => cyclic_Policy_1 y1 v all t) (fun s hs hg => by
          obtain ⟨b, b1, _⟩ := step s (inv s hs).1 (inv s hs).2 hg
          show cyclic_Policy_1 s v all t = some ((cyclic_Policy_1 s v all t).getD (-1))
          rw [b1]; rfl)
        rw [p1]
        rcases p2 with ⟨rfl, p2⟩ | ⟨p, rfl, p2⟩
        · exact .inl ⟨rfl, p2⟩
        · exact .inr ⟨p, rfl, p2⟩
  · left
    rw [q1]
    exact ⟨rfl, q2, rfl⟩
theorem cpolicy_bad {f : TFault} (hv : open_Validate t = some f) (hc : f.code ≠ 0) : cyclic_Policy t = some ([], false, f) := by
  unfold cyclic_Policy
  rw [explore_bad hv hc]
  simp only [Option.bind_some]
  rw [if_pos (fault_no hc)]
end
section
variable {t : TOpenTask} {p : List TChoice}
/-- The goal can be reached in k steps under a policy. -/
def RkP (t : TOpenTask) (p : List TChoice) : Nat → List Int → Prop
  | 0, s => GoalS t s
  | k + 1, s => GoalS t s ∨ (LiveS p s ∧ ∃ y ∈ nxS t p s, RkP t p k y)
theorem RkP.goal {k : Nat} {s : List Int} (h : GoalS t s) : RkP t p k s := by
  cases k with
  | zero => exact h
  | succ k => exact .inl h
theorem RkP.succ : ∀ {k : Nat} {s : List Int}, RkP t p k s → RkP t p (k + 1) s
  | 0, s, h => .inl h
  | k + 1, s, h => by
    rcases h with h | ⟨h1, y, hy, h2⟩
    · exact .inl h
    · exact .inr ⟨h1, y, hy, h2.succ⟩
theorem RkP.mono {k m : Nat} {s : List Int} (h : RkP t p k s) (hm : k ≤ m) : RkP t p m s := by
  induction hm with
  | refl => exact h
  | step _ ih => exact ih.succ
def HtR (t : TOpenTask) (p : List TChoice) (k : Nat) (s : List Int) : Prop := RkP t p k s ∧ ∀ j, j < k → ¬ RkP t p j s
theorem HtR.unique {k m : Nat} {s : List Int} (h : HtR t p k s) (h' : HtR t p m s) : k = m := by
  rcases Nat.lt_trichotomy k m with c | c | c
  · exact absurd h.1 (h'.2 k c)
  · exact c
  · exact absurd h'.1 (h.2 m c)
theorem HtR.of_dn : ∀ {k : Nat} {s : List Int}, RkP t p k s → ∃ m, m ≤ k ∧ HtR t p m s
  | 0, s, h => ⟨0, Nat.le_refl _, h, fun j hj => by omega⟩
  | k + 1, s, h => by
    by_cases c : RkP t p k s
    · obtain ⟨m, h1, h2⟩ := HtR.of_dn c
      exact ⟨m, by omega, h2⟩
    · exact ⟨k + 1, Nat.le_refl _, h, fun j hj hd => c (hd.mono (by omega))⟩
theorem HtR.chain {l : List (List Int)} (hv : Vis t p l) : ∀ {k : Nat} {s : List Int}, s ∈ l → HtR t p k s → ∃ c : List (List Int), c.length = k + 1 ∧ c.Nodup ∧ ∀ x ∈ c, x ∈ l ∧ ∃ j, j ≤ k ∧ HtR t p j x
  | 0, s, hs, h => ⟨[s], rfl, by simp, fun x hx => by rw [List.mem_singleton.1 hx]; exact ⟨hs, 0, Nat.le_refl _, h⟩⟩
  | k + 1, s, hs, h => by
    have hg : ¬ GoalS t s := fun g => h.2 0 (by omega) g
    rcases h.1 with g | ⟨hl, y, hy, h4⟩
    · exact absurd g hg
    have h5 : HtR t p k y := ⟨h4, fun j hj hd => h.2 (j + 1) (by omega) (.inr ⟨hl, y, hy, hd⟩)⟩
    obtain ⟨c, c1, c2, c3⟩ := HtR.chain hv (hv.closed s hs hg hl y hy) h5
    refine ⟨s :: c, by simp [c1], List.nodup_cons.2 ⟨fun hm => ?_, c2⟩, fun x hx => ?_⟩
    · obtain ⟨_, j, j1, j2⟩ := c3 s hm
      have := j2.unique h; omega
    · rcases List.mem_cons.1 hx with rfl | hx
      · exact ⟨hs, k + 1, Nat.le_refl _, h⟩
      · obtain ⟨q0, j, q1, q2⟩ := c3 x hx
        exact ⟨q0, j, by omega, q2⟩
theorem HtR.lt {l : List (List Int)} (hv : Vis t p l) {k : Nat} {s : List Int} (hs : s ∈ l) (h : HtR t p k s) : k < l.length := by
  obtain ⟨c, c1, c2, c3⟩ := h.chain hv hs
  have := nodup_len c2 fun x hx => (c3 x hx).1
  omega
structure CanOk (t : TOpenTask) (p : List TChoice) (l : List (List Int)) (f : List Int → Int) : Prop where
  b : ∀ s ∈ l, f s = 0 ∨ f s = 1
  ok : ∀ s ∈ l, f s = 1 → ∃ k, RkP t p k s
/-- One state. -/
theorem holds2 (ht : OTaskOk t) (hp : PolOk t p) {l : List (List Int)} (hv : Vis t p l) {i : Int} {s : List Int} (hs : ix l i = some s) {c : List Int} {f : List Int → Int} (hr : Rep l c f) (hk : CanOk t p l f) :
    (cyclic_Holds_l2 t p l i c = some (.inr false) ∧ ¬ GoalS t s ∧ ¬ LiveS p s) ∨ ∃ c' f', cyclic_Holds_l2 t p l i c = some (.inl c') ∧ Rep l c' f' ∧ CanOk t p l f' ∧ (∀ z ∈ l, f z ≤ f' z) ∧ (GoalS t s → f' s = 1) ∧ (LiveS p s → ∀ y ∈ nxS t p s, f y = 1 → f' s = 1) := by
  have hsm := ix_mem hs
  have hset := ((hv.mem s).1 hsm).set ht
  have hsl := hset.len
  have hn := ht.n1
  have hlen := hv.len ht hp
  unfold cyclic_Holds_l2
  rw [hs]
  simp only [Option.bind_some, contains_eq hset.1 ht.goal.1 (show s.length ≤ 1000000 by omega)]
  unfold cyclic_Holds_j3
  by_cases hg : GoalS t s
  · rw [ifP (p := ∀ x ∈ t.goal, x ∈ s) hg, hr.get hs]
    simp only [Option.bind_some]
    refine .inr ⟨_, _, rfl, hr.set hv.ord hs 1, ⟨fun z hz => ?_, fun z hz hf => ?_⟩, fun z hz => ?_, fun _ => upd_self, fun _ _ _ _ => upd_self⟩
    · by_cases e : z = s
      · subst e; exact .inr upd_self
      · rw [upd_ne e]; exact hk.b z hz
    · by_cases e : z = s
      · subst e; exact ⟨0, hg⟩
      · rw [upd_ne e] at hf; exact hk.ok z hz hf
    · by_cases e : z = s
      · subst e; rw [upd_self]; rcases hk.b z hz with h | h <;> omega
      · rw [upd_ne e]; exact Int.le_refl _
  · rw [ifN (p := ∀ x ∈ t.goal, x ∈ s) hg, (chosen_chO hp s).1]
    simp only [Option.bind_some]
    by_cases hl : chO p s < 0
    · rw [if_pos hl]
      exact .inl ⟨rfl, hg, fun h => by unfold LiveS at h; omega⟩
    · rw [if_neg hl]
      have hlive : LiveS p s := by unfold LiveS; omega
      have ho := live_op hp hlive
      obtain ⟨st, w, r1, _, r3, _⟩ := oResults_eq ht ho.1.1 ho.1.2 hset
      have hst : ∀ y, y ∈ st ↔ y ∈ nxS t p s := fun y => by rw [r3, nxS, List.mem_map]
      rw [r1]
      simp only [Option.bind_some]
      obtain ⟨c', g1, f', g2, g3, g4, g5, g6⟩ := forR_inv (body := cyclic_Holds_l4 l i (st, w)) (n := (st.length : Int)) (s := c) (fun j x => ∃ f', Rep l x f' ∧ CanOk t p l f' ∧ (∀ z ∈ l, f z ≤ f' z) ∧ (∀ z ∈ l, z ≠ s → f' z = f z) ∧ ∀ k y, k < j → ix st k = some y → f y = 1 → f' s = 1) (by omega) ⟨f, hr, hk, fun z _ => Int.le_refl _, fun z _ _ => rfl, fun k y hk2 h => by have := (ix_lo h).1; omega⟩ (fun j x j0 j1 ⟨f', q1, q2, q3, q4, q5⟩ => by
        obtain ⟨y, hy, _⟩ := ix_of (l := st) j0 j1
        have hyn := (hst y).1 (ix_mem hy)
        have hyl := hv.closed s hsm hg hlive y hyn
        obtain ⟨z, hz, hzv⟩ := q1.of hyl
        unfold cyclic_Holds_l4
        dsimp only
        rw [hy]
        simp only [Option.bind_some, q1.get hs, find_eq hv.ord (show l.length ≤ 500000 by omega) hz, hzv]
        have bs := q2.b s hsm
        have by' := q2.b y hyl
        refine ⟨_, rfl, _, q1.set hv.ord hs _, ⟨fun z' hz' => ?_, fun z' hz' hf => ?_⟩, fun z' hz' => ?_, fun z' hz' hne => ?_, fun k y' hk2 hy' hf => ?_⟩
        · by_cases e : z' = s
          · subst e; rw [upd_self]; omega
          · rw [upd_ne e]; exact q2.b z' hz'
        · by_cases e : z' = s
          · subst e
            rw [upd_self] at hf
            by_cases c1 : f' z' = 1
            · exact q2.ok z' hz' c1
            · obtain ⟨k, hk3⟩ := q2.ok y hyl (by omega)
              exact ⟨k + 1, .inr ⟨hlive, y, hyn, hk3⟩⟩
          · rw [upd_ne e] at hf; exact q2.ok z' hz' hf
        · by_cases e : z' = s
          · subst e; rw [upd_self]; have := q3 z' hz'; omega
          · rw [upd_ne e]; exact q3 z' hz'
        · rw [upd_ne hne]; exact q4 z' hz' hne
        · rw [upd_self]
          by_cases e : k = j
          · subst e
            rw [hy] at hy'; cases hy'
            have := q3 y hyl
            omega
          · have := q5 k y' (by omega) hy' hf
            omega)
      rw [g1]
      simp only [Option.bind_some]
      refine .inr ⟨c', f', rfl, g2, g3, g4, fun h => absurd h hg, fun _ y hy hf => ?_⟩
      obtain ⟨q, _, q1, hq⟩ := mem_ix ((hst y).2 hy)
      exact g6 q y q1 hq hf
def KnR (t : TOpenTask) (p : List TChoice) (l : List (List Int)) (r : Nat) (f : List Int → Int) : Prop := ∀ s ∈ l, ∀ k, k < r → RkP t p k s → f s = 1
theorem holds1 (ht : OTaskOk t) (hp : PolOk t p) {l : List (List Int)} (hv : Vis t p l) {c : List Int} {f : List Int → Int} (hr : Rep l c f) (hk : CanOk t p l f) {r : Nat} (hn : KnR t p l r f) (j : Int) :
    (cyclic_Holds_l1 t p l j c = some (.inr false) ∧ ∃ s ∈ l, ¬ GoalS t s ∧ ¬ LiveS p s) ∨ ∃ c' f', cyclic_Holds_l1 t p l j c = some (.inl c') ∧ Rep l c' f' ∧ CanOk t p l f' ∧ KnR t p l (r + 1) f' := by
  unfold cyclic_Holds_l1
  rcases rngX_inv (body := cyclic_Holds_l2 t p l) (n := (l.length : Int)) (s := c) (fun j x => ∃ f', Rep l x f' ∧ CanOk t p l f' ∧ (∀ z ∈ l, f z ≤ f' z) ∧ ∀ i s k, i < j → ix l i = some s → k < r + 1 → RkP t p k s → f' s = 1) (fun o => o = false ∧ ∃ s ∈ l, ¬ GoalS t s ∧ ¬ LiveS p s) (by omega) ⟨f, hr, hk, fun z _ => Int.le_refl _, fun i s k hi h => by have := (ix_lo h).1; omega⟩ (fun j x j0 j1 ⟨f', q1, q2, q3, q4⟩ => by
    obtain ⟨s, hs, _⟩ := ix_of (l := l) j0 j1
    have hsm := ix_mem hs
    rcases holds2 ht hp hv hs q1 q2 with ⟨h1, h2, h3⟩ | ⟨c', f'', h1, h2, h3, h4, h5, h6⟩
    · exact .inr ⟨_, h1, rfl, s, hsm, h2, h3⟩
    · refine .inl ⟨_, h1, f'', h2, h3, fun z hz => Int.le_trans (q3 z hz) (h4 z hz), fun i z k hi hz hkr hkk => ?_⟩
      by_cases e : i = j
      · subst e
        rw [hs] at hz; cases hz
        by_cases hg : GoalS t s
        · exact h5 hg
        · cases k with
          | zero => exact absurd hkk hg
          | succ k =>
            rcases hkk with g | ⟨hl, y, hy, hyk⟩
            · exact absurd g hg
            · have hyl := hv.closed s hsm hg hl y hy
              have e1 := hn y hyl k (by omega) hyk
              have e2 := q3 y hyl
              refine h6 hl y hy ?_
              rcases q2.b y hyl with h | h <;> omega
      · have e1 := q4 i z k (by omega) hz hkr hkk
        have e2 := h4 z (ix_mem hz)
        rcases h3.b z (ix_mem hz) with h | h <;> omega) with ⟨c', e1, f', e2, e3, e4, e5⟩ | ⟨o, e1, rfl, e2⟩
  · rw [e1]
    refine .inr ⟨c', f', rfl, e2, e3, fun s hs k hk2 hkk => ?_⟩
    obtain ⟨i, _, i1, hi⟩ := mem_ix hs
    exact e5 i s k i1 hi hk2 hkk
  · rw [e1]
    exact .inl ⟨rfl, e2⟩
theorem holds_eq (ht : OTaskOk t) (hp : PolOk t p) : cyclic_Holds t p = some (dec (∀ s, Rch t p s → ∃ k, RkP t p k s)) := by
  obtain ⟨l, g1, hv⟩ := oVisited_eq ht hp
  have hlen := hv.len ht hp
  unfold cyclic_Holds
  rw [g1]
  simp only [Option.bind_some]
  rw [show mkL 8 (l.length : Int) (0 : Int) = some (List.replicate l.length 0) by rw [mkL, if_pos (by omega)]; simp]
  simp only [Option.bind_some]
  rcases rngX_inv (body := cyclic_Holds_l1 t p l) (n := (l.length : Int)) (s := List.replicate l.length 0) (fun j x => ∃ f, Rep l x f ∧ CanOk t p l f ∧ KnR t p l j.toNat f) (fun o => o = false ∧ ∃ s ∈ l, ¬ GoalS t s ∧ ¬ LiveS p s) (by omega) ⟨_, Rep.repl 0, ⟨fun s _ => .inl rfl, fun s _ h => by cases h⟩, fun s _ k hk => by simp at hk⟩ (fun j x j0 j1 ⟨f, q1, q2, q3⟩ => by
    rcases holds1 ht hp hv q1 q2 q3 j with ⟨h1, h2⟩ | ⟨c', f', h1, h2, h3, h4⟩
    · exact .inr ⟨_, h1, rfl, h2⟩
    · exact .inl ⟨_, h1, f', h2, h3, by rwa [show (j + 1).toNat = j.toNat + 1 by omega]⟩) with ⟨c, e1, f, e2, e3, e4⟩ | ⟨o, e1, rfl, s, hs, hg, hl⟩
  · rw [e1]
    simp only [Option.bind_some, contains1_eq, dec_not]
    congr 1
    refine dec_congr ⟨fun h s hs => ?_, fun h hm => ?_⟩
    · have hsl := (hv.mem s).2 hs
      obtain ⟨i, hi, hci⟩ := e2.of hsl
      rcases e3.b s hsl with e | e
      · exact absurd (by rw [e] at hci; exact ix_mem hci) h
      · exact e3.ok s hsl e
    · obtain ⟨i, i0, i1, hi⟩ := mem_ix hm
      obtain ⟨s, hs, _⟩ := ix_of (l := l) i0 (by have := e2.len; omega)
      have hsl := ix_mem hs
      obtain ⟨k, hk⟩ := h s ((hv.mem s).1 hsl)
      obtain ⟨m, _, hm2⟩ := HtR.of_dn hk
      have := hm2.lt hv hsl
      have e5 := e4 s hsl m (by omega) hm2.1
      rw [e2.get hs, e5] at hi
      cases hi
  · rw [e1, dec_no]
    · rfl
    intro h
    obtain ⟨k, hk⟩ := h s ((hv.mem s).1 hs)
    cases k with
    | zero => exact hg hk
    | succ k =>
      rcases hk with h | ⟨h, _⟩
      · exact hg h
      · exact hl h
theorem ccheck_ok (ht : OTaskOk t) (hp : PolOk t p) : cyclic_Check t p = some (dec (∀ s, Rch t p s → ∃ k, RkP t p k s), ⟨0, 0⟩) := by
  obtain ⟨f, f1, _, f3⟩ := policy_eq t p
  have hf : f = ⟨0, 0⟩ := by
    rcases f3 with ⟨rfl, _⟩ | ⟨_, h⟩
    · rfl
    · exact absurd ⟨ht, hp⟩ h
  subst hf
  unfold cyclic_Check
  rw [f1]
  simp only [Option.bind_some]
  rw [if_neg (by simp), holds_eq ht hp]
  rfl
end
end Ab
end
section
namespace Ab
open Go
section
variable {t : TOpenTask} {p : List TChoice} {ch : List Int → Int}
/-- The policy that is found keeps the goal reachable. -/
theorem polB_rk {all : List (List Int)} (hk : ChOk t ch) {f : List Int → Int} (h1 : ∀ s, RchC t ch s → s ∈ all ∧ 0 ≤ f s) (h2 : ∀ s, RchC t ch s → ¬ GoalS t s → FirstC t f s (ch s)) (hp : PolB t ch p) : ∀ (k : Nat) (s : List Int), RchC t ch s → f s ≤ k → ∃ m, RkP t p m s
  | 0, s, hr, h0 => by
    by_cases hg : GoalS t s
    · exact ⟨0, hg⟩
    · obtain ⟨_, _, y, hy, e⟩ := (h2 s hr hg).1
      have := (h1 y (.step hr hg hy)).2
      omega
  | k + 1, s, hr, h0 => by
    by_cases hg : GoalS t s
    · exact ⟨0, hg⟩
    · obtain ⟨_, _, y, hy, e⟩ := (h2 s hr hg).1
      obtain ⟨m, hm⟩ := polB_rk hk h1 h2 hp k y (.step hr hg hy) (by omega)
      have el := hp.live hr hg
      exact ⟨m + 1, .inr ⟨by unfold LiveS; rw [el]; exact (hk s hr hg).1.1, y, by unfold nxS; rw [el]; exact hy, hm⟩⟩
theorem cfound {all : List (List Int)} (ht : OTaskOk t) (hk : ChOk t ch) {f : List Int → Int} (h1 : ∀ s, RchC t ch s → s ∈ all ∧ 0 ≤ f s) (h2 : ∀ s, RchC t ch s → ¬ GoalS t s → FirstC t f s (ch s)) (hp : PolB t ch p) (hl : p.length ≤ 200) : cyclic_Check t p = some (true, ⟨0, 0⟩) := by
  rw [ccheck_ok ht (hp.pol ht hk hl), dec_of]
  intro s hs
  have hr := rch_of hp.op hs
  have := (h1 s hr).2
  exact polB_rk hk h1 h2 hp (f s).toNat s hr (by omega)
end
/-! ### The coin -/
theorem coin_X0 : efc 1 [0] coinX = [0] := by
  refine (set01.eq_of (p := fun p => p ∈ coinX.add ∨ p ∈ [0] ∧ p ∉ coinX.del) fun x h0 h1 => ?_).symm
  simp [coinX]
theorem coin_Y0 : efc 1 [0] coinY = [0] := by
  refine (set01.eq_of (p := fun p => p ∈ coinY.add ∨ p ∈ [0] ∧ p ∉ coinY.del) fun x h0 h1 => ?_).symm
  simp [coinY]
theorem coinOo : ooAt coinT 0 = coinO := rfl
theorem coin_sc0 {y : List Int} : y ∈ sc coinT [] 0 ↔ y = [0] ∨ y = [] := by
  unfold sc
  rw [coinOo]
  simp only [coinO, show coinT.facts = 1 from rfl, List.map_cons, List.map_nil, coin_X, coin_Y, List.mem_cons, List.not_mem_nil, or_false]
theorem coin_sc1 {y : List Int} : y ∈ sc coinT [0] 0 ↔ y = [0] := by
  unfold sc
  rw [coinOo]
  simp only [coinO, show coinT.facts = 1 from rfl, List.map_cons, List.map_nil, coin_X0, coin_Y0, List.mem_cons, List.not_mem_nil, or_false, or_self]
theorem coin_res0 : ∃ w, open_Results coinT [] 0 = some ([[], [0]], w) := by
  obtain ⟨st, w, r1, r2, r3, _⟩ := oResults_eq coin_ok (op := 0) (by decide) (by decide) (s := []) (setN_nil _)
  refine ⟨w, ?_⟩
  rw [r1]
  have : st = [[], [0]] := Ord.ext r2 (by simp [llt]) fun y => by
    have h := coin_sc0 (y := y)
    rw [r3]
    rw [sc, List.mem_map] at h
    rw [h]
    simp only [List.mem_cons, List.not_mem_nil, or_false]
    exact Or.comm
  rw [this]
theorem coin_res1 : ∃ w, open_Results coinT [0] 0 = some ([[0]], w) := by
  obtain ⟨st, w, r1, r2, r3, _⟩ := oResults_eq coin_ok (op := 0) (by decide) (by decide) (s := [0]) set01
  refine ⟨w, ?_⟩
  rw [r1]
  have : st = [[0]] := Ord.ext r2 (by simp) fun y => by
    have h := coin_sc1 (y := y)
    rw [r3]
    rw [sc, List.mem_map] at h
    rw [h, List.mem_singleton]
  rw [this]
theorem coin_can {s : List Int} (hs : SetN s 1) : open_Can coinT s 0 = some true := by
  rw [oCan_eq coin_ok (by decide) (by decide) hs, dec_of]
  intro x hx
  cases hx
theorem two_rng {S O : Type} {body : Int → S → Option (S ⊕ O)} {s s' : S} {x : S ⊕ O} (h : body 0 s = some (.inl s')) (h' : body 1 s' = some x) : rngX 0 2 body s = some x := by
  unfold rngX
  rw [show ((2 : Int) - 0).toNat = 2 from rfl]
  simp only [rngN, h, show (0 : Int) + 1 = 1 from rfl, h']
  cases x <;> rfl
abbrev coinM : List (ByteArray × Int) := mset (mset ([] : List (ByteArray × Int)) (keyK [[]]) 1) (keyK [[0]]) 1
theorem coin_reach : open_Reach coinT = some ([[], [0]], true) := by
  have h0 : SetN [] 1 := setN_nil _
  have k0 := key1_eq (s := []) (h0.small (by decide)) (by decide)
  have k1 := key1_eq (s := [0]) (set01.small (by decide)) (by decide)
  have hk : keyK [[0]] ≠ keyK [[]] := fun e => by have := SetN.key_inj (by decide) set01 h0 e; cases this
  obtain ⟨w0, r0⟩ := coin_res0
  obtain ⟨w1, r1⟩ := coin_res1
  have s1 : open_Reach_l1 coinT ([[]], mset ([] : List (ByteArray × Int)) (keyK [[]]) 1, 0) = some (.inl ([[], [0]], coinM, 1)) := by
    unfold open_Reach_l1
    dsimp only
    rw [if_pos (by decide)]
    rw [show (coinT.operators.length : Int) = 1 from rfl, one_rng (x := .inl ([[], [0]], coinM))]
    · rfl
    · unfold open_Reach_l2
      dsimp only
      rw [show ix [([] : List Int)] 0 = some [] from rfl]
      simp only [Option.bind_some, coin_can h0, r0, Bool.not_true, Bool.false_eq_true, if_false]
      rw [show ((([[], [0]] : List (List Int)).length : Nat) : Int) = 2 from rfl, two_rng (s' := ([[]], mset ([] : List (ByteArray × Int)) (keyK [[]]) 1)) (x := .inl ([[], [0]], coinM))]
      · rfl
      · unfold open_Reach_l4
        dsimp only
        rw [show ix [([] : List Int), [0]] 0 = some [] from rfl]
        simp only [Option.bind_some, k0]
        rw [mget_mset, if_pos rfl]
        simp [open_Reach_j5]
      · unfold open_Reach_l4
        dsimp only
        rw [show ix [([] : List Int), [0]] 1 = some [0] from rfl]
        simp only [Option.bind_some, k1]
        rw [mget_mset, if_neg hk]
        simp [mget, app, open_Reach_j5]
  have s2 : open_Reach_l1 coinT ([[], [0]], coinM, 1) = some (.inl ([[], [0]], coinM, 2)) := by
    unfold open_Reach_l1
    dsimp only
    rw [if_pos (by decide)]
    rw [show (coinT.operators.length : Int) = 1 from rfl, one_rng (x := .inl ([[], [0]], coinM))]
    · rfl
    · unfold open_Reach_l2
      dsimp only
      rw [show ix [([] : List Int), [0]] 1 = some [0] from rfl]
      simp only [Option.bind_some, coin_can set01, r1, Bool.not_true, Bool.false_eq_true, if_false]
      rw [show ((([[0]] : List (List Int)).length : Nat) : Int) = 1 from rfl, one_rng (x := .inl ([[], [0]], coinM))]
      · rfl
      · unfold open_Reach_l4
        dsimp only
        rw [show ix [([0] : List Int)] 0 = some [0] from rfl]
        simp only [Option.bind_some, k1]
        rw [mget_mset, if_pos rfl]
        simp [open_Reach_j5]
  have s3 : open_Reach_l1 coinT ([[], [0]], coinM, 2) = some (.inr (.inl [[], [0]])) := by
    unfold open_Reach_l1
    dsimp only
    rw [if_neg (by decide)]
  unfold open_Reach
  rw [show coinT.init = [] from rfl, clone_eq (by decide)]
  simp only [Option.bind_some, k0]
  rw [Loop_eq, s1]
  dsimp only
  rw [Loop_eq, s2]
  dsimp only
  rw [Loop_eq, s3]
  simp only [Option.bind_some]
  obtain ⟨r, n1, n2, n3, _⟩ := normal_eq (l := [[], [0]]) (by decide)
  rw [n1, show r = [[], [0]] from Ord.ext n2 (by simp [llt]) n3]
  rfl
theorem coin_g1 : GoalS coinT [0] := fun x hx => hx
theorem coin_g0 : ¬ GoalS coinT [] := fun h => by have := h 0 (by simp [coinT]); cases this
/-- A policy that is built for the coin. -/
theorem coin_polB {ch : List Int → Int} (hk : ChOk coinT ch) (ha : ∀ s, RchC coinT ch s → s ∈ ([[], [0]] : List (List Int))) {p : List TChoice} (hp : PolB coinT ch p) : p = [⟨[], 0⟩] := by
  have h0 := (hk [] .init coin_g0).1
  have e0 : ch [] = 0 := by
    have : (coinT.operators.length : Int) = 1 := rfl
    omega
  refine hp.unique ⟨by simp, fun s => ⟨?_, fun ⟨hr, hg⟩ => ?_⟩, fun c hc => ?_⟩
  · rintro ⟨c, hc, rfl⟩
    rw [List.mem_singleton.1 hc]
    exact ⟨.init, coin_g0⟩
  · rcases List.mem_cons.1 (ha s hr) with rfl | h
    · exact ⟨_, List.mem_singleton.2 rfl, rfl⟩
    · rw [List.mem_singleton.1 h] at hg
      exact absurd coin_g1 hg
  · rw [List.mem_singleton.1 hc]
    exact e0.symm
theorem coin_policy : cyclic_Policy coinT = some ([⟨[], 0⟩], true, ⟨0, 0⟩) ∧ cyclic_Check coinT [⟨[], 0⟩] = some (true, ⟨0, 0⟩) := by
  rcases cpolicy_spec coin_ok with ⟨h, _⟩ | ⟨all, v, f, h1, _, hc, hv, hr, hh⟩
  · rw [coin_reach] at h; cases h
  · rw [coin_reach] at h1; cases h1
    rcases hh with ⟨hn, _⟩ | ⟨ch, hk, i1, i2, hh⟩
    · have post : PostF coinT [[], [0]] (fun s => s ∈ ([[], [0]] : List (List Int))) := fun s hs => by
        refine ⟨hs, 1, ?_⟩
        rcases List.mem_cons.1 hs with rfl | h
        · exact .inr ⟨hs, 0, ⟨by decide, by decide⟩, fun x hx => (by cases hx), fun y hy => by
            rcases coin_sc0.1 hy with rfl | rfl <;> simp, [0], coin_sc0.2 (.inl rfl), coin_g1⟩
        · rw [List.mem_singleton.1 h]; exact .inl coin_g1
      have := hr.gr _ post [] (by simp)
      rw [show coinT.init = [] from rfl] at hn
      omega
    · rcases hh with ⟨_, l, l1, l2, l3⟩ | ⟨p, h, hp, hl⟩
      · have := nodup_len l1 fun s hs => (i1 s (l2 s hs).1).1
        simp at this; omega
      · have e := coin_polB hk (fun s hs => (i1 s hs).1) hp
        have hf := cfound coin_ok hk i1 i2 hp hl
        subst e
        exact ⟨h, hf⟩
theorem repeated_eq : law8_repeated = some true := by
  unfold law8_repeated
  rw [show law8_coin = some coinT from rfl]
  simp only [Option.bind_some, coin_policy.1, coin_policy.2, if_true]
  rw [choices_self]
  rfl
theorem CyclicPolicyChecks_true (t : TOpenTask) : law8_CyclicPolicyChecks t = some true := by
  have key : ∀ f : TFault, (if ((!(decide ((([] : List TChoice), false, f).2.2.code = 0))) || (!(([] : List TChoice), false, f).2.1)) = true then Option.bind (law8_repeated) fun a22 => some a22 else Option.bind (cyclic_Check t ([] : List TChoice)) fun a26 => Option.bind (if a26.2.code = 0 then if a26.1 = true then Option.bind (law8_repeated) fun a37 => some a37 else some false else some false) fun t3 => some t3) = some true := fun f => by
    rw [if_pos (by simp), repeated_eq]; rfl
  unfold law8_CyclicPolicyChecks
  obtain ⟨e, e1, _, e3⟩ := oValidate_eq t
  rcases e3 with ⟨rfl, ht⟩ | ⟨hc, _⟩
  · rcases cpolicy_spec ht with ⟨_, _, h⟩ | ⟨all, v, f, _, _, _, _, _, ⟨_, h⟩ | ⟨ch, hk, h1, h2, ⟨h, _⟩ | ⟨p, h, hp, hl⟩⟩⟩
    · rw [h, Option.bind_some]; exact key _
    · rw [h, Option.bind_some]; exact key _
    · rw [h, Option.bind_some]; exact key _
    · rw [h]
      simp only [Option.bind_some]
      rw [if_neg (by simp), cfound ht hk h1 h2 hp hl]
      simp only [Option.bind_some, if_true, repeated_eq]
  · rw [cpolicy_bad e1 hc, Option.bind_some]; exact key _
end Ab
end
