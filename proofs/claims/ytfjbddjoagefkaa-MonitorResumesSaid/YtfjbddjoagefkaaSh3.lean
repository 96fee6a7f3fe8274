/-
  OWNED ROWS HANDED ON: they cease to change, or are lent to a call that only reads; new rows that calls hand back; function values that are data.
-/
import Derived.Test.YtfjbddjoagefkaaSh2
namespace Ab
open Go

section
variable {P : Program} {σ0 : Store} {sz : Nat} {Q : Post} {env env' : Env} {σv σ' : Store} {ops : Array Oper} {rest : List Oper} {dst : Option Nat} {ty : TypeId} {pos : String} {after : Array Edge}

/-! ### A row ceases to change -/
mutual
theorem C.frz_no {id : Id} {k : Nat} {es : List (List I)} : ∀ c : C, c.no id = true → c.frz id k es = c
  | .imm _, _ => rfl
  | .own i _ _, h => by
    have : idb i id = false := by simpa [C.no] using h
    simp [C.frz, this]
  | .ptr i _ _, h => by
    have : idb i id = false := by simpa [C.no] using h
    simp [C.frz, this]
  | .fn _ caps, h => by simp only [C.frz, C.frzL_no caps h]
  | .ifc _ cs _, h => by simp only [C.frz, C.frzL_no cs h]
  | .map i, h => rfl
theorem C.frzL_no {id : Id} {k : Nat} {es : List (List I)} : ∀ l : List C, C.noL id l = true → C.frzL id k es l = l
  | [], _ => rfl
  | c :: r, h => by
    simp only [C.noL, Bool.and_eq_true] at h
    simp only [C.frzL, C.frz_no c h.1, C.frzL_no r h.2]
end
mutual
theorem T.frz_no {id : Id} {k : Nat} {es : List (List I)} : ∀ t : T, t.no id = true → t.frz id k es = t
  | .c x, h => by simp only [T.frz, C.frz_no x h]
  | .agg cs, h => by simp only [T.frz, C.frzL_no cs h]
  | .tup ts, h => by simp only [T.frz, T.frzL_no ts h]
  | .undef, _ => rfl
theorem T.frzL_no {id : Id} {k : Nat} {es : List (List I)} : ∀ l : List T, T.noL id l = true → T.frzL id k es l = l
  | [], _ => rfl
  | x :: r, h => by
    simp only [T.noL, Bool.and_eq_true] at h
    simp only [T.frzL, T.frz_no x h.1, T.frzL_no r h.2]
end
theorem Blk.frz_no {id : Id} {k : Nat} {es : List (List I)} (b : Blk) (h : b.no id = true) : b.frz id k es = b := by
  cases b with
  | cells k' es' =>
    simp only [Blk.no, List.all_eq_true] at h
    simp only [Blk.frz]
    congr 1
    conv => rhs; rw [← List.map_id es']
    exact List.map_congr_left fun l hl => C.frzL_no l (h l hl)
  | obj p => rfl

/-- c becomes c' when block id ceases to change; X: what becomes of its views. -/
def FrzC (id : Id) (X : C → C → Prop) (c c' : C) : Prop := (c' = c ∧ c.no id = true) ∨ X c c'
/-- The view of a whole row x, n long. -/
def XRow (id : Id) (n : Nat) (x : C) : C → C → Prop := fun c c' => ∃ m, c = .own id 0 m ∧ m = n ∧ c' = x
/-- Places in a block of one element e. -/
def XBox (id : Id) (e : List I) : C → C → Prop := fun c c' => ∃ o e', c = .ptr id 0 o ∧ dropF o e = some e' ∧ c' = .imm (.ipt e')
def FrzL (id : Id) (X : C → C → Prop) : List C → List C → Prop
  | [], [] => True
  | c :: l, c' :: l' => FrzC id X c c' ∧ FrzL id X l l'
  | _, _ => False
def FrzT (id : Id) (X : C → C → Prop) : T → T → Prop
  | .c c, .c c' => FrzC id X c c'
  | .agg l, .agg l' => FrzL id X l l'
  | t, t' => t' = t ∧ t.no id = true
def FrzEnv (id : Id) (X : C → C → Prop) (env : Env) : Env → Prop
  | [] => True
  | (t, v') :: r => (∃ v, lookup t env = some v ∧ FrzT id X v v') ∧ FrzEnv id X env r
def FrzB (id : Id) (X : C → C → Prop) : Ent → Ent → Prop
  | .dead, .dead => True
  | .one (.cells k [e]), .one (.cells k' [e']) => k' = k ∧ FrzL id X e e'
  | .one b, .one b' => b' = b ∧ b.no id = true
  | .node m s, e' => e' = .node m s ∧ ∀ (p : List Nat) (b : Blk), (Ent.node m s).sub p = some b → b.no id = true
  | _, _ => False
def FrzS (id : Id) (X : C → C → Prop) : Store → Store → Prop
  | [], [] => True
  | b :: r, b' :: r' => FrzB id X b b' ∧ FrzS id X r r'
  | _, _ => False

section
variable {es : List (List I)} {id : Id} {k : Nat} {X : C → C → Prop}
theorem FrzC.eq (hX : ∀ c c', X c c' → c.frz id k es = c') {c c' : C} (h : FrzC id X c c') : c.frz id k es = c' := by
  rcases h with ⟨rfl, h⟩ | h
  · exact C.frz_no _ h
  · exact hX _ _ h
theorem FrzL.eq (hX : ∀ c c', X c c' → c.frz id k es = c') : ∀ {c c' : List C}, FrzL id X c c' → C.frzL id k es c = c'
  | [], [], _ => rfl
  | c :: r, c' :: r', h => by rw [C.frzL, FrzC.eq hX h.1, FrzL.eq hX h.2]
  | [], _ :: _, h => h.elim
  | _ :: _, [], h => h.elim
theorem FrzT.eq (hX : ∀ c c', X c c' → c.frz id k es = c') {t t' : T} (h : FrzT id X t t') : t.frz id k es = t' := by
  cases t <;> cases t' <;> simp only [FrzT] at h <;> first
    | (simp only [T.frz, FrzC.eq hX h]; done)
    | (simp only [T.frz, FrzL.eq hX h]; done)
    | (obtain ⟨h1, h2⟩ := h; cases h1; exact T.frz_no _ h2)
    | (obtain ⟨h1, h2⟩ := h; cases h1)
theorem FrzEnv.get (hX : ∀ c c', X c c' → c.frz id k es = c') : ∀ {env' : Env}, FrzEnv id X env env' → ∀ t v, lookup t env' = some v → (lookup t env).map (fun v => v.frz id k es) = some v
  | [], _, t, v, hv => by simp [lookup] at hv
  | (t0, v0) :: r, h, t, v, hv => by
    simp only [lookup] at hv
    split at hv
    · rename_i e
      have := Nat.eq_of_beq_eq_true e
      subst this
      cases hv
      obtain ⟨v1, h1, h2⟩ := h.1
      rw [h1]
      simp only [Option.map_some, FrzT.eq hX h2]
    · exact FrzEnv.get hX h.2 t v hv
theorem FrzB.get (hX : ∀ c c', X c c' → c.frz id k es = c') {e e' : Ent} (h : FrzB id X e e') (p : List Nat) : (e.sub p).map (Blk.frz id k es) = e'.sub p := by
  unfold FrzB at h
  split at h
  · cases p <;> rfl
  · obtain ⟨rfl, h2⟩ := h
    cases p with
    | nil => simp only [Ent.sub, Option.map_some, Blk.frz, List.map_cons, List.map_nil, FrzL.eq hX h2]
    | cons => rfl
  · obtain ⟨rfl, h2⟩ := h
    cases p with
    | nil => simp only [Ent.sub, Option.map_some, Blk.frz_no _ h2]
    | cons => rfl
  · obtain ⟨rfl, h2⟩ := h
    cases hb : (Ent.node _ _).sub p with
    | none => rfl
    | some b => simp only [Option.map_some, Blk.frz_no _ (h2 p b hb)]
  · exact h.elim
theorem FrzS.get (hX : ∀ c c', X c c' → c.frz id k es = c') : ∀ {σ σ2 : Store}, FrzS id X σ σ2 → ∀ i : Id, (σ[i]?).map (Option.map (Blk.frz id k es)) = σ2[i]?
  | [], [], _, i => rfl
  | [], _ :: _, h, _ => h.elim
  | _ :: _, [], h, _ => h.elim
  | e :: r, e' :: r', h, (0, p) => by
    rw [Store.at_eq, Store.at_eq]
    simp only [Store.at, List.getElem?_cons_zero, Option.map_some, FrzB.get hX h.1 p]
  | e :: r, e' :: r', h, (i + 1, p) => by
    have := FrzS.get hX h.2 (i, p)
    rw [Store.at_eq, Store.at_eq] at this ⊢
    simpa [Store.at] using this
theorem FrzS.len : ∀ {σ σ2 : Store}, FrzS id X σ σ2 → σ2.length = σ.length
  | [], [], _ => rfl
  | [], _ :: _, h => h.elim
  | _ :: _, [], h => h.elim
  | e :: r, e' :: r', h => by simp [FrzS.len h.2]

/-- A store that shows the same blocks. -/
theorem Sub.same {env : Env} {σ1 σ2 : Store} (hl : σ2.length = σ1.length) (h : ∀ i : Id, σ1[i]? = σ2[i]?) : Sub σ0 ⟨env, σ1⟩ ⟨env, σ2⟩ := fun Γ sz φ a w hΓ hR => by
  have hal : ∀ b, Al Γ.N φ σ1 b → Al Γ.N φ σ2 b := fun b hb => ⟨hb.1, fun i blk base hi => hb.2 i blk base (by rw [h i]; exact hi)⟩
  have hK : Kept w w φ φ σ1 σ2 (Al Γ.N φ σ1) (Al Γ.N φ σ2) :=
    ⟨fun _ _ _ => rfl, fun b hb _ => hal b hb, by omega, fun i k es _ he => ⟨es, by rw [h i]; exact he, rfl, rfl, fun _ _ arr _ _ h2 => ⟨arr, h2, rfl⟩⟩, fun i p _ he => ⟨rfl, p, by rw [h i]; exact he⟩⟩
  have hRs : Rs Γ σ2 φ w := {
    good := hR.good
    st := ⟨fun i b hi => BlkR.mono hK (fun _ _ _ => rfl) (hR.st.blk i b (by dsimp only; rw [h i]; exact hi)), fun i j bi bj p q hi hj => hR.st.inj i j bi bj p q (by dsimp only; rw [h i]; exact hi) (by dsimp only; rw [h j]; exact hj)⟩
    keep := fun i blk b base hi => hR.keep i blk b base (by dsimp only; rw [h i]; exact hi)
    os := hR.os
    tape := hR.tape
    output := hR.output
    size := hR.size
    block := hR.block
    kept := Kept.trans hR.size hR.kept hK }
  exact ⟨φ, hR.of hK hRs⟩

theorem Sub.frzX {env2 : Env} {σ1 σ2 : Store} (hX : ∀ c c', X c c' → c.frz id k es = c') (hid : Nat.ble σ0.length id.1 = true) (hσ : σv[id]? = some (some (Blk.im k es))) (henv : FrzEnv id X env env2) (h1 : putF σv id none = some σ1) (hst : FrzS id X σ1 σ2) : Sub σ0 ⟨env, σv⟩ ⟨env2, σ2⟩ := by
  have h2 := putF_get h1
  subst h2
  have hf := Sub.frz (σ0 := σ0) (s := ⟨env, σv⟩) id k es (Nat.le_of_ble_eq_true hid) hσ
  have hs : Sub σ0 (St.frz ⟨env, σv⟩ id k es) ⟨env.map fun p => (p.1, p.2.frz id k es), σ2⟩ := Sub.same (by rw [hst.len]; simp [St.frz]) (fun i => by rw [← FrzS.get hX hst i, Store.get_map])
  refine (hf.trans hs).trans (fun _ _ φ _ _ _ hR => ⟨φ, { toRs := hR.toRs, defers := hR.defers, asize := hR.asize, env := fun t v ht => hR.env t v ?_ }⟩)
  show lookup t (env.map fun p => (p.1, p.2.frz id k es)) = some v
  rw [lookup_map (fun v => v.frz id k es)]
  exact FrzEnv.get hX henv t v ht
end

theorem XRow.eq {α : Type} {f : α → List I} {l : List α} {id : Id} {k : Nat} : ∀ c c', XRow id l.length (row k f l) c c' → c.frz id k (l.map f) = c' := by
  rintro c c' ⟨m, rfl, rfl, rfl⟩
  simp [C.frz, row, List.take_of_length_le, idb_iff.2 rfl]
theorem XBox.eq {e : List I} {id : Id} {k : Nat} : ∀ c c', XBox id e c c' → c.frz id k [e] = c' := by
  rintro c c' ⟨o, e', rfl, h, rfl⟩
  rw [(dropF_eq h).1]
  simp [C.frz, idb_iff.2 rfl]

theorem Sub.frzV {α : Type} {f : α → List I} {l : List α} {id : Id} {k : Nat} {env2 : Env} {σ1 σ2 : Store} (hid : Nat.ble σ0.length id.1 = true) (hσ : σv[id]? = some (some (vec k f l))) (henv : FrzEnv id (XRow id l.length (row k f l)) env env2) (h1 : putF σv id none = some σ1) (hst : FrzS id (XRow id l.length (row k f l)) σ1 σ2) : Sub σ0 ⟨env, σv⟩ ⟨env2, σ2⟩ := Sub.frzX XRow.eq hid hσ henv h1 hst
theorem AWP.frzV {α : Type} {f : α → List I} {l : List α} {id : Id} {k : Nat} {c : Code} {env2 : Env} {σ1 σ2 : Store} (hid : Nat.ble σ0.length id.1 = true) (hσ : σv[id]? = some (some (vec k f l))) (henv : FrzEnv id (XRow id l.length (row k f l)) env env2) (h1 : putF σv id none = some σ1) (hst : FrzS id (XRow id l.length (row k f l)) σ1 σ2)
    (h : AWP P σ0 sz c Q (St.mk env2 σ2)) : AWP P σ0 sz c Q (St.mk env σv) := AWP.sub (Sub.frzV hid hσ henv h1 hst) h
theorem AOps.frzV {α : Type} {f : α → List I} {l : List α} {id : Id} {k : Nat} {env2 : Env} {σ1 σ2 : Store} (hid : Nat.ble σ0.length id.1 = true) (hσ : σv[id]? = some (some (vec k f l))) (henv : FrzEnv id (XRow id l.length (row k f l)) env env2) (h1 : putF σv id none = some σ1) (hst : FrzS id (XRow id l.length (row k f l)) σ1 σ2)
    (h : AOps P σ0 sz ops Q rest (St.mk env2 σ2)) : AOps P σ0 sz ops Q rest (St.mk env σv) := AOps.sub (Sub.frzV hid hσ henv h1 hst) h
/-- A variable's block ceases to change. -/
theorem Sub.frzB {e : List I} {id : Id} {k : Nat} {env2 : Env} {σ1 σ2 : Store} (hid : Nat.ble σ0.length id.1 = true) (hσ : σv[id]? = some (some (Blk.im k [e]))) (henv : FrzEnv id (XBox id e) env env2) (h1 : putF σv id none = some σ1) (hst : FrzS id (XBox id e) σ1 σ2) : Sub σ0 ⟨env, σv⟩ ⟨env2, σ2⟩ := Sub.frzX XBox.eq hid hσ henv h1 hst
theorem AWP.frzB {e : List I} {id : Id} {k : Nat} {c : Code} {env2 : Env} {σ1 σ2 : Store} (hid : Nat.ble σ0.length id.1 = true) (hσ : σv[id]? = some (some (Blk.im k [e]))) (henv : FrzEnv id (XBox id e) env env2) (h1 : putF σv id none = some σ1) (hst : FrzS id (XBox id e) σ1 σ2)
    (h : AWP P σ0 sz c Q (St.mk env2 σ2)) : AWP P σ0 sz c Q (St.mk env σv) := AWP.sub (Sub.frzB hid hσ henv h1 hst) h

/-! ### nil -/
/-- A slot that holds nil: a row of its own with nothing in it. -/
theorem Sub.virtV {α : Type} (k : Nat) (f : α → List I) (t : Nat) {n : Id} (ht : lookup t env = some (.c (.imm (.val (.slice none 0 0))))) (hn : newF σv = some n) (hσ' : snocF σv (.one (vec k f [])) = some σ') : Sub σ0 ⟨env, σv⟩ ⟨(t, .c (.own n 0 ([] : List α).length)) :: env, σ'⟩ := by
  have h1 := newF_eq hn; have h2 := snocF_eq hσ'
  subst h1 h2
  exact Sub.virt (s := ⟨env, σv⟩) t k ht
theorem AWP.virtV {α : Type} {c : Code} (k : Nat) (f : α → List I) (t : Nat) {n : Id} (ht : lookup t env = some (.c (.imm (.val (.slice none 0 0))))) (hn : newF σv = some n) (hσ' : snocF σv (.one (vec k f [])) = some σ')
    (h : AWP P σ0 sz c Q (St.mk ((t, .c (.own n 0 ([] : List α).length)) :: env) σ')) : AWP P σ0 sz c Q (St.mk env σv) := AWP.sub (Sub.virtV k f t ht hn hσ') h
/-- nil is a row with nothing in it. -/
theorem Sub.nilrow (k : Nat) (t : Nat) (ht : lookup t env = some (.c (.imm (.val (.slice none 0 0))))) : Sub σ0 ⟨env, σv⟩ ⟨(t, .c (.imm (.sl k []))) :: env, σv⟩ := by
  intro Γ sz φ a w hΓ hR
  refine ⟨φ, { toRs := hR.toRs, defers := hR.defers, asize := hR.asize, env := ?_ }⟩
  intro t' v hv
  simp only [lookup] at hv
  split at hv
  · rename_i e
    have := Nat.eq_of_beq_eq_true e
    subst this
    cases hv
    obtain ⟨u, hu, hr⟩ := hR.env _ _ ht
    refine ⟨u, hu, ?_⟩
    rw [val_inv hr]
    exact .c (.imm .slNil)
  · exact hR.env t' v hv
theorem AWP.nilrow {c : Code} (k : Nat) (t : Nat) (ht : lookup t env = some (.c (.imm (.val (.slice none 0 0))))) (h : AWP P σ0 sz c Q (St.mk ((t, .c (.imm (.sl k []))) :: env) σv)) : AWP P σ0 sz c Q (St.mk env σv) := AWP.sub (Sub.nilrow k t ht) h

/-! ### Lent to a call -/
mutual
/-- What a call that only reads is shown in the place of c. -/
inductive LendC (σ : Store) : C → C → Prop
  | imm {x : I} : LendC σ (.imm x) (.imm x)
  | own {α : Type} {id : Id} {k n : Nat} {f : α → List I} {l : List α} (h : σ[id]? = some (some (vec k f l))) (hn : n = l.length) : LendC σ (.own id 0 n) (row k f l)
  | nil {k : Nat} : LendC σ (.imm (.val (.slice none 0 0))) (.imm (.sl k []))
  | ptr {id : Id} {o k : Nat} {cs : List C} {es es' : List I} (h : σ[id]? = some (some (.cells k [cs]))) (hd : dropF o es = some es') (hl : LendL σ cs (es.map .imm)) : LendC σ (.ptr id 0 o) (.imm (.ipt es'))
  | fn {f : FuncId} {caps caps' : List C} (h : LendL σ caps caps') : LendC σ (.fn f caps) (.fn f caps')
  | fnI {f : FuncId} {caps : List C} {caps' : List I} (h : LendL σ caps (caps'.map .imm)) : LendC σ (.fn f caps) (.imm (.fn f caps'))
inductive LendL (σ : Store) : List C → List C → Prop
  | nil : LendL σ [] []
  | cons {c c' : C} {l l' : List C} (h : LendC σ c c') (hl : LendL σ l l') : LendL σ (c :: l) (c' :: l')
end
inductive LendT (σ : Store) : T → T → Prop
  | c {x y : C} (h : LendC σ x y) : LendT σ (.c x) (.c y)
  | agg {l l' : List C} (h : LendL σ l l') : LendT σ (.agg l) (.agg l')
inductive LendTs (σ : Store) : List T → List T → Prop
  | nil : LendTs σ [] []
  | cons {c c' : T} {l l' : List T} (h : LendT σ c c') (hl : LendTs σ l l') : LendTs σ (c :: l) (c' :: l')

/-- The context of a call that is lent everything. -/
def Cx.open (w : World) : Cx := ⟨w, fun _ => False, fun _ => none, []⟩
theorem good_open (w : World) : Good (Cx.open w) :=
  { st := ⟨fun i b hi => by simp [Cx.open] at hi, fun i j bi bj p q hi => by simp [Cx.open] at hi⟩, lt := fun _ h => h.elim, own := fun i blk b base hi => by simp [Cx.open] at hi }
theorem al_open (w : World) (b : Nat) : Al (Cx.open w).N (fun _ => none) [] b := ⟨fun h => h, fun i blk base hi => by simp at hi⟩

theorem lend_own {Γ : Cx} {a : Act} {w : World} {φ : Phi} {α : Type} {id : Id} {k : Nat} {f : α → List I} {l : List α} (hR : R Γ sz ⟨env, σv⟩ φ a w) (h : σv[id]? = some (some (vec k f l))) {u : Value} (hu : OwnView w (φ id) k ((l.map f).map (·.map C.imm)).length 0 l.length u) {A : Nat → Prop} (hA : ∀ b, A b) : RelI w A (.sl k (l.map f)) u := by
  have hs : Src σv k (.c (.own id 0 l.length)) ((l.map f).map (·.map .imm)) := (SrcF.own h rfl).src
  rcases hu with ⟨h1, h2, _, h4⟩ | ⟨b, base, cap, arr, ety, ad, hp, hv, had, hcap, hmax, hjn, hbk, hsz⟩
  · have : l = [] := List.eq_nil_of_length_eq_zero h4
    subst this; subst h2
    exact .slNil
  · obtain ⟨arr', ety', hb', hsz', hk, hcs⟩ := own_cells hR h hp
    rw [hbk] at hb'; cases hb'
    subst hv
    have get : ∀ (j : Nat) (e : List I), (l.map f)[j]? = some e → ((l.map f).map (·.map C.imm))[j]? = some (e.map .imm) := fun j e he => by rw [List.getElem?_map, he]; rfl
    have hlen : l.length = (l.map f).length := by simp
    have key : ∀ (j : Nat) (e : List I) (o : Nat) (x : I), (l.map f)[j]? = some e → e[o]? = some x → ∃ u, arr[base + (j * k + o)]? = some u ∧ RelI w A x u := fun j e o x he hx => by
      obtain ⟨u, hu, hr⟩ := hcs j _ o (.imm x) (get j e he) (by rw [List.getElem?_map, hx]; rfl)
      cases hr with | imm hr => exact ⟨u, hu, hr.mono (fun _ _ _ => rfl) (fun b _ _ => hA b)⟩
    rw [hlen]
    refine .sl (fun j o => (arr[base + (j * k + o)]?).getD Go.undef) (by rw [← hlen]; exact hcap) hmax (fun j e he => ?_) (fun j e o x he hx => ⟨hA _, ?_⟩) (fun j e o x he hx => ?_)
    · have := hk j _ (get j e he)
      simpa using this
    · obtain ⟨u, hu, _⟩ := key j e o x he hx
      have hj : j < l.length := by rw [hlen]; exact (List.getElem?_eq_some_iff.1 he).1
      rw [had (by omega), add_none, cell_of hbk]
      simp only [Nat.zero_mul, Nat.add_zero]
      rw [hu]; rfl
    · obtain ⟨u, hu, hr⟩ := key j e o x he hx
      rw [hu]; exact hr

mutual
theorem LendC.rel {Γ : Cx} {a : Act} {w : World} {φ : Phi} {σ' : Store} {φ' : Phi} {A : Nat → Prop} (hR : R Γ sz ⟨env, σv⟩ φ a w) (hA : ∀ b, A b) : ∀ {c c' : C}, LendC σv c c' → ∀ {u : Value}, RelC w φ σv (Al Γ.N φ σv) c u → RelC w φ' σ' A c' u
  | _, _, .imm, u, h => by cases h with | imm h => exact .imm (h.mono (fun _ _ _ => rfl) (fun b _ _ => hA b))
  | _, _, .own hσ hn, u, h => by
    subst hn
    cases h with | own _ _ h => exact .imm (lend_own hR hσ (h _ _ hσ) hA)
  | _, _, .nil, u, h => by
    cases h with | imm h => cases h; exact .imm .slNil
  | _, _, .ptr (o := o) (cs := cs) (es := es) hσ hd hl, u, h => by
    obtain ⟨h1, h2⟩ := dropF_eq hd
    subst h1
    cases h with | ptr hid _ h =>
      obtain ⟨b, base, hp, rfl⟩ := h _ _ hσ
      obtain ⟨arr, ety, hb, hsz, hk, hcs⟩ := own_cells hR hσ hp
      have key : ∀ (o : Nat) (x : I), es[o]? = some x → ∃ u, arr[base + o]? = some u ∧ RelI w A x u := fun o x hx => by
        obtain ⟨c, hc, hlend⟩ := LendL.get hR hA (φ' := φ') (σ' := σ') hl o (.imm x) (by rw [List.getElem?_map, hx]; rfl)
        obtain ⟨u, hu, hr⟩ := hcs 0 cs o c rfl hc
        have := hlend hr
        cases this with | imm this => exact ⟨u, by simpa using hu, this⟩
      refine .imm (.ipt (fun q => (arr[base + (o + q)]?).getD Go.undef) (fun q x hx => ⟨hA _, ?_⟩) (fun q x hx => ?_))
      · rw [List.getElem?_drop] at hx
        obtain ⟨u, hu, _⟩ := key _ x hx
        rw [add_none, cell_of hb]
        simp only [Nat.zero_mul, Nat.zero_add, Nat.add_assoc]
        rw [hu]; rfl
      · rw [List.getElem?_drop] at hx
        obtain ⟨u, hu, hr⟩ := key _ x hx
        rw [hu]; exact hr
  | _, _, .fn (caps := caps) (caps' := caps') hl, u, h => by
    cases h with | fn us hr =>
      have e : caps'.length = caps.length := LendL.len hl
      rw [← e]
      refine .fn us fun i c hi => ?_
      obtain ⟨c0, h0, hlend⟩ := LendL.get hR hA (φ' := φ') (σ' := σ') hl i c hi
      exact hlend (hr i c0 h0)
  | _, _, .fnI (caps := caps) (caps' := caps') hl, u, h => by
    cases h with | fn us hr =>
      have e : caps'.length = caps.length := by have := LendL.len hl; simpa using this
      rw [← e]
      refine .imm (.fn us fun i c hi => ?_)
      obtain ⟨c0, h0, hlend⟩ := LendL.get hR hA (φ' := φ') (σ' := σ') hl i (.imm c) (by rw [List.getElem?_map, hi]; rfl)
      have := hlend (hr i c0 h0)
      cases this with | imm this => exact this
theorem LendL.get {Γ : Cx} {a : Act} {w : World} {φ : Phi} {σ' : Store} {φ' : Phi} {A : Nat → Prop} (hR : R Γ sz ⟨env, σv⟩ φ a w) (hA : ∀ b, A b) : ∀ {l l' : List C}, LendL σv l l' → ∀ (i : Nat) (c' : C), l'[i]? = some c' → ∃ c, l[i]? = some c ∧ ∀ {u : Value}, RelC w φ σv (Al Γ.N φ σv) c u → RelC w φ' σ' A c' u
  | _, _, .nil, i, c', h => by simp at h
  | _, _, .cons h hl, 0, c', hi => by
    simp only [List.getElem?_cons_zero, Option.some.injEq] at hi
    subst hi
    exact ⟨_, rfl, fun hr => LendC.rel hR hA h hr⟩
  | _, _, .cons h hl, i + 1, c', hi => by
    obtain ⟨c, h1, h2⟩ := LendL.get hR hA (φ' := φ') (σ' := σ') hl i c' (by simpa using hi)
    exact ⟨c, by simpa using h1, h2⟩
theorem LendL.len : ∀ {l l' : List C}, LendL σv l l' → l'.length = l.length
  | _, _, .nil => rfl
  | _, _, .cons h hl => by simp [LendL.len hl]
end

theorem LendT.rel {Γ : Cx} {a : Act} {w : World} {φ : Phi} {σ' : Store} {φ' : Phi} {A : Nat → Prop} (hR : R Γ sz ⟨env, σv⟩ φ a w) (hA : ∀ b, A b) {c c' : T} (h : LendT σv c c') {u : Value} (hr : RelT w φ σv (Al Γ.N φ σv) c u) : RelT w φ' σ' A c' u := by
  cases h with
  | c h => cases hr with | c hr => exact .c (h.rel hR hA hr)
  | @agg l l' h =>
    cases hr with | agg us hr =>
      have e : l'.length = l.length := LendL.len (env := env) (sz := sz) h
      rw [← e]
      refine .agg us fun i c hi => ?_
      obtain ⟨c0, h0, hl⟩ := h.get hR hA (φ' := φ') (σ' := σ') i c hi
      exact hl (hr i c0 h0)
theorem LendTs.get : ∀ {l l' : List T}, LendTs σv l l' → l'.length = l.length ∧ ∀ (i : Nat) (t' : T), l'[i]? = some t' → ∃ t, l[i]? = some t ∧ LendT σv t t'
  | _, _, .nil => ⟨rfl, fun i t h => by simp at h⟩
  | _, _, .cons h hl => ⟨by simp [(LendTs.get hl).1], fun i t' hi => by
      cases i with
      | zero =>
        simp only [List.getElem?_cons_zero, Option.some.injEq] at hi
        subst hi
        exact ⟨_, rfl, h⟩
      | succ i => simpa using (LendTs.get hl).2 i t' (by simpa using hi)⟩

def C.scal : C → Bool
  | .imm (.val _) => true
  | _ => false
def T.scal : T → Bool
  | .c x => x.scal
  | .agg cs => cs.all C.scal
  | .tup [] => true
  | .tup [.c a] => a.scal
  | .tup [.c a, .c b] => a.scal && b.scal
  | .tup [.c a, .agg b] => a.scal && b.all C.scal
  | .tup [.c a, .c b, .c d] => a.scal && b.scal && d.scal
  | .tup [.c a, .c b, .agg d] => a.scal && b.scal && d.all C.scal
  | .tup _ => false
  | .undef => false
theorem C.scal_rel {w w' : World} {φ φ' : Phi} {σ σ' : Store} {A A' : Nat → Prop} {c : C} {v : Value} (hs : c.scal = true) (h : RelC w φ σ A c v) : RelC w' φ' σ' A' c v := by
  cases h with
  | imm h => cases h with
    | val h => exact .imm (.val h)
    | _ => simp [C.scal] at hs
  | _ => simp [C.scal] at hs
theorem agg_scal {w w' : World} {φ φ' : Phi} {σ σ' : Store} {A A' : Nat → Prop} {cs : List C} {v : Value} (hs : cs.all C.scal = true) (h : RelT w φ σ A (.agg cs) v) : RelT w' φ' σ' A' (.agg cs) v := by
  cases h with | agg us hr =>
    rw [List.all_eq_true] at hs
    exact .agg us fun i c hi => C.scal_rel (hs c (List.mem_of_getElem? hi)) (hr i c hi)
theorem T.scal_rel {w w' : World} {φ φ' : Phi} {σ σ' : Store} {A A' : Nat → Prop} {t : T} {v : Value} (hs : t.scal = true) (h : RelT w φ σ A t v) : RelT w' φ' σ' A' t v := by
  have one : ∀ {x : C} {v : Value}, x.scal = true → RelT w φ σ A (.c x) v → RelT w' φ' σ' A' (.c x) v := fun hx h => by cases h with | c h => exact .c (C.scal_rel hx h)
  have list : ∀ {ts : List T} {v : Value}, (∀ t ∈ ts, ∀ v, RelT w φ σ A t v → RelT w' φ' σ' A' t v) → RelT w φ σ A (.tup ts) v → RelT w' φ' σ' A' (.tup ts) v := fun hx h => by
    cases h with | tup us hr => exact .tup us fun i t hi => hx t (List.mem_of_getElem? hi) _ (hr i t hi)
  unfold T.scal at hs
  split at hs
  · exact one hs h
  · exact agg_scal hs h
  · exact list (fun t ht => by simp at ht) h
  · exact list (fun t ht v h => by simp at ht; subst ht; exact one hs h) h
  · simp only [Bool.and_eq_true] at hs
    exact list (fun t ht v h => by
      simp at ht
      rcases ht with rfl | rfl
      · exact one hs.1 h
      · exact one hs.2 h) h
  · simp only [Bool.and_eq_true] at hs
    exact list (fun t ht v h => by
      simp at ht
      rcases ht with rfl | rfl
      · exact one hs.1 h
      · exact agg_scal hs.2 h) h
  · simp only [Bool.and_eq_true] at hs
    exact list (fun t ht v h => by
      simp at ht
      rcases ht with rfl | rfl | rfl
      · exact one hs.1.1 h
      · exact one hs.1.2 h
      · exact one hs.2 h) h
  · simp only [Bool.and_eq_true] at hs
    exact list (fun t ht v h => by
      simp at ht
      rcases ht with rfl | rfl | rfl
      · exact one hs.1.1 h
      · exact one hs.1.2 h
      · exact agg_scal hs.2 h) h
  · cases hs
  · cases hs

/-- Old blocks are as they were. -/
theorem Rs.same {Γ : Cx} {σ : Store} {φ : Phi} {w w' : World} (h : Rs Γ σ φ w) (hos : w'.os = w.os) (ht : w'.tape = w.tape) (ho : w'.output = w.output) (hs : w.heap.size ≤ w'.heap.size) (hb : ∀ b, b < w.heap.size → w'.heap[b]? = w.heap[b]?) :
    Kept w w' φ φ σ σ (Al Γ.N φ σ) (Al Γ.N φ σ) ∧ Rs Γ σ φ w' := by
  have hK : Kept w w' φ φ σ σ (Al Γ.N φ σ) (Al Γ.N φ σ) :=
    ⟨fun b _ hl => hb b hl, fun _ h _ => h, Nat.le_refl _, fun i k es hi he => ⟨es, he, rfl, rfl, fun b base arr ety hp h2 => ⟨arr, (hb b (Al.own_lt h.st he hp)).trans h2, rfl⟩⟩, fun _ p _ h => ⟨rfl, p, h⟩⟩
  refine ⟨hK, ?_⟩
  exact {
    good := h.good
    st := ⟨fun i b hi => BlkR.mono hK (fun g base hp => hb g (Al.own_lt h.st hi hp)) (h.st.blk i b hi), h.st.inj⟩
    keep := h.keep
    os := hos.trans h.os
    tape := ht.trans h.tape
    output := ho.trans h.output
    size := Nat.le_trans h.size hs
    block := fun b hK' => (hb b (Nat.lt_of_lt_of_le hK'.1 h.size)).trans (h.block b hK')
    kept := Kept.trans h.size h.kept hK }

/-- A call that only reads, and hands back no memory: it is lent what the caller owns. -/
theorem AOps.callL {x : Operand} {as : List Operand} {ats : Array TypeId} {f : FuncId} {caps : List C} {ts ts' : List T} {r : T} (hx : ev env x = some (.c (.fn f caps))) (ha : evs env as = some ts) (hl : LendTs σv (ts ++ caps.map T.c) ts') (hd : dstOk sz dst = true)
    (hf : PureOk P f ts' r) (hr : r.scal = true) (h : AOps P σ0 sz ops Q rest (St.mk (putE env dst r) σv)) :
    AOps P σ0 sz ops Q (⟨dst, .call ⟨.value x, as.toArray, ats⟩, ty, pos, after, none⟩ :: rest) (St.mk env σv) := fun Γ φ a w hΓ hR =>
  wpList_plain rfl fun K hK => by
    obtain ⟨vs, h1, h2, h3⟩ := call_enter (P := P) (dst := dst) (ty := ty) (pos := pos) (after := after) (ats := ats) hR hx ha hf.fn
    obtain ⟨l1, l2⟩ := hl.get
    unfold Oper.wp
    rw [h1, Oper.upon_enter]
    refine (hf.run (Cx.open w) vs rfl (good_open w) (by rw [l1]; exact h2) (fun i t u hi hu => ?_)).mono ?_
    · obtain ⟨t0, ht0, hlend⟩ := l2 i t hi
      exact hlend.rel hR (al_open w) (h3 i t0 u ht0 hu)
    · rintro e w' ⟨v, r', σ', φ', rfl, hq, hrel, hs⟩
      subst hq
      obtain ⟨hK1, hR1⟩ := hR.toRs.same hs.os hs.tape hs.output hs.size (fun b hb => hs.block b ⟨hb, fun i blk base hi => by simp [Cx.open] at hi⟩)
      exact hK _ _ (h Γ φ _ w' hΓ ((hR.of hK1 hR1).put hd (T.scal_rel hr hrel)))

theorem fnI_inv {w : World} {φ : Phi} {σ : Store} {A : Nat → Prop} {f : FuncId} {caps : List I} {u : Value} (h : RelT w φ σ A (.c (.imm (.fn f caps))) u) : RelT w φ σ A (.c (.fn f (caps.map .imm))) u := by
  cases h with | c h => cases h with | imm h => cases h with | fn us hr =>
    have e : (caps.map C.imm).length = caps.length := by simp
    rw [← e]
    refine .c (.fn us fun i c hi => ?_)
    rw [List.getElem?_map, Option.map_eq_some_iff] at hi
    obtain ⟨x, hx, rfl⟩ := hi
    exact .imm (hr i x hx)

/-- A slot that holds a function value among data. -/
theorem Sub.fnI {t : Nat} {f : FuncId} {caps : List I} (ht : lookup t env = some (.c (.imm (.fn f caps)))) : Sub σ0 ⟨env, σv⟩ ⟨(t, .c (.fn f (caps.map .imm))) :: env, σv⟩ := by
  intro Γ sz φ a w hΓ hR
  refine ⟨φ, { toRs := hR.toRs, defers := hR.defers, asize := hR.asize, env := ?_ }⟩
  intro t' v hv
  simp only [lookup] at hv
  split at hv
  · rename_i e
    have := Nat.eq_of_beq_eq_true e
    subst this
    cases hv
    obtain ⟨u, hu, hr⟩ := hR.env _ _ ht
    exact ⟨u, hu, fnI_inv hr⟩
  · exact hR.env t' v hv

/-! ### New rows handed back -/
theorem S.fresh {α : Type} {g : α → List I} {l : List α} {x : Operand} {as : List Operand} {ats : Array TypeId} {f : FuncId} {caps : List C} {ts : List T} {k : Nat} {n : Id} (hx : ev env x = some (.c (.fn f caps))) (ha : evs env as = some ts) (hok : T.okL 0 (ts ++ caps.map T.c) = true) (hd : dstOk sz dst = true)
    (hf : FreshOk P f (ts ++ caps.map T.c) k (l.map g)) (hn : newF σv = some n) (hσ : snocF σv (.one (vec k g l)) = some σ') (h : AOps P σ0 sz ops Q rest (St.mk (putE env dst (.c (.own n 0 l.length))) σ')) :
    AOps P σ0 sz ops Q (⟨dst, .call ⟨.value x, as.toArray, ats⟩, ty, pos, after, none⟩ :: rest) (St.mk env σv) := by
  have h1 := newF_eq hn; have h2 := snocF_eq hσ
  subst h1 h2
  exact .fresh hx ha hok hd hf (by rw [List.length_map]; exact h)

theorem Fresh.mk {α : Type} {g : α → List I} {l : List α} {id : Id} {k n : Nat} {σ : Store} (hn : n = l.length) (h : σ[id]? = some (some (vec k g l))) : ∃ id', (T.c (.own id 0 n)) = .c (.own id' 0 (l.map g).length) ∧ σ[id']? = some (some (Blk.im k (l.map g))) :=
  ⟨id, by rw [List.length_map, hn], h⟩

theorem FrzL.imm {id : Id} {X : C → C → Prop} : ∀ l : List I, FrzL id X (l.map .imm) (l.map .imm)
  | [] => trivial
  | _ :: r => ⟨.inl ⟨rfl, rfl⟩, FrzL.imm r⟩
theorem FrzB.vec {α : Type} {f : α → List I} {l : List α} {id : Id} {k : Nat} {X : C → C → Prop} : FrzB id X (.one (vec k f l)) (.one (vec k f l)) := by
  have h := Blk.im_no id k (l.map f)
  unfold FrzB
  split
  · rename_i h1 _; cases h1
  · rename_i k1 e k2 e' h1 h2
    simp only [vec, Blk.im, Ent.one.injEq, Blk.cells.injEq] at h1 h2
    obtain ⟨rfl, h1⟩ := h1
    obtain ⟨rfl, h2⟩ := h2
    have : e = e' := by rw [h1] at h2; simpa using h2
    subst this
    refine ⟨rfl, ?_⟩
    obtain ⟨a, rfl⟩ : ∃ a, l = [a] := by
      cases l with
      | nil => simp at h1
      | cons a l => cases l with
        | nil => exact ⟨a, rfl⟩
        | cons b l => simp at h1
    simp only [List.map_cons, List.map_nil, List.cons.injEq, and_true] at h1
    rw [← h1]
    exact FrzL.imm _
  · rename_i h1 h2
    cases h1; cases h2
    exact ⟨rfl, h⟩
  · rename_i h1; cases h1
  · rename_i h1 h2 h3 h4
    first | exact (h3 _ _ rfl rfl).elim | exact (h4 _ _ rfl rfl).elim | exact (h2 _ _ rfl rfl).elim

/-! ### nil where data is asked -/
def NilC (c c' : C) : Prop := c' = c ∨ (c = .imm (.val (.slice none 0 0)) ∧ ∃ k, c' = .imm (.sl k []))
def NilL : List C → List C → Prop
  | [], [] => True
  | c :: l, c' :: l' => NilC c c' ∧ NilL l l'
  | _, _ => False
def NilT : T → T → Prop
  | .c c, .c c' => NilC c c'
  | .agg l, .agg l' => NilL l l'
  | t, t' => t' = t
def NilTs : List T → List T → Prop
  | [], [] => True
  | c :: l, c' :: l' => NilT c c' ∧ NilTs l l'
  | _, _ => False
theorem NilC.rel {w : World} {φ : Phi} {σ : Store} {A : Nat → Prop} {c c' : C} {u : Value} (h : NilC c c') (hr : RelC w φ σ A c u) : RelC w φ σ A c' u := by
  rcases h with rfl | ⟨rfl, k, rfl⟩
  · exact hr
  · cases hr with | imm hr => cases hr; exact .imm .slNil
theorem NilL.get {w : World} {φ : Phi} {σ : Store} {A : Nat → Prop} : ∀ {l l' : List C}, NilL l l' → l'.length = l.length ∧ ∀ (i : Nat) (c' : C), l'[i]? = some c' → ∃ c, l[i]? = some c ∧ ∀ u, RelC w φ σ A c u → RelC w φ σ A c' u
  | [], [], _ => ⟨rfl, fun i c h => by simp at h⟩
  | [], _ :: _, h => h.elim
  | _ :: _, [], h => h.elim
  | c :: l, c' :: l', h => ⟨by simp [(NilL.get (w := w) (φ := φ) (σ := σ) (A := A) h.2).1], fun i x hi => by
      cases i with
      | zero =>
        simp only [List.getElem?_cons_zero, Option.some.injEq] at hi
        subst hi
        exact ⟨c, rfl, fun u hu => h.1.rel hu⟩
      | succ i => simpa using (NilL.get (w := w) (φ := φ) (σ := σ) (A := A) h.2).2 i x (by simpa using hi)⟩
theorem NilT.rel {w : World} {φ : Phi} {σ : Store} {A : Nat → Prop} {t t' : T} {u : Value} (h : NilT t t') (hr : RelT w φ σ A t u) : RelT w φ σ A t' u := by
  cases t <;> cases t' <;> simp only [NilT] at h <;> first
    | (cases hr with | c hr => exact .c (h.rel hr))
    | (cases hr with | agg us hr =>
        obtain ⟨h1, h2⟩ := h.get (w := w) (φ := φ) (σ := σ) (A := A)
        rw [← h1]
        exact .agg us fun i c hi => by
          obtain ⟨c0, h3, h4⟩ := h2 i c hi
          exact h4 _ (hr i c0 h3))
    | (cases h; exact hr)
    | (cases h)
theorem NilTs.get : ∀ {l l' : List T}, NilTs l l' → l'.length = l.length ∧ ∀ (i : Nat) (t' : T), l'[i]? = some t' → ∃ t, l[i]? = some t ∧ NilT t t'
  | [], [], _ => ⟨rfl, fun i c h => by simp at h⟩
  | [], _ :: _, h => h.elim
  | _ :: _, [], h => h.elim
  | c :: l, c' :: l', h => ⟨by simp [(NilTs.get h.2).1], fun i x hi => by
      cases i with
      | zero =>
        simp only [List.getElem?_cons_zero, Option.some.injEq] at hi
        subst hi
        exact ⟨c, rfl, h.1⟩
      | succ i => simpa using (NilTs.get h.2).2 i x (by simpa using hi)⟩
theorem FnOk.nil {f : FuncId} {ts ts' : List T} {σ : Store} {Qf : T → Store → Prop} (h : NilTs ts ts') (hf : FnOk P f ts' σ Qf) : FnOk P f ts σ Qf :=
  ⟨hf.fn, fun Γ vs hΓ hg hl hr => by
    obtain ⟨h1, h2⟩ := h.get
    refine hf.run Γ vs hΓ hg (by rw [h1]; exact hl) (fun i t u hi hu => ?_)
    obtain ⟨t0, h3, h4⟩ := h2 i t hi
    exact h4.rel (hr i t0 u h3 hu)⟩
theorem PureOk.nil {f : FuncId} {ts ts' : List T} {r : T} (h : NilTs ts ts') (hf : PureOk P f ts' r) : PureOk P f ts r := FnOk.nil h hf
theorem FreshOk.nil {f : FuncId} {ts ts' : List T} {k : Nat} {es : List (List I)} (h : NilTs ts ts') (hf : FreshOk P f ts' k es) : FreshOk P f ts k es := FnOk.nil h hf
/-- A slot in which nil is read as a row with nothing in it. -/
theorem Sub.nilT (t : Nat) {v v' : T} (ht : lookup t env = some v) (h : NilT v v') : Sub σ0 ⟨env, σv⟩ ⟨(t, v') :: env, σv⟩ := by
  intro Γ sz φ a w hΓ hR
  refine ⟨φ, { toRs := hR.toRs, defers := hR.defers, asize := hR.asize, env := ?_ }⟩
  intro t' v hv
  simp only [lookup] at hv
  split at hv
  · rename_i e
    have := Nat.eq_of_beq_eq_true e
    subst this
    cases hv
    obtain ⟨u, hu, hr⟩ := hR.env _ _ ht
    exact ⟨u, hu, h.rel hr⟩
  · exact hR.env t' v hv
theorem AWP.nilT {c : Code} (t : Nat) {v v' : T} (ht : lookup t env = some v) (h : NilT v v') (hc : AWP P σ0 sz c Q (St.mk ((t, v') :: env) σv)) : AWP P σ0 sz c Q (St.mk env σv) := AWP.sub (Sub.nilT t ht h) hc

/-- A new row that is handed back, at once read as data. -/
theorem FreshOk.data {f : FuncId} {ts : List T} {k : Nat} {es : List (List I)} (hf : FreshOk P f ts k es) : PureOk P f ts (.c (.imm (.sl k es))) := by
  unfold FreshOk at hf
  unfold PureOk
  refine ⟨hf.fn, fun Γ vs hΓ hg hl hr => (hf.run Γ vs hΓ hg hl hr).mono ?_⟩
  rintro e w ⟨v, r, σ', φ', rfl, ⟨id, rfl, hid⟩, hrel, hs⟩
  have hR : R Γ 1 ⟨[(0, .c (.own id 0 es.length))], σ'⟩ φ' ⟨#[v], []⟩ w :=
    { toRs := hs, defers := rfl, asize := rfl, env := fun t x ht => by
        simp only [lookup] at ht
        split at ht
        · rename_i e
          have := Nat.eq_of_beq_eq_true e
          subst this
          cases ht
          exact ⟨v, rfl, hrel⟩
        · cases ht }
  obtain ⟨φ'', hR2⟩ := Sub.frz (σ0 := []) id k es (Nat.zero_le _) hid Γ 1 φ' _ w hΓ hR
  obtain ⟨u, hu, hr2⟩ := hR2.env 0 (.c (.imm (.sl k es))) (by simp [St.frz, lookup, T.frz, C.frz, idb_iff.2 rfl])
  cases hu
  exact ⟨v, _, _, φ'', rfl, rfl, hr2, hR2.toRs⟩

theorem okL_app {ts : List T} {cv : List C} (h1 : T.okL 0 ts = true) (h2 : C.okL 0 cv = true) : T.okL 0 (ts ++ cv.map T.c) = true := by
  rw [TokL_eq, List.all_eq_true] at h1 ⊢
  rw [okL_eq, List.all_eq_true] at h2
  intro x hx
  rw [List.mem_append, List.mem_map] at hx
  rcases hx with hx | ⟨c, hc, rfl⟩
  · exact h1 x hx
  · exact h2 c hc
theorem okL_im (cv : List I) : C.okL 0 (cv.map C.imm) = true := okL_imm 0 cv

theorem Sub.look {env env' : Env} (h : ∀ t v, lookup t env' = some v → lookup t env = some v) : Sub σ0 ⟨env, σv⟩ ⟨env', σv⟩ := fun _ _ φ _ _ _ hR =>
  ⟨φ, { toRs := hR.toRs, defers := hR.defers, asize := hR.asize, env := fun t v ht => hR.env t v (h t v ht) }⟩

theorem Sub.fnC {t : Nat} {f : FuncId} {caps : List I} (ht : lookup t env = some (.c (.fn f (caps.map .imm)))) : Sub σ0 ⟨env, σv⟩ ⟨(t, .c (.imm (.fn f caps))) :: env, σv⟩ := by
  intro Γ sz φ a w hΓ hR
  refine ⟨φ, { toRs := hR.toRs, defers := hR.defers, asize := hR.asize, env := ?_ }⟩
  intro t' v hv
  simp only [lookup] at hv
  split at hv
  · rename_i e
    have := Nat.eq_of_beq_eq_true e
    subst this
    cases hv
    obtain ⟨u, hu, hr⟩ := hR.env _ _ ht
    refine ⟨u, hu, ?_⟩
    cases hr with | c hr => cases hr with | fn us hr =>
      have e : (caps.map C.imm).length = caps.length := by simp
      rw [e]
      refine .c (.imm (.fn us fun i c hi => ?_))
      have := hr i (.imm c) (by rw [List.getElem?_map, hi]; rfl)
      cases this with | imm this => exact this
  · exact hR.env t' v hv

/-- A call of a function value that stands among data. -/
theorem AOps.callRI {t : Nat} {as : List Operand} {ats : Array TypeId} {f : FuncId} {caps : List I} {ts : List T} {r : T} (ht : lookup t env = some (.c (.imm (.fn f caps)))) (ha : evs ((t, .c (.fn f (caps.map .imm))) :: env) as = some ts) (hok : T.okL 0 ts = true) (hd : dstOk sz dst = true) (hne : (dst == some t) = false)
    (hf : PureOk P f (ts ++ (caps.map C.imm).map T.c) r) (hr : r.ok 0 = true) (h : AOps P σ0 sz ops Q rest (St.mk (putE env dst r) σv)) :
    AOps P σ0 sz ops Q (⟨dst, .call ⟨.value (.tmp t), as.toArray, ats⟩, ty, pos, after, none⟩ :: rest) (St.mk env σv) := by
  have hne' : dst ≠ some t := by simpa using hne
  have l1 : lookup t ((t, T.c (.fn f (caps.map .imm))) :: env) = some (.c (.fn f (caps.map .imm))) := by simp [lookup]
  refine AOps.sub (Sub.fnI ht) (AOps.callR (caps := caps.map .imm) (by exact l1) ha (okL_app hok (okL_im caps)) hd hf hr ?_)
  have l2 : lookup t (putE ((t, T.c (.fn f (caps.map .imm))) :: env) dst r) = some (.c (.fn f (caps.map .imm))) := by
    cases dst with
    | none => exact l1
    | some d =>
      have : Nat.beq d t = false := beq_ne (fun e => hne' (by rw [e]))
      simp only [putE, lookup, this]
      exact l1
  refine AOps.sub (Sub.fnC l2) (AOps.sub (Sub.look fun t' v hv => ?_) h)
  by_cases htt : t = t'
  · subst htt
    cases dst with
    | none =>
      simp only [putE] at hv
      rw [ht] at hv
      simpa [lookup] using hv
    | some d =>
      have : Nat.beq d t = false := beq_ne (fun e => hne' (by rw [e]))
      simp only [putE, lookup, this] at hv
      rw [ht] at hv
      simpa [lookup] using hv
  · have e1 : Nat.beq t t' = false := beq_ne htt
    cases dst with
    | none => simpa [putE, lookup, e1] using hv
    | some d =>
      simp only [putE, lookup] at hv ⊢
      simp only [e1]
      exact hv
end
end Ab
