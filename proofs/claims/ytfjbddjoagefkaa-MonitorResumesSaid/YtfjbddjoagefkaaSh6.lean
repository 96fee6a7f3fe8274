/-
  More about rows of rows: an address of a head whatever the state, what other blocks need to say, moves and freezing as steps of code.
-/
import Derived.Test.YtfjbddjoagefkaaSh5
namespace Ab
open Go

/-- Go's >>. -/
def shrW (k : IntKind) (a b : Int) : Int := a.fdiv (2 ^ (min b.toNat k.bits))

section
variable {α : Type}
theorem mat_sub {r k : Nat} {f : α → List I} {M : List (List α)} {p : List Nat} {b : Blk} (h : (mat (r, []) k f M).sub p = some b) : (p = [] ∧ b = .cells 1 (hdr (r, []) M)) ∨ (∃ q row, p = [q] ∧ M[q]? = some row ∧ b = vec k f row) := by
  cases p with
  | nil => cases h; exact .inl ⟨rfl, rfl⟩
  | cons a q =>
    rw [mat_row] at h
    split at h
    · rename_i row hr
      cases q with
      | nil => cases h; exact .inr ⟨a, row, rfl, hr, rfl⟩
      | cons => cases h
    · cases h
theorem hdr_no {r : Nat} {M : List (List α)} {id : Id} (h : id.1 ≠ r) : (Blk.cells 1 (hdr (r, []) M)).no id = true := by
  simp only [Blk.no, List.all_eq_true]
  intro e he
  obtain ⟨j, hj⟩ := List.getElem?_of_mem he
  obtain ⟨row, _, rfl⟩ := hdr_some hj
  have : idb (r, [j]) id = false := idb_ne (fun e => h (by rw [← e]))
  simp [C.noL, C.no, this]
theorem EntOk.mat {n r k : Nat} {f : α → List I} {M : List (List α)} (h : Nat.blt r n = true) : EntOk n (mat (r, []) k f M) := by
  have hr : r < n := by simp [Nat.blt] at h; omega
  intro p b hb
  rcases mat_sub hb with ⟨rfl, rfl⟩ | ⟨q, row, rfl, _, rfl⟩
  · exact hdr_ok hr M
  · exact vec_ok
theorem FrzB.mat {r k : Nat} {f : α → List I} {M : List (List α)} {id : Id} {X : C → C → Prop} (h : Nat.beq id.1 r = false) : FrzB id X (mat (r, []) k f M) (mat (r, []) k f M) := by
  have hr : id.1 ≠ r := fun e => by simp [e] at h
  refine ⟨rfl, fun p b hb => ?_⟩
  rcases mat_sub hb with ⟨rfl, rfl⟩ | ⟨q, row, rfl, _, rfl⟩
  · exact hdr_no hr
  · exact Blk.im_no _ _ _
theorem EntMv.mat {r k m : Nat} {f : α → List I} {M : List (List α)} {id n : Id} {σ : Store} (h : Nat.beq id.1 r = false) (hr : Nat.blt r m = true) (hσ : σ[r]? = some (mat (r, []) k f M)) : EntMv id n σ m r (mat (r, []) k f M) := by
  have hne : id.1 ≠ r := fun e => by simp [e] at h
  have hlt : r < m := by simp [Nat.blt] at hr; omega
  intro p b hb
  have hm : mv id n (r, p) = (r, p) := by
    have : (r, p) ≠ id := fun e => hne (by rw [← e])
    simp [mv, idb_ne this]
  rw [hm, ent_at hσ, show (Ab.mat (r, []) k f M).sub p = some b from hb]
  rcases mat_sub hb with ⟨rfl, rfl⟩ | ⟨q, row, rfl, _, rfl⟩
  · exact ⟨hdr_ok hlt M, by rw [Blk.ren_no _ (hdr_no hne)]⟩
  · exact ⟨vec_ok, by rw [Blk.im_ren]⟩
end

section
variable {P : Program} {σ0 : Store} {sz : Nat} {Q : Post} {env env' : Env} {σv σ' : Store} {ops : Array Oper} {rest : List Oper} {dst : Option Nat} {ty : TypeId} {pos : String} {after : Array Edge}
variable {α : Type} {f : α → List I} {M : List (List α)} {k r : Nat}

/-- The address of a head, whatever becomes of the rows. -/
theorem S.idxH {x y : Operand} {t e : TypeId} {bytes n : Nat} {z : Value} {kk : IntKind} {i : Int} {a : List α} {es : List (List C)} [ht : TyD P t (.slice e)] [hs : TyS P e 1 bytes z]
    (he : ix M i = some a) (hx : ev env x = some (.c (.own (r, []) 0 n))) (hn : n = M.length) (hσ : σv[((r, []) : Id)]? = some (some (.cells 1 es))) (hes : es.length = M.length) (hy : ev env y = some (.c (.imm (.val (.int kk i))))) (hd : dstOk sz dst = true)
    (h : AOps P σ0 sz ops Q rest (St.mk (putE env dst (.c (.ptr (r, []) i.toNat 0))) σv)) : AOps P σ0 sz ops Q (⟨dst, .indexAddr t x y, ty, pos, after, none⟩ :: rest) (St.mk env σv) :=
  .indexAddrOwn hx hσ hy (by have := ix_get he; have := ix_lt he; omega) hd (by rw [Nat.zero_add]; exact h)

/-- What the entries of the other blocks must be for row p of root r to be put in its place. -/
inductive OthE (n r p : Nat) : Nat → Option Ent → Ent → Prop
  | self {a b} : OthE n r p r a b
  | dead {j a} : OthE n r p j a .dead
  | one {j b} (h1 : b.ok n = true) (h2 : b.no (r, [p]) = true) : OthE n r p j (some (.one b)) (.one b)
  | vec {j} {β : Type} {k : Nat} {g : β → List I} {l : List β} : OthE n r p j (some (.one (vec k g l))) (.one (vec k g l))
  | mat {j} {β : Type} {k : Nat} {g : β → List I} {l : List (List β)} (h1 : Nat.beq r j = false) (h2 : Nat.blt j n = true) : OthE n r p j (some (mat (j, []) k g l)) (mat (j, []) k g l)
def OthL (n r p : Nat) (σ : Store) : Nat → List Ent → Prop
  | _, [] => True
  | j, e :: l => OthE n r p j σ[j]? e ∧ OthL n r p σ (j + 1) l
theorem OthL.get {n r p : Nat} {σ : Store} : ∀ {j : Nat} {l : List Ent}, OthL n r p σ j l → ∀ i e, l[i]? = some e → OthE n r p (j + i) σ[j + i]? e
  | _, [], _, i, e, h => by simp at h
  | j, _ :: _, h, 0, e, he => by simp only [List.getElem?_cons_zero, Option.some.injEq] at he; subst he; exact h.1
  | j, _ :: l, h, i + 1, e, he => by
    have := OthL.get h.2 i e (by simpa using he)
    rwa [show j + 1 + i = j + (i + 1) by omega] at this
theorem OthL.all {n p : Nat} (h : OthL n r p σv 0 σ') (i : Id) (b : Blk) (hi : i.1 ≠ r) (hb : σ'[i]? = some (some b)) : σv[i]? = some (some b) ∧ b.ok n = true ∧ b.no (r, [p]) = true := by
  obtain ⟨j, q⟩ := i
  simp only at hi
  have hj : ∃ e, σ'[j]? = some e ∧ e.sub q = some b := by
    rw [Store.at_eq] at hb
    simp only [Store.at] at hb
    cases he : σ'[j]? with
    | none => simp [he] at hb
    | some e => rw [he] at hb; simp only [Option.some.injEq] at hb; exact ⟨e, rfl, hb⟩
  obtain ⟨e, he, heb⟩ := hj
  have g := OthL.get h j e he
  rw [Nat.zero_add] at g
  generalize ho : σv[j]? = o at g
  cases g with
  | self => exact absurd rfl hi
  | dead => cases q <;> cases heb
  | one h1 h2 =>
    rw [ent_at ho]
    cases q with
    | nil => cases heb; exact ⟨rfl, h1, h2⟩
    | cons => cases heb
  | vec =>
    rw [ent_at ho]
    cases q with
    | nil => cases heb; exact ⟨rfl, vec_ok, Blk.im_no _ _ _⟩
    | cons => cases heb
  | mat h1 h2 =>
    rw [ent_at ho, heb]
    have hlt : j < n := by simp [Nat.blt] at h2; omega
    have hne : r ≠ j := fun e => by simp [e] at h1
    rcases mat_sub heb with ⟨rfl, rfl⟩ | ⟨q', row, rfl, _, rfl⟩
    · exact ⟨rfl, hdr_ok hlt _, hdr_no (by simpa using hne)⟩
    · exact ⟨rfl, vec_ok, Blk.im_no _ _ _⟩

theorem AWP.moveR {c : Code} {s m p : Nat} {row row' : List α} (hM : MatAt σv r k f M p (s, []) m) (he : M[p]? = some row) (hm : m = row'.length) (hs : σv[((s, []) : Id)]? = some (some (vec k f row')))
    (h0 : Nat.ble σ0.length r = true) (hl : Nat.ble σ0.length σ'.length = true) (hr : σ'[r]? = some (mat (r, []) k f (M.set p row'))) (hns : σ'[s]? = none ∨ σ'[s]? = some .dead)
    (hoth : OthL σ'.length r p σv 0 σ')
    (henv : SubEnv env env') (hok : envOk σ'.length env' = true) (hno : envNo (r, [p]) env' = true) (h : AWP P σ0 sz c Q (St.mk env' σ')) : AWP P σ0 sz c Q (St.mk env σv) :=
  AWP.sub (Sub.moveR hM he hm hs h0 hl hr hns hoth.all henv hok hno) h

/-- The same for all rows of root r. -/
inductive RlE (r : Nat) : Nat → Ent → Prop
  | self {b} : RlE r r b
  | dead {j} : RlE r j .dead
  | one {j b} (h2 : ∀ p, b.no (r, [p]) = true) : RlE r j (.one b)
  | vec {j} {β : Type} {k : Nat} {g : β → List I} {l : List β} : RlE r j (.one (vec k g l))
  | mat {j} {β : Type} {k : Nat} {g : β → List I} {l : List (List β)} (h1 : Nat.beq r j = false) : RlE r j (mat (j, []) k g l)
def RlL (r : Nat) : Nat → List Ent → Prop
  | _, [] => True
  | j, e :: l => RlE r j e ∧ RlL r (j + 1) l
theorem RlL.get {r : Nat} : ∀ {j : Nat} {l : List Ent}, RlL r j l → ∀ i e, l[i]? = some e → RlE r (j + i) e
  | _, [], _, i, e, h => by simp at h
  | j, _ :: _, h, 0, e, he => by simp only [List.getElem?_cons_zero, Option.some.injEq] at he; subst he; exact h.1
  | j, _ :: l, h, i + 1, e, he => by
    have := RlL.get h.2 i e (by simpa using he)
    rwa [show j + 1 + i = j + (i + 1) by omega] at this
theorem RlL.all (h : RlL r 0 σv) : RowlessS r σv := by
  intro i b hi hb q
  obtain ⟨j, t⟩ := i
  simp only at hi
  have hj : ∃ e, σv[j]? = some e ∧ e.sub t = some b := by
    rw [Store.at_eq] at hb
    simp only [Store.at] at hb
    cases he : σv[j]? with
    | none => simp [he] at hb
    | some e => rw [he] at hb; simp only [Option.some.injEq] at hb; exact ⟨e, rfl, hb⟩
  obtain ⟨e, he, heb⟩ := hj
  have g := RlL.get h j e he
  rw [Nat.zero_add] at g
  cases g with
  | self => exact absurd rfl hi
  | dead => cases t <;> cases heb
  | one h2 => cases t with
    | nil => cases heb; exact h2 q
    | cons => cases heb
  | vec => cases t with
    | nil => cases heb; exact Blk.im_no _ _ _
    | cons => cases heb
  | mat h1 =>
    have hne : r ≠ j := fun e => by simp [e] at h1
    rcases mat_sub heb with ⟨rfl, rfl⟩ | ⟨q', row, rfl, _, rfl⟩
    · exact hdr_no (by simpa using hne)
    · exact Blk.im_no _ _ _
/-- The rest of the slots is forgotten as the whole ceases to change. -/
theorem Sub.matV' (r : Nat) (h0 : Nat.ble σ0.length r = true) (henv : SubEnv env env') (hσ : σv[r]? = some (mat (r, []) k f M)) (hno : RlL r 0 σv) (he : rowlessE r env' = true) (hσ' : setF σv r (.one (vec 1 (fun row => [I.sl k (row.map f)]) M)) = some σ') : Sub σ0 ⟨env, σv⟩ ⟨env', σ'⟩ :=
  (Sub.env henv).trans (Sub.matV h0 hσ hno.all he hσ')
theorem AWP.matV' {c : Code} (r : Nat) (h0 : Nat.ble σ0.length r = true) (henv : SubEnv env env') (hσ : σv[r]? = some (mat (r, []) k f M)) (hno : RlL r 0 σv) (he : rowlessE r env' = true) (hσ' : setF σv r (.one (vec 1 (fun row => [I.sl k (row.map f)]) M)) = some σ')
    (h : AWP P σ0 sz c Q (St.mk env' σ')) : AWP P σ0 sz c Q (St.mk env σv) := AWP.sub (Sub.matV' r h0 henv hσ hno he hσ') h
theorem AOps.matV' (r : Nat) (h0 : Nat.ble σ0.length r = true) (henv : SubEnv env env') (hσ : σv[r]? = some (mat (r, []) k f M)) (hno : RlL r 0 σv) (he : rowlessE r env' = true) (hσ' : setF σv r (.one (vec 1 (fun row => [I.sl k (row.map f)]) M)) = some σ')
    (h : AOps P σ0 sz ops Q rest (St.mk env' σ')) : AOps P σ0 sz ops Q rest (St.mk env σv) := AOps.sub (Sub.matV' r h0 henv hσ hno he hσ') h

/-! ### Blocks that nothing speaks of are forgotten -/
inductive CutE (n : Nat) : Nat → Option Ent → Ent → Prop
  | dead {j a} : CutE n j a .dead
  | one {j b} (h1 : b.ok n = true) : CutE n j (some (.one b)) (.one b)
  | eq {j b b'} (h1 : b'.ok n = true) (h2 : b' = b) : CutE n j (some (.one b)) (.one b')
  | vec {j} {β : Type} {k : Nat} {g : β → List I} {l : List β} : CutE n j (some (.one (vec k g l))) (.one (vec k g l))
  | mat {j} {β : Type} {k : Nat} {g : β → List I} {l : List (List β)} (h2 : Nat.blt j n = true) : CutE n j (some (mat (j, []) k g l)) (mat (j, []) k g l)
def CutL (n : Nat) (σ : Store) : Nat → List Ent → Prop
  | _, [] => True
  | j, e :: l => CutE n j σ[j]? e ∧ CutL n σ (j + 1) l
theorem CutL.get {n : Nat} {σ : Store} : ∀ {j : Nat} {l : List Ent}, CutL n σ j l → ∀ i e, l[i]? = some e → CutE n (j + i) σ[j + i]? e
  | _, [], _, i, e, h => by simp at h
  | j, _ :: _, h, 0, e, he => by simp only [List.getElem?_cons_zero, Option.some.injEq] at he; subst he; exact h.1
  | j, _ :: l, h, i + 1, e, he => by
    have := CutL.get h.2 i e (by simpa using he)
    rwa [show j + 1 + i = j + (i + 1) by omega] at this
theorem Sub.cut (henv : SubEnv env env') (hl : Nat.ble σ0.length σ'.length = true) (h : CutL σ'.length σv 0 σ') (hok : envOk σ'.length env' = true) : Sub σ0 ⟨env, σv⟩ ⟨env', σ'⟩ := by
  refine Sub.mk (fun i => i) (fun i _ => rfl) (Nat.le_of_ble_eq_true hl) (fun i j b b' _ _ h => h) (fun i b hb => ?_) (fun t v ht => ⟨envOk_get hok t v ht, ?_⟩)
  · rw [Blk.ren_id]
    obtain ⟨j, q⟩ := i
    dsimp only at hb ⊢
    have hj : ∃ e, σ'[j]? = some e ∧ e.sub q = some b := by
      rw [Store.at_eq] at hb
      simp only [Store.at] at hb
      cases he : σ'[j]? with
      | none => simp [he] at hb
      | some e => rw [he] at hb; simp only [Option.some.injEq] at hb; exact ⟨e, rfl, hb⟩
    obtain ⟨e, he, heb⟩ := hj
    have g := CutL.get h j e he
    rw [Nat.zero_add] at g
    generalize ho : σv[j]? = o at g
    cases g with
    | dead => cases q <;> cases heb
    | one h1 =>
      rw [ent_at ho]
      cases q with
      | nil => cases heb; exact ⟨h1, rfl⟩
      | cons => cases heb
    | eq h1 h2 =>
      subst h2
      rw [ent_at ho]
      cases q with
      | nil => cases heb; exact ⟨h1, rfl⟩
      | cons => cases heb
    | vec =>
      rw [ent_at ho]
      cases q with
      | nil => cases heb; exact ⟨vec_ok, rfl⟩
      | cons => cases heb
    | mat h2 =>
      rw [ent_at ho, heb]
      have hlt : j < σ'.length := by simp [Nat.blt] at h2; omega
      rcases mat_sub heb with ⟨rfl, rfl⟩ | ⟨q', row, rfl, _, rfl⟩
      · exact ⟨hdr_ok hlt _, rfl⟩
      · exact ⟨vec_ok, rfl⟩
  · rw [T.ren_id]
    exact henv.get t v ht
end
end Ab
