/-
  ROWS OF ROWS that are owned down to the bottom: made, read, written, appended to; at last data.
-/
import Derived.Test.YtfjbddjoagefkaaSh4
namespace Ab
open Go

section
variable {α : Type}
/-- What stands in the root's cells: the rows below it. -/
def hdr (id : Id) (M : List (List α)) : List (List C) := M.mapIdx fun p row => [.own (id.1, id.2 ++ [p]) 0 row.length]
/-- A root with its rows. -/
def mat (id : Id) (k : Nat) (f : α → List I) (M : List (List α)) : Ent := .node (some (.cells 1 (hdr id M))) (M.map fun row => .one (vec k f row))
/-- The same, while row p is made anew under the name n, m long. -/
def matS (id : Id) (k : Nat) (f : α → List I) (M : List (List α)) (p : Nat) (n : Id) (m : Nat) : Ent := .node (some (.cells 1 ((hdr id M).set p [.own n 0 m]))) (M.map fun row => .one (vec k f row))
/-- The same, while row p is away. -/
def matD (id : Id) (k : Nat) (f : α → List I) (M : List (List α)) (p : Nat) : Ent := .node (some (.cells 1 (hdr id M))) ((M.map fun row => .one (vec k f row)).set p .dead)
def matSD (id : Id) (k : Nat) (f : α → List I) (M : List (List α)) (p : Nat) (n : Id) (m : Nat) : Ent := .node (some (.cells 1 ((hdr id M).set p [.own n 0 m]))) ((M.map fun row => .one (vec k f row)).set p .dead)

theorem hdr_get {id : Id} {M : List (List α)} {p : Nat} {row : List α} (h : M[p]? = some row) : (hdr id M)[p]? = some [.own (id.1, id.2 ++ [p]) 0 row.length] := by
  simp [hdr, List.getElem?_mapIdx, h]
theorem hdr_some {id : Id} {M : List (List α)} {p : Nat} {e : List C} (h : (hdr id M)[p]? = some e) : ∃ row, M[p]? = some row ∧ e = [.own (id.1, id.2 ++ [p]) 0 row.length] := by
  simp only [hdr, List.getElem?_mapIdx, Option.map_eq_some_iff] at h
  obtain ⟨row, h1, h2⟩ := h
  exact ⟨row, h1, h2.symm⟩
@[simp] theorem hdr_length (id : Id) (M : List (List α)) : (hdr id M).length = M.length := by simp [hdr]
theorem hdr_set {id : Id} {M : List (List α)} {p : Nat} {row : List α} : hdr id (M.set p row) = (hdr id M).set p [.own (id.1, id.2 ++ [p]) 0 row.length] := by
  apply List.ext_getElem?
  intro i
  by_cases hi : p = i
  · subst hi
    by_cases hl : p < M.length
    · simp [hdr, List.getElem?_mapIdx, List.getElem?_set, hl]
    · simp [hdr, List.getElem?_mapIdx, List.getElem?_set, hl]
  · simp [hdr, List.getElem?_mapIdx, List.getElem?_set, hi]
theorem hdr_same {id : Id} {M : List (List α)} {p : Nat} {row row' : List α} (h : M[p]? = some row) (hl : row'.length = row.length) : hdr id (M.set p row') = hdr id M := by
  rw [hdr_set, hl]
  apply List.ext_getElem?
  intro i
  rw [List.getElem?_set]
  by_cases hi : p = i
  · subst hi
    have hp : p < (hdr id M).length := by rw [hdr_length]; exact (List.getElem?_eq_some_iff.1 h).1
    rw [if_pos rfl, if_pos hp, hdr_get h]
  · rw [if_neg hi]

theorem mat_main {id : Id} {k : Nat} {f : α → List I} {M : List (List α)} : (mat id k f M).sub [] = some (.cells 1 (hdr id M)) := rfl
theorem mat_row {id : Id} {k : Nat} {f : α → List I} {M : List (List α)} {p : Nat} {q : List Nat} : (mat id k f M).sub (p :: q) = match M[p]? with | some row => (match q with | [] => some (vec k f row) | _ :: _ => none) | none => none := by
  simp only [mat, Ent.sub, List.getElem?_map]
  cases M[p]? with
  | none => rfl
  | some row => cases q <;> rfl
end

/-- The entry of a root. -/
theorem ent_at {σ : Store} {r : Nat} {e : Ent} (h : σ[r]? = some e) (p : List Nat) : σ[((r, p) : Id)]? = some (e.sub p) := by
  rw [Store.at_eq]; simp only [Store.at, h]

section
variable {P : Program} {σ0 : Store} {sz : Nat} {Q : Post} {env env' : Env} {σv σ' : Store} {ops : Array Oper} {rest : List Oper} {dst : Option Nat} {ty : TypeId} {pos : String} {after : Array Edge}
variable {α : Type} {f : α → List I} {M : List (List α)} {k r : Nat}

theorem mat_get (h : σv[r]? = some (mat (r, []) k f M)) {i : Int} {row : List α} (he : ix M i = some row) : σv[((r, [i.toNat]) : Id)]? = some (some (vec k f row)) := by
  rw [ent_at h, mat_row, (ix_get he).2]
theorem mat_head (h : σv[r]? = some (mat (r, []) k f M)) : σv[((r, []) : Id)]? = some (some (.cells 1 (hdr (r, []) M))) := by rw [ent_at h]; rfl

/-! ### Reading -/
theorem S.lenM {x : Operand} {t e : TypeId} {n : Nat} [ht : TyD P t (.slice e)] (hx : ev env x = some (.c (.own (r, []) 0 n))) (hσ : σv[r]? = some (mat (r, []) k f M)) (hd : dstOk sz dst = true)
    (h : n ≤ 9223372036854775807 → AOps P σ0 sz ops Q rest (St.mk (putE env dst (.c (int n))) σv)) : AOps P σ0 sz ops Q (⟨dst, .call ⟨.builtin .len, #[x], #[t]⟩, ty, pos, after, none⟩ :: rest) (St.mk env σv) :=
  .lenOwnB hx (mat_head hσ) hd h

theorem S.idxM {x y : Operand} {t e : TypeId} {bytes n : Nat} {z : Value} {kk : IntKind} {i : Int} {a : List α} [ht : TyD P t (.slice e)] [hs : TyS P e 1 bytes z]
    (he : ix M i = some a) (hx : ev env x = some (.c (.own (r, []) 0 n))) (hn : n = M.length) (hσ : σv[r]? = some (mat (r, []) k f M)) (hy : ev env y = some (.c (.imm (.val (.int kk i))))) (hd : dstOk sz dst = true)
    (h : AOps P σ0 sz ops Q rest (St.mk (putE env dst (.c (.ptr (r, []) i.toNat 0))) σv)) : AOps P σ0 sz ops Q (⟨dst, .indexAddr t x y, ty, pos, after, none⟩ :: rest) (St.mk env σv) :=
  .indexAddrOwn hx (mat_head hσ) hy (by have := ix_get he; have := ix_lt he; omega) hd (by rw [Nat.zero_add]; exact h)

/-- A row's head. -/
theorem S.loadM {x : Operand} {t : TypeId} {d : TypeDesc} {i : Int} {a : List α} [ht : TyD P t d] (he : ix M i = some a) (ha : isAggD d = false) (hx : ev env x = some (.c (.ptr (r, []) i.toNat 0))) (hσ : σv[r]? = some (mat (r, []) k f M))
    (hd : dstOk sz dst = true) (h : AOps P σ0 sz ops Q rest (St.mk (putE env dst (.c (.own (r, [i.toNat]) 0 a.length))) σv)) : AOps P σ0 sz ops Q (⟨dst, .load t x, ty, pos, after, none⟩ :: rest) (St.mk env σv) :=
  .load ha hx (mat_head hσ) (hdr_get (ix_get he).2) rfl hd h

/-! ### A row written -/
theorem set_ent {σ : Store} {r : Nat} {e e' : Ent} (h : σ[r]? = some e) (i : Id) : (σ.set r e')[i]? = if i.1 = r then some (e'.sub i.2) else σ[i]? := by
  have hr := (List.getElem?_eq_some_iff.1 h).1
  rw [Store.at_eq, Store.at_eq]
  simp only [Store.at, List.getElem?_set]
  by_cases hi : r = i.1
  · subst hi; simp [hr]
  · rw [if_neg hi, if_neg (fun e => hi e.symm)]

theorem mat_put (h : σv[r]? = some (mat (r, []) k f M)) {p : Nat} {row row' : List α} (he : M[p]? = some row) (hl : row'.length = row.length) (i : Id) :
    (σv.put (r, [p]) (some (vec k f row')))[i]? = (σv.set r (mat (r, []) k f (M.set p row')))[i]? := by
  have hrow : σv[((r, [p]) : Id)]? = some (some (vec k f row)) := by rw [ent_at h, mat_row, he]
  have hp := (List.getElem?_eq_some_iff.1 he).1
  rw [set_ent h]
  by_cases hi : i = (r, [p])
  · subst hi
    rw [Store.get_put_eq hrow, if_pos rfl, mat_row]
    simp [hp]
  · rw [Store.get_put_ne hi]
    by_cases hr : i.1 = r
    · obtain ⟨i1, q⟩ := i
      simp only at hr
      subst hr
      rw [if_pos rfl, ent_at h]
      congr 1
      cases q with
      | nil => simp only [mat_main]; rw [hdr_same he hl]
      | cons a q =>
        rw [mat_row, mat_row, List.getElem?_set]
        by_cases hap : p = a
        · subst hap
          cases q with
          | nil => exact absurd rfl hi
          | cons b q => rw [if_pos rfl, if_pos hp, he]
        · rw [if_neg hap]
    · rw [if_neg hr]

theorem S.storeR1 {x y : Operand} {t : TypeId} {bytes : Nat} {z : Value} {p i : Nat} {row : List α} {a' : α} {c : I} [hs : TyS P t 1 bytes z] (he : M[p]? = some row) (hi : i < row.length) (hf : ∀ a, ∃ u, f a = [u]) (hf' : f a' = [c]) (hx : ev env x = some (.c (.ptr (r, [p]) i 0))) (hy : ev env y = some (.c (.imm c)))
    (hσ : σv[r]? = some (mat (r, []) k f M)) (hσ' : setF σv r (mat (r, []) k f (M.set p (row.set i a'))) = some σ') (h : AOps P σ0 sz ops Q rest (St.mk env σ')) : AOps P σ0 sz ops Q (⟨none, .store t x y, ty, pos, after, none⟩ :: rest) (St.mk env σv) := by
  have h2 := (setF_eq hσ').1
  subst h2
  have hrow : σv[((r, [p]) : Id)]? = some (some (vec k f row)) := by rw [ent_at hσ, mat_row, he]
  obtain ⟨u, hu⟩ := hf row[i]
  refine AOps.store hx hy hrow (vec_get (List.getElem?_eq_getElem hi)) (by rw [hu]; simp) ?_
  rw [hu, show ([u].map C.imm).set 0 (.imm c) = (f a').map .imm by rw [hf']; rfl, vec_set]
  refine AOps.sub (Sub.same (by simp) fun j => mat_put hσ he (by simp) j) h

/-! ### Appended to a row -/
theorem matD_put (h : σv[r]? = some (mat (r, []) k f M)) {p : Nat} {row : List α} (he : M[p]? = some row) (i : Id) :
    (σv.put (r, [p]) none)[i]? = (σv.set r (matD (r, []) k f M p))[i]? := by
  have hrow : σv[((r, [p]) : Id)]? = some (some (vec k f row)) := by rw [ent_at h, mat_row, he]
  have hp := (List.getElem?_eq_some_iff.1 he).1
  rw [set_ent h]
  by_cases hi : i = (r, [p])
  · subst hi
    rw [Store.get_put_eq hrow, if_pos rfl]
    simp [matD, Ent.sub, hp]
  · rw [Store.get_put_ne hi]
    by_cases hr : i.1 = r
    · obtain ⟨i1, q⟩ := i
      simp only at hr
      subst hr
      rw [if_pos rfl, ent_at h]
      congr 1
      cases q with
      | nil => rfl
      | cons a q =>
        simp only [mat, matD, Ent.sub, List.getElem?_set, List.length_map]
        by_cases hap : p = a
        · subst hap
          cases q with
          | nil => exact absurd rfl hi
          | cons b q => rw [if_pos rfl, if_pos hp]; simp [he, Ent.sub]
        · rw [if_neg hap]
    · rw [if_neg hr]

theorem S.appendR {new l' row : List α} {x y : Operand} {t e : TypeId} {bytes m p : Nat} {n : Id} {z : Value} {v : T} {σ1 : Store} [ht : TyD P t (.slice e)] [hs : TyS P e k bytes z]
    (ha : app bytes row new = some l') (he : M[p]? = some row) (hzk : (z.cells.size == k) = true) (hbp : Nat.blt 0 bytes = true)
    (hx : ev env x = some (.c (.own (r, [p]) 0 m))) (hm : m = row.length) (hσ : σv[r]? = some (mat (r, []) k f M)) (hy : ev env y = some v) (hsrc : SrcF σv k f v new) (hn : newF σv = some n) (h1 : setF σv r (matD (r, []) k f M p) = some σ1) (hσ' : snocF σ1 (.one (vec k f l')) = some σ') (hd : dstOk sz dst = true)
    (h : AOps P σ0 sz ops Q rest (St.mk (putE env dst (.c (.own n 0 l'.length))) σ')) :
    AOps P σ0 sz ops Q (⟨dst, .call ⟨.builtin .append, #[x, y], #[t, t]⟩, ty, pos, after, none⟩ :: rest) (St.mk env σv) := by
  obtain ⟨hb, rfl⟩ := app_get ha
  have h2 := (setF_eq h1).1
  have h3 := newF_eq hn; have h4 := snocF_eq hσ'
  subst hm h2 h3 h4
  have hrow : σv[((r, [p]) : Id)]? = some (some (vec k f row)) := by rw [ent_at hσ, mat_row, he]
  refine AOps.append (new := (new.map f).map (·.map .imm)) hzk hbp hx hrow hy hsrc.src (by simpa using hb) hd ?_
  have e1 : (((((row.map f).map (·.map C.imm)).drop 0).take row.length) ++ (new.map f).map (·.map C.imm)) = ((row ++ new).map f).map (·.map C.imm) := by
    rw [List.drop_zero, List.take_of_length_le (by simp)]; simp
  have e2 : row.length + ((new.map f).map (·.map C.imm)).length = (row ++ new).length := by simp
  rw [e1, e2]
  refine AOps.sub (s' := ⟨putE env dst (.c (.own (σv.length, []) 0 (row ++ new).length)), σv.set r (matD (r, []) k f M p) ++ [.one (vec k f (row ++ new))]⟩) (Sub.same (by simp) fun i => ?_) h
  rcases Nat.lt_or_ge i.1 σv.length with hl | hl
  · rw [Store.get_left (by simpa using hl), Store.get_left (by simpa using hl), matD_put hσ he]
  · rw [Store.get_right (by simpa using hl), Store.get_right (by simpa using hl), Store.length_put, List.length_set]; rfl

/-- The head of a row that has been made anew is put in its place. -/
theorem S.storeH {x y : Operand} {t : TypeId} {bytes m p : Nat} {n : Id} {z : Value} {row : List α} [hs : TyS P t 1 bytes z] (he : M[p]? = some row) (hx : ev env x = some (.c (.ptr (r, []) p 0))) (hy : ev env y = some (.c (.own n 0 m)))
    (hσ : σv[r]? = some (mat (r, []) k f M)) (hσ' : setF σv r (matS (r, []) k f M p n m) = some σ') (h : AOps P σ0 sz ops Q rest (St.mk env σ')) : AOps P σ0 sz ops Q (⟨none, .store t x y, ty, pos, after, none⟩ :: rest) (St.mk env σv) := by
  have h2 := (setF_eq hσ').1
  subst h2
  refine AOps.store hx hy (mat_head hσ) (hdr_get he) (by simp) ?_
  refine AOps.sub (Sub.same (by simp) fun i => ?_) h
  rw [set_ent hσ]
  by_cases hi : i = (r, [])
  · subst hi
    rw [Store.get_put_eq (mat_head hσ), if_pos rfl]; rfl
  · rw [Store.get_put_ne hi]
    by_cases hr : i.1 = r
    · obtain ⟨i1, q⟩ := i
      simp only at hr
      subst hr
      rw [if_pos rfl, ent_at hσ]
      cases q with
      | nil => exact absurd rfl hi
      | cons a q => rfl
    · rw [if_neg hr]
theorem S.storeHD {x y : Operand} {t : TypeId} {bytes m p : Nat} {n : Id} {z : Value} {row : List α} [hs : TyS P t 1 bytes z] (he : M[p]? = some row) (hx : ev env x = some (.c (.ptr (r, []) p 0))) (hy : ev env y = some (.c (.own n 0 m)))
    (hσ : σv[r]? = some (matD (r, []) k f M p)) (hσ' : setF σv r (matSD (r, []) k f M p n m) = some σ') (h : AOps P σ0 sz ops Q rest (St.mk env σ')) : AOps P σ0 sz ops Q (⟨none, .store t x y, ty, pos, after, none⟩ :: rest) (St.mk env σv) := by
  have h2 := (setF_eq hσ').1
  subst h2
  have hmain : σv[((r, []) : Id)]? = some (some (.cells 1 (hdr (r, []) M))) := by rw [ent_at hσ]; rfl
  refine AOps.store hx hy hmain (hdr_get he) (by simp) ?_
  refine AOps.sub (Sub.same (by simp) fun i => ?_) h
  rw [set_ent hσ]
  by_cases hi : i = (r, [])
  · subst hi
    rw [Store.get_put_eq hmain, if_pos rfl]; rfl
  · rw [Store.get_put_ne hi]
    by_cases hr : i.1 = r
    · obtain ⟨i1, q⟩ := i
      simp only at hr
      subst hr
      rw [if_pos rfl, ent_at hσ]
      cases q with
      | nil => exact absurd rfl hi
      | cons a q => rfl
    · rw [if_neg hr]

/-! ### A row made anew takes its place -/
theorem vec_ok {n : Nat} {β : Type} {g : β → List I} {l : List β} {k : Nat} : (vec k g l).ok n = true := Blk.im_ok _ _ _
theorem hdr_ok {n : Nat} (hr : r < n) (M : List (List α)) : (Blk.cells 1 (hdr (r, []) M)).ok n = true := by
  simp only [Blk.ok, List.all_eq_true]
  intro e he
  obtain ⟨j, hj⟩ := List.getElem?_of_mem he
  obtain ⟨row, _, rfl⟩ := hdr_some hj
  simp [C.okL, C.ok, hr]
theorem hdr_mv {π : Id → Id} (M : List (List α)) (hπ : ∀ p, p < M.length → π (r, [p]) = (r, [p])) : (Blk.cells 1 (hdr (r, []) M)).ren π = .cells 1 (hdr (r, []) M) := by
  simp only [Blk.ren]
  congr 1
  apply List.ext_getElem?
  intro j
  rw [List.getElem?_map]
  cases hj : (hdr (r, []) M)[j]? with
  | none => rfl
  | some e =>
    obtain ⟨row, h1, rfl⟩ := hdr_some hj
    simp [C.renL, C.ren, hπ j (List.getElem?_eq_some_iff.1 h1).1]

/-- What a root's rows are, behind the change of row p. -/
structure MatAt (σ : Store) (r k : Nat) (f : α → List I) (M : List (List α)) (p : Nat) (n : Id) (m : Nat) : Prop where
  main : σ[((r, []) : Id)]? = some (some (.cells 1 ((hdr (r, []) M).set p [.own n 0 m])))
  rows : ∀ (q : Nat) (row : List α), q ≠ p → M[q]? = some row → σ[((r, [q]) : Id)]? = some (some (vec k f row))

theorem matS_at {n : Id} {m p : Nat} (h : σv[r]? = some (matS (r, []) k f M p n m)) : MatAt σv r k f M p n m :=
  ⟨by rw [ent_at h]; rfl, fun q row _ hq => by rw [ent_at h]; simp [matS, Ent.sub, hq]⟩
theorem matSD_at {n : Id} {m p : Nat} (h : σv[r]? = some (matSD (r, []) k f M p n m)) : MatAt σv r k f M p n m :=
  ⟨by rw [ent_at h]; rfl, fun q row hn hq => by
    rw [ent_at h]
    have hpq : ¬ p = q := fun e => hn e.symm
    simp only [matSD, Ent.sub, List.getElem?_set, if_neg hpq, List.getElem?_map, hq]
    rfl⟩

/-- Block n (the s-th root) becomes row p of root r; the other roots stay, those of the list 'gone' are forgotten. -/
theorem Sub.moveR {s m p : Nat} {row row' : List α} (hM : MatAt σv r k f M p (s, []) m) (he : M[p]? = some row) (hm : m = row'.length) (hs : σv[((s, []) : Id)]? = some (some (vec k f row')))
    (h0 : Nat.ble σ0.length r = true) (hl : Nat.ble σ0.length σ'.length = true) (hr : σ'[r]? = some (mat (r, []) k f (M.set p row'))) (hns : σ'[s]? = none ∨ σ'[s]? = some .dead)
    (hoth : ∀ (i : Id) (b : Blk), i.1 ≠ r → σ'[i]? = some (some b) → σv[i]? = some (some b) ∧ b.ok σ'.length = true ∧ b.no (r, [p]) = true)
    (henv : SubEnv env env') (hok : envOk σ'.length env' = true) (hno : envNo (r, [p]) env' = true) : Sub σ0 ⟨env, σv⟩ ⟨env', σ'⟩ := by
  subst hm
  have h0' := Nat.le_of_ble_eq_true h0
  have hp := (List.getElem?_eq_some_iff.1 he).1
  have hrl := (List.getElem?_eq_some_iff.1 hr).1
  have mve : mv (r, [p]) (s, []) (r, [p]) = (s, []) := by simp [mv, idb_iff.2 rfl]
  have mvn : ∀ i, i ≠ (r, [p]) → mv (r, [p]) (s, []) i = i := fun i h => by simp [mv, idb_ne h]
  have hds : ∀ b, σ'[((s, []) : Id)]? ≠ some (some b) := fun b hb => by
    rw [Store.at_eq] at hb
    simp only [Store.at] at hb
    rcases hns with h | h <;> rw [h] at hb <;> cases hb
  have hsr : s ≠ r := fun e => by
    subst e
    rcases hns with h | h <;> rw [hr] at h <;> cases h
  have noren : ∀ c : C, c.no (r, [p]) = true → c.ren (mv (r, [p]) (s, [])) = c := C.ren_no
  refine Sub.mk (mv (r, [p]) (s, [])) (fun i hi => mvn i (fun e => by subst e; simp only at hi; omega)) (Nat.le_of_ble_eq_true hl) (fun i j b b' hi hj h => ?_) (fun i b hi => ?_) (fun t v ht => ⟨envOk_get hok t v ht, ?_⟩)
  · by_cases h1 : i = (r, [p]) <;> by_cases h2 : j = (r, [p])
    · rw [h1, h2]
    · rw [h1, mve, mvn j h2] at h
      subst h; exact absurd hj (hds _)
    · rw [h2, mve, mvn i h1] at h
      subst h; exact absurd hi (hds _)
    · rwa [mvn i h1, mvn j h2] at h
  · dsimp only at hi ⊢
    by_cases hir : i.1 = r
    · obtain ⟨i1, q⟩ := i
      simp only at hir
      subst hir
      rw [ent_at hr] at hi
      simp only [Option.some.injEq] at hi
      cases q with
      | nil =>
        cases hi
        refine ⟨hdr_ok hrl _, ?_⟩
        rw [mvn _ (by simp), hM.main]
        congr 2
        -- the head of row p
        simp only [Blk.ren]
        congr 1
        apply List.ext_getElem?
        intro j
        rw [hdr_set, List.getElem?_set, List.getElem?_map, List.getElem?_set]
        by_cases hpj : p = j
        · subst hpj
          simp [hp, C.renL, C.ren, mve]
        · rw [if_neg hpj, if_neg hpj]
          cases hj : (hdr (i1, []) M)[j]? with
          | none => rfl
          | some e =>
            obtain ⟨row0, g1, rfl⟩ := hdr_some hj
            simp [C.renL, C.ren, mvn (i1, [j]) (by simp; exact fun e => hpj e.symm)]
      | cons a q =>
        rw [mat_row] at hi
        split at hi
        · rename_i row0 hrow0
          cases q with
          | cons b q => cases hi
          | nil =>
            simp only [Option.some.injEq] at hi
            subst hi
            refine ⟨vec_ok, ?_⟩
            rw [Blk.im_ren]
            by_cases hap : a = p
            · subst hap
              rw [mve, hs]
              rw [List.getElem?_set, if_pos rfl, if_pos hp] at hrow0
              cases hrow0; rfl
            · rw [mvn _ (by simp [hap])]
              rw [List.getElem?_set, if_neg (fun e => hap e.symm)] at hrow0
              exact hM.rows a row0 hap hrow0
        · cases hi
    · obtain ⟨h1, h2, h3⟩ := hoth i b hir hi
      refine ⟨h2, ?_⟩
      rw [mvn i (fun e => hir (by rw [e])), Blk.ren_no b h3]
      exact h1
  · rw [T.ren_no v (envNo_get hno t v ht)]
    exact henv.get t v ht

/-! ### Made -/
/-- A new root, with rows below it that are not there yet. -/
theorem Rs.allocM {Γ : Cx} {σ : Store} {φ : Phi} {w : World} (h : Rs Γ σ φ w) {n k : Nat} (f : α → List I) {arr : Array Value} {ety : TypeId} (hsz : n ≤ arr.size) (hc : ∀ j, j < n → arr[j]? = some (.slice none 0 0)) :
    Kept w (w.alloc (.cells arr ety)) φ (phiNew σ.length (fun i => if i.1 < σ.length then φ i else none) w.heap.size) σ (σ ++ [mat (σ.length, []) k f (List.replicate n ([] : List α))]) (Al Γ.N φ σ) (Al Γ.N (phiNew σ.length (fun i => if i.1 < σ.length then φ i else none) w.heap.size) (σ ++ [mat (σ.length, []) k f (List.replicate n ([] : List α))])) ∧
    Rs Γ (σ ++ [mat (σ.length, []) k f (List.replicate n ([] : List α))]) (phiNew σ.length (fun i => if i.1 < σ.length then φ i else none) w.heap.size) (w.alloc (.cells arr ety)) := by
  generalize hφ : phiNew σ.length (fun i => if i.1 < σ.length then φ i else none) w.heap.size = φ'
  generalize hM : List.replicate n ([] : List α) = M
  have hrow : ∀ p row, M[p]? = some row → row = [] := fun p row hp => by
    rw [← hM, List.getElem?_replicate] at hp
    split at hp <;> cases hp
    rfl
  have hlen : M.length = n := by rw [← hM]; simp
  have old : ∀ b, b < w.heap.size → (w.alloc (.cells arr ety)).heap[b]? = w.heap[b]? := fun b hb => heap_alloc_old w _ hb
  have new : (w.alloc (.cells arr ety)).heap[w.heap.size]? = some (.cells arr ety (0, 0)) := heap_alloc_new w _
  have plo : ∀ i : Id, i.1 < σ.length → φ' i = φ i := fun i hi => by
    have : i ≠ (σ.length, []) := fun e => by rw [e] at hi; exact Nat.lt_irrefl _ hi
    rw [← hφ]; simp [phiNew, this, hi]
  have pnew : φ' (σ.length, []) = some (w.heap.size, 0) := by rw [← hφ]; simp [phiNew]
  have prow : ∀ a q, φ' (σ.length, a :: q) = none := fun a q => by rw [← hφ]; simp [phiNew]
  have cases2 : ∀ (i : Id) blk, (σ ++ [mat (σ.length, []) k f M])[i]? = some (some blk) → (i.1 < σ.length ∧ σ[i]? = some (some blk)) ∨ (i = (σ.length, []) ∧ blk = .cells 1 (hdr (σ.length, []) M)) ∨ (∃ p, p < n ∧ i = (σ.length, [p]) ∧ blk = vec k f ([] : List α)) := fun i blk hi => by
    rcases Nat.lt_or_ge i.1 σ.length with hl | hl
    · rw [Store.get_left hl] at hi; exact .inl ⟨hl, hi⟩
    · have hlt := Store.lt_of hi
      rw [List.length_append] at hlt
      simp only [List.length_cons, List.length_nil] at hlt
      obtain ⟨i1, q⟩ := i
      have e : i1 = σ.length := by simp only at hl hlt; omega
      subst e
      rw [Store.get_right (Nat.le_refl _)] at hi
      simp only [Nat.sub_self] at hi
      rw [ent_at (e := mat (σ.length, []) k f M) rfl] at hi
      simp only [Option.some.injEq] at hi
      cases q with
      | nil => cases hi; exact .inr (.inl ⟨rfl, rfl⟩)
      | cons a q =>
        rw [mat_row] at hi
        split at hi
        · rename_i row hr
          cases q with
          | cons b q => cases hi
          | nil =>
            cases hi
            refine .inr (.inr ⟨a, by rw [← hlen]; exact (List.getElem?_eq_some_iff.1 hr).1, rfl, ?_⟩)
            rw [hrow a row hr]
        · cases hi
  have A1 : ∀ b, Al Γ.N φ σ b → b < w.heap.size → Al Γ.N φ' (σ ++ [mat (σ.length, []) k f M]) b := fun b hb hl => ⟨hb.1, fun i blk base hi hp => by
    rcases cases2 i blk hi with ⟨h1, h2⟩ | ⟨rfl, rfl⟩ | ⟨p, _, rfl, _⟩
    · rw [plo i h1] at hp; exact hb.2 i blk base h2 hp
    · rw [pnew] at hp; cases hp; omega
    · rw [prow] at hp; cases hp⟩
  have hK : Kept w (w.alloc (.cells arr ety)) φ φ' σ (σ ++ [mat (σ.length, []) k f M]) (Al Γ.N φ σ) (Al Γ.N φ' (σ ++ [mat (σ.length, []) k f M])) :=
    { imm := fun b _ hl => old b hl, all := A1, len := by simp,
      cells := fun i kk es' hi he => by
        rw [Store.get_left hi] at he
        exact ⟨es', he, rfl, plo i hi, fun b base arr ety hp hb => ⟨arr, (old b (Al.own_lt h.st he hp)).trans hb, rfl⟩⟩,
      obj := fun i p' hi he => by
        rw [Store.get_left hi] at he
        exact ⟨plo i hi, p', he⟩ }
  refine ⟨hK, ?_⟩
  exact {
    good := h.good
    st := ⟨fun i b hi => by
        rcases cases2 i b hi with ⟨h1, h2⟩ | ⟨rfl, rfl⟩ | ⟨p, hp, rfl, rfl⟩
        · rw [plo i h1]
          exact (h.st.blk i b h2).mono hK fun g base hp => old g (Al.own_lt h.st h2 hp)
        · rw [pnew]
          refine .inr ⟨w.heap.size, 0, arr, ety, rfl, new, by simp [hlen]; exact hsz, fun j e he => ?_, fun j e o x he hx => ?_⟩
          · obtain ⟨row, _, rfl⟩ := hdr_some he; rfl
          · obtain ⟨row, hr, rfl⟩ := hdr_some he
            have hjn : j < n := by rw [← hlen]; exact (List.getElem?_eq_some_iff.1 hr).1
            cases o with
            | succ o => simp at hx
            | zero =>
              simp only [List.getElem?_cons_zero, Option.some.injEq] at hx
              subst hx
              refine ⟨.slice none 0 0, by simpa using hc j hjn, ?_⟩
              rw [hrow j row hr]
              exact .own (by simp) rfl fun k' es' _ => .inl ⟨prow _ _, rfl, rfl, rfl⟩
        · rw [prow]; exact .inl ⟨rfl, rfl⟩,
      fun i j bi bj p q hi hj hp hq he => by
        obtain ⟨pb, po⟩ := p
        obtain ⟨qb, qo⟩ := q
        dsimp only at he
        subst he
        rcases cases2 i bi hi with ⟨h1, h2⟩ | ⟨rfl, rfl⟩ | ⟨p, _, rfl, _⟩ <;> rcases cases2 j bj hj with ⟨g1, g2⟩ | ⟨rfl, rfl⟩ | ⟨p', _, rfl, _⟩
        · rw [plo i h1] at hp; rw [plo j g1] at hq
          exact h.st.inj i j bi bj _ _ h2 g2 hp hq rfl
        · rw [plo i h1] at hp; rw [pnew] at hq; cases hq
          have := Al.own_lt h.st h2 hp; omega
        · rw [prow] at hq; cases hq
        · rw [plo j g1] at hq; rw [pnew] at hp; cases hp
          have := Al.own_lt h.st g2 hq; omega
        · rfl
        · rw [prow] at hq; cases hq
        · rw [prow] at hp; cases hp
        · rw [prow] at hp; cases hp
        · rw [prow] at hp; cases hp⟩
    keep := fun i blk b base hi hp hKb => by
      rcases cases2 i blk hi with ⟨h1, h2⟩ | ⟨rfl, rfl⟩ | ⟨p, _, rfl, _⟩
      · rw [plo i h1] at hp; exact h.keep i blk b base h2 hp hKb
      · rw [pnew] at hp; cases hp
        have := hKb.1; have := h.size; omega
      · rw [prow] at hp; cases hp
    os := h.os
    tape := h.tape
    output := h.output
    size := Nat.le_trans h.size (by simp)
    block := fun b hKb => (old b (Nat.lt_of_lt_of_le hKb.1 h.size)).trans (h.block b hKb)
    kept := Kept.trans h.size h.kept hK }

/-- make([][]T, n), to be filled. -/
theorem S.makeM {M : List (List α)} {x y : Operand} {t e : TypeId} {id : Id} {bytes : Nat} {n : Int} (k : Nat) (f : α → List I) [ht : TyD P t (.slice e)] [hs : TyS P e 1 bytes (.slice none 0 0)]
    (hm : mkL bytes n ([] : List α) = some M)
    (hx : ev env x = some (.c (int n))) (hy : ev env y = some (.c (int n))) (hid : newF σv = some id) (hσ : snocF σv (mat id k f M) = some σ') (hd : dstOk sz dst = true)
    (h : AOps P σ0 sz ops Q rest (St.mk (putE env dst (.c (.own id 0 M.length))) σ')) : AOps P σ0 sz ops Q (⟨dst, .makeSlice t x y, ty, pos, after, none⟩ :: rest) (St.mk env σv) := by
  obtain ⟨⟨h1, h2, h3⟩, rfl⟩ := mkL_get hm
  have g2 := newF_eq hid; have g3 := snocF_eq hσ
  subst g2 g3
  refine .valueW rfl hd (.c (.own (σv.length, []) 0 (List.replicate n.toNat ([] : List α)).length)) (σv ++ [mat (σv.length, []) k f (List.replicate n.toNat ([] : List α))]) (fun Γ φ a w hR => ?_) (by cases dst <;> exact h)
  obtain ⟨i, hi1, hi2, hi3, hi4⟩ := hs.h
  have hrun := run_make (P := P) w t e i (.slice none 0 0) ht.h hi1 hi4 .i64 .i64 n n h1 (Int.le_refl _) (by rw [hi3]; exact h3) h2
  rw [hi2, Nat.mul_one] at hrun
  have hz : ∀ j, j < n.toNat → (madeCells (Value.slice none 0 0).cells n.toNat)[j]? = some (.slice none 0 0) := fun j hj => by
    simp [madeCells, hj, Value.cells, Nat.mod_one]
  have hA := Rs.allocM (k := k) (arr := madeCells (Value.slice none 0 0).cells n.toNat) (ety := e) (n := n.toNat) hR.toRs f (by simp [size_madeCells]) hz
  refine ⟨.slice (some ⟨w.heap.size, 0, none⟩) n.toNat n.toNat, _, _, by simp [execOp, ev_val hR hx, ev_val hR hy, hrun], ?_, hR.of hA.1 hA.2⟩
  refine .c (.own (by simp) rfl fun k' es' he => ?_)
  rw [Store.get_right (Nat.le_refl _)] at he
  simp only [Nat.sub_self] at he
  rw [ent_at (e := mat (σv.length, []) k f (List.replicate n.toNat ([] : List α))) rfl] at he
  cases he
  refine .inr ⟨w.heap.size, 0, n.toNat, _, e, ⟨w.heap.size, 0, none⟩, by simp [phiNew], by simp, fun _ => by simp, by simp, by simp only [maxLen]; omega, by simp, heap_alloc_new w _, by simp [size_madeCells]⟩

/-! ### The whole ceases to change -/
/-- The first q rows are data. -/
def hdrF (r k : Nat) (f : α → List I) (M : List (List α)) (q : Nat) : List (List C) := M.mapIdx fun p row => [if p < q then .imm (.sl k (row.map f)) else .own (r, [p]) 0 row.length]
def matF (r k : Nat) (f : α → List I) (M : List (List α)) (q : Nat) : Ent := .node (some (.cells 1 (hdrF r k f M q))) (M.mapIdx fun p row => if p < q then .dead else .one (vec k f row))

theorem hdrF_zero : hdrF r k f M 0 = hdr (r, []) M := by simp [hdrF, hdr]
theorem matF_zero (p : List Nat) : (matF r k f M 0).sub p = (mat (r, []) k f M).sub p := by
  cases p with
  | nil => simp only [matF, mat, Ent.sub, hdrF_zero]
  | cons a p => simp [matF, mat, Ent.sub, List.getElem?_mapIdx]

theorem frz_row {q : Nat} {row : List α} (hq : M[q]? = some row) : Blk.frz (r, [q]) k (row.map f) (.cells 1 (hdrF r k f M q)) = .cells 1 (hdrF r k f M (q + 1)) := by
  simp only [Blk.frz]
  congr 1
  apply List.ext_getElem?
  intro j
  simp only [hdrF, List.getElem?_map, List.getElem?_mapIdx, Option.map_map]
  cases hj : M[j]? with
  | none => rfl
  | some rj =>
    simp only [Option.map_some, Function.comp_apply, C.frzL, Option.some.injEq, List.cons.injEq, and_true]
    by_cases h1 : j < q
    · rw [if_pos h1, if_pos (by omega)]; rfl
    · rw [if_neg h1]
      by_cases h2 : j = q
      · subst h2
        rw [hq] at hj
        cases hj
        rw [if_pos (by omega)]
        simp [C.frz, idb_iff.2 rfl, List.take_of_length_le]
      · rw [if_neg (by omega)]
        have : idb (r, [j]) (r, [q]) = false := idb_ne (by simp; exact h2)
        simp [C.frz, this]

/-- Nothing speaks of the rows below root r. -/
def rowless (r : Nat) : C → Bool
  | .imm _ => true
  | .own i _ _ => !(Nat.beq i.1 r) || (match i.2 with | [] => true | _ => false)
  | .ptr i _ _ => !(Nat.beq i.1 r) || (match i.2 with | [] => true | _ => false)
  | .fn _ [] => true
  | .fn _ [.ptr i _ _] => !(Nat.beq i.1 r)
  | .fn _ [.ptr i _ _, .ptr j _ _] => !(Nat.beq i.1 r) && !(Nat.beq j.1 r)
  | .fn _ [.ptr i _ _, .ptr j _ _, .ptr l _ _] => !(Nat.beq i.1 r) && !(Nat.beq j.1 r) && !(Nat.beq l.1 r)
  | _ => false
theorem rowless_no {r q : Nat} {c : C} (h : rowless r c = true) : c.no (r, [q]) = true := by
  have beq : ∀ {i : Id}, (!(Nat.beq i.1 r)) = true → idb i (r, [q]) = false := fun {i} hi => idb_ne (fun e => by subst e; simp at hi)
  unfold rowless at h
  split at h
  · rfl
  · rename_i i _ _
    simp only [Bool.or_eq_true] at h
    rcases h with h | h
    · simp [C.no, beq h]
    · obtain ⟨a, l⟩ := i
      cases l with
      | nil => simp [C.no, idb, lbeq]
      | cons => simp at h
  · rename_i i _ _
    simp only [Bool.or_eq_true] at h
    rcases h with h | h
    · simp [C.no, beq h]
    · obtain ⟨a, l⟩ := i
      cases l with
      | nil => simp [C.no, idb, lbeq]
      | cons => simp at h
  · rfl
  · simp [C.no, C.noL, beq h]
  · simp only [Bool.and_eq_true] at h
    simp [C.no, C.noL, beq h.1, beq h.2]
  · simp only [Bool.and_eq_true] at h
    simp [C.no, C.noL, beq h.1.1, beq h.1.2, beq h.2]
  · cases h
def rowlessL (r : Nat) : List C → Bool
  | [] => true
  | c :: l => rowless r c && rowlessL r l
theorem rowlessL_no {r q : Nat} : ∀ {l : List C}, rowlessL r l = true → C.noL (r, [q]) l = true
  | [], _ => rfl
  | c :: l, h => by
    simp only [rowlessL, Bool.and_eq_true] at h
    simp only [C.noL, rowless_no h.1, rowlessL_no h.2, Bool.and_self]
def rowlessT (r : Nat) : T → Bool
  | .c c => rowless r c
  | .agg l => rowlessL r l
  | .undef => true
  | .tup _ => false
def rowlessE (r : Nat) : Env → Bool
  | [] => true
  | (_, v) :: l => rowlessT r v && rowlessE r l
theorem rowlessT_no {r q : Nat} {t : T} (h : rowlessT r t = true) : t.no (r, [q]) = true := by
  cases t with
  | c c => exact rowless_no h
  | agg l => exact rowlessL_no h
  | tup => cases h
  | undef => rfl
theorem rowlessE_get {r : Nat} : ∀ {env : Env}, rowlessE r env = true → ∀ t v, lookup t env = some v → rowlessT r v = true
  | [], _, t, v, h => by simp [lookup] at h
  | (k, x) :: l, h, t, v, hv => by
    simp only [rowlessE, Bool.and_eq_true] at h
    simp only [lookup] at hv
    split at hv
    · cases hv; exact h.1
    · exact rowlessE_get h.2 t v hv
/-- The blocks of the other roots do not speak of the rows below root r. -/
def RowlessS (r : Nat) (σ : Store) : Prop := ∀ (i : Id) (b : Blk), i.1 ≠ r → σ[i]? = some (some b) → ∀ q, b.no (r, [q]) = true

/-- All rows become data, one after the other. -/
theorem Sub.frzRows (h0 : Nat.ble σ0.length r = true) (hσ : σv[r]? = some (mat (r, []) k f M)) (hno : RowlessS r σv) (he : rowlessE r env = true) : ∀ q, q ≤ M.length → Sub σ0 ⟨env, σv⟩ ⟨env, σv.set r (matF r k f M q)⟩
  | 0, _ => Sub.same (by simp) fun i => by
      rw [set_ent hσ]
      by_cases hi : i.1 = r
      · obtain ⟨i1, p⟩ := i
        simp only at hi
        subst hi
        rw [if_pos rfl, ent_at hσ, matF_zero]
      · rw [if_neg hi]
  | q + 1, hq => by
    refine (Sub.frzRows h0 hσ hno he q (by omega)).trans ?_
    have hrl : r < σv.length := (List.getElem?_eq_some_iff.1 hσ).1
    have hqM : M[q]? = some M[q] := List.getElem?_eq_getElem (by omega)
    have hcur : (σv.set r (matF r k f M q))[r]? = some (matF r k f M q) := by rw [List.getElem?_set]; simp [hrl]
    have hrow : (σv.set r (matF r k f M q))[((r, [q]) : Id)]? = some (some (Blk.im k (M[q].map f))) := by
      rw [ent_at hcur]
      simp [matF, Ent.sub, List.getElem?_mapIdx, hqM]
    have hfz := Sub.frz (σ0 := σ0) (s := ⟨env, σv.set r (matF r k f M q)⟩) (r, [q]) k (M[q].map f) (Nat.le_of_ble_eq_true h0) hrow
    refine hfz.trans ((Sub.same (σ2 := σv.set r (matF r k f M (q + 1))) (by simp [St.frz]) fun i => ?_).trans (Sub.look fun t v ht => ?_))
    · simp only [St.frz]
      rw [Store.get_map, set_ent hσ]
      by_cases hi : i = (r, [q])
      · subst hi
        rw [Store.get_put_eq hrow, if_pos rfl]
        simp [matF, Ent.sub, List.getElem?_mapIdx, hqM]
      · rw [Store.get_put_ne hi, set_ent hσ]
        by_cases hir : i.1 = r
        · obtain ⟨i1, p⟩ := i
          simp only at hir
          subst hir
          rw [if_pos rfl, if_pos rfl]
          simp only [Option.map_some, Option.some.injEq]
          cases p with
          | nil => simp only [matF, Ent.sub, Option.map_some, frz_row hqM]
          | cons a p =>
            simp only [matF, Ent.sub, List.getElem?_mapIdx]
            cases ha : M[a]? with
            | none => rfl
            | some row =>
              simp only [Option.map_some]
              by_cases h1 : a < q
              · rw [if_pos h1, if_pos (by omega)]; cases p <;> rfl
              · rw [if_neg h1]
                by_cases h2 : a = q
                · subst h2
                  rw [if_pos (by omega)]
                  cases p with
                  | nil => exact absurd rfl hi
                  | cons => rfl
                · rw [if_neg (by omega)]
                  cases p with
                  | nil => simp only [Ent.sub, Option.map_some, Blk.frz_no _ (Blk.im_no _ _ _)]
                  | cons => rfl
        · rw [if_neg hir, if_neg hir]
          cases hx : σv[i]? with
          | none => rfl
          | some o =>
            cases o with
            | none => rfl
            | some b => simp only [Option.map_some, Blk.frz_no _ (hno i b hir hx q)]
    · simp only [St.frz]
      rw [lookup_map (fun v => v.frz (r, [q]) k (M[q].map f)), ht]
      simp only [Option.map_some, T.frz_no v (rowlessT_no (rowlessE_get he t v ht))]

theorem matF_all : hdrF r k f M M.length = (M.map fun row => [I.sl k (row.map f)]).map (·.map C.imm) := by
  apply List.ext_getElem?
  intro j
  simp only [hdrF, List.getElem?_mapIdx, List.getElem?_map]
  cases hj : M[j]? with
  | none => rfl
  | some row =>
    have := (List.getElem?_eq_some_iff.1 hj).1
    simp [this]

/-- A root with all its rows becomes a block of data: rows of what is now data. -/
theorem Sub.matV (h0 : Nat.ble σ0.length r = true) (hσ : σv[r]? = some (mat (r, []) k f M)) (hno : RowlessS r σv) (he : rowlessE r env = true) (hσ' : setF σv r (.one (vec 1 (fun row => [I.sl k (row.map f)]) M)) = some σ') : Sub σ0 ⟨env, σv⟩ ⟨env, σ'⟩ := by
  have h2 := (setF_eq hσ').1
  subst h2
  refine (Sub.frzRows h0 hσ hno he M.length (Nat.le_refl _)).trans (Sub.same (by simp) fun i => ?_)
  rw [set_ent hσ, set_ent hσ]
  by_cases hi : i.1 = r
  · rw [if_pos hi, if_pos hi]
    congr 1
    obtain ⟨i1, p⟩ := i
    cases p with
    | nil => simp only [matF, Ent.sub, matF_all]; rfl
    | cons a p =>
      simp only [matF, Ent.sub, List.getElem?_mapIdx]
      cases ha : M[a]? with
      | none => rfl
      | some row =>
        have := (List.getElem?_eq_some_iff.1 ha).1
        simp only [Option.map_some, if_pos this]
        cases p <;> rfl
  · rw [if_neg hi, if_neg hi]
theorem AWP.matV {c : Code} (r : Nat) (h0 : Nat.ble σ0.length r = true) (hσ : σv[r]? = some (mat (r, []) k f M)) (hno : RowlessS r σv) (he : rowlessE r env = true) (hσ' : setF σv r (.one (vec 1 (fun row => [I.sl k (row.map f)]) M)) = some σ')
    (h : AWP P σ0 sz c Q (St.mk env σ')) : AWP P σ0 sz c Q (St.mk env σv) := AWP.sub (Sub.matV h0 hσ hno he hσ') h
end
end Ab
