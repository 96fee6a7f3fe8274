/-
  ABSTRACT STATES. Values that do not change are trees ('I'); what a call may still write lies in a store of owned blocks ('C', 'Blk'); the relation to the model's worlds; what survives when a world changes.
-/
import Derived.WalkKit
namespace Ab
open Go

inductive I where
  | val (v : Value)
  | sl (k : Nat) (es : List (List I))
  | ipt (cs : List I)
  | fn (f : FuncId) (caps : List I)

/-- A block's name: a root, and a way down from it through rows that are owned by what stands above them. -/
abbrev Id := Nat × List Nat
instance (n : Nat) : OfNat Id n := ⟨(n, [])⟩

inductive C where
  | imm (x : I)
  | own (id : Id) (j n : Nat)
  | ptr (id : Id) (j o : Nat)
  | fn (f : FuncId) (caps : List C)
  | ifc (t : TypeId) (cs : List C) (agg : Bool)
  | map (id : Id)

inductive T where
  | c (x : C)
  | agg (cs : List C)
  | tup (ts : List T)
  | undef

inductive Blk where
  | cells (k : Nat) (es : List (List C))
  | obj (p : Obj → Prop)

/-- A root of the store: dead, a block, or a block with rows below it. -/
inductive Ent where
  | dead
  | one (b : Blk)
  | node (main : Option Blk) (subs : List Ent)

abbrev Store := List Ent
abbrev Env := List (Nat × T)
abbrev Phi := Id → Option (Nat × Nat)

def Ent.sub : Ent → List Nat → Option Blk
  | .dead, _ => none
  | .one b, [] => some b
  | .one _, _ :: _ => none
  | .node m _, [] => m
  | .node _ s, i :: p => match s[i]? with
    | some e => e.sub p
    | none => none

def Ent.opt : Option Blk → Ent
  | none => .dead
  | some b => .one b

def Ent.put : Ent → List Nat → Option Blk → Ent
  | .dead, [], b => .opt b
  | .one _, [], b => .opt b
  | .node _ s, [], b => .node b s
  | .node m s, i :: p, b => .node m (s.modify i fun e => e.put p b)
  | .dead, _ :: _, _ => .dead
  | .one c, _ :: _, _ => .one c

def Store.at (σ : Store) (i : Id) : Option (Option Blk) := match σ[i.1]? with
  | some e => some (e.sub i.2)
  | none => none

instance : GetElem? (List Ent) Id (Option Blk) (fun σ i => i.1 < σ.length) where
  getElem σ i h := (σ[i.1]'h).sub i.2
  getElem? σ i := Store.at σ i

def Store.put (σ : Store) (i : Id) (b : Option Blk) : Store := σ.modify i.1 fun e => e.put i.2 b

theorem Store.at_eq (σ : Store) (i : Id) : σ[i]? = Store.at σ i := rfl
@[simp] theorem Store.get_nil (i : Id) : ([] : Store)[i]? = none := rfl

theorem Store.lt_of {σ : Store} {i : Id} {x : Option Blk} (h : σ[i]? = some x) : i.1 < σ.length := by
  rw [Store.at_eq, Store.at] at h
  split at h
  · rename_i e; exact (List.getElem?_eq_some_iff.1 e).1
  · cases h

theorem Store.get_ge {σ : Store} {i : Id} (h : σ.length ≤ i.1) : σ[i]? = none := by
  rw [Store.at_eq, Store.at, List.getElem?_eq_none h]

theorem Store.get_left {σ τ : Store} {i : Id} (h : i.1 < σ.length) : (σ ++ τ)[i]? = σ[i]? := by
  rw [Store.at_eq, Store.at_eq, Store.at, Store.at, List.getElem?_append_left h]

theorem Store.get_right {σ τ : Store} {i : Id} (h : σ.length ≤ i.1) : (σ ++ τ)[i]? = τ[((i.1 - σ.length, i.2) : Id)]? := by
  rw [Store.at_eq, Store.at_eq, Store.at, Store.at, List.getElem?_append_right h]

/-- A new root behind the others. -/
theorem Store.get_new {σ : Store} {b : Blk} {i : Id} {x : Blk} (h : (σ ++ [.one b])[i]? = some (some x)) : (i.1 < σ.length ∧ σ[i]? = some (some x)) ∨ (i = (σ.length, []) ∧ x = b) := by
  rcases Nat.lt_or_ge i.1 σ.length with hl | hl
  · exact .inl ⟨hl, by rwa [Store.get_left hl] at h⟩
  · rw [Store.get_right hl] at h
    have h1 := Store.lt_of h
    simp only [List.length_cons, List.length_nil] at h1
    obtain ⟨r, p⟩ := i
    have h0 : r - σ.length = 0 := by simp only at h1; omega
    have hr : r = σ.length := by simp only at hl; omega
    simp only [h0] at h
    cases p with
    | nil =>
      rw [Store.at_eq] at h
      simp only [Store.at, List.getElem?_cons_zero, Ent.sub, Option.some.injEq] at h
      exact .inr ⟨by rw [hr], h.symm⟩
    | cons a p =>
      rw [Store.at_eq] at h
      simp [Store.at, Ent.sub] at h
theorem Store.get_last (σ : Store) (b : Blk) : (σ ++ [.one b])[((σ.length, []) : Id)]? = some (some b) := by
  rw [Store.get_right (Nat.le_refl _)]
  simp [Store.at_eq, Store.at, Ent.sub]

@[simp] theorem Store.length_put (σ : Store) (i : Id) (b : Option Blk) : (σ.put i b).length = σ.length := by simp [Store.put]

theorem Ent.sub_opt (b : Option Blk) (p : List Nat) : (Ent.opt b).sub p = match p with | [] => b | _ :: _ => none := by
  cases b <;> cases p <;> rfl

theorem Ent.sub_put_ne : ∀ (p q : List Nat) (e : Ent) (b : Option Blk), q ≠ p → (e.put p b).sub q = e.sub q
  | [], q, e, b, h => by
    cases q with
    | nil => exact absurd rfl h
    | cons a q => cases e <;> simp [Ent.put, Ent.sub, Ent.sub_opt]
  | i :: p, q, e, b, h => by
    cases e with
    | dead => rfl
    | one c => rfl
    | node m s =>
      cases q with
      | nil => rfl
      | cons a q =>
        simp only [Ent.put, Ent.sub, List.getElem?_modify]
        by_cases hia : i = a
        · subst hia
          simp only [if_true]
          cases hs : s[i]? with
          | none => rfl
          | some e' => exact Ent.sub_put_ne p q e' b (fun hq => h (by rw [hq]))
        · simp [hia]
theorem Ent.sub_put_eq : ∀ (p : List Nat) (e : Ent) (b : Option Blk) {b0 : Blk}, e.sub p = some b0 → (e.put p b).sub p = b
  | [], e, b, _, h => by cases e <;> simp [Ent.put, Ent.sub, Ent.sub_opt]
  | i :: p, e, b, b0, h => by
    cases e with
    | dead => cases h
    | one c => cases h
    | node m s =>
      simp only [Ent.put, Ent.sub, List.getElem?_modify] at h ⊢
      cases hs : s[i]? with
      | none => rw [hs] at h; cases h
      | some e' =>
        rw [hs] at h
        simpa using Ent.sub_put_eq p e' b h

theorem Store.get_put_ne {σ : Store} {i j : Id} {b : Option Blk} (h : j ≠ i) : (σ.put i b)[j]? = σ[j]? := by
  rw [Store.at_eq, Store.at_eq, Store.at, Store.at, Store.put, List.getElem?_modify]
  by_cases hr : i.1 = j.1
  · simp only [if_pos hr]
    cases hs : σ[j.1]? with
    | none => rfl
    | some e =>
      simp only [Option.map_eq_map, Option.map_some]
      rw [Ent.sub_put_ne _ _ _ _ (fun hp => h (Prod.ext hr.symm hp))]
  · simp [if_neg hr]
theorem Store.get_put_eq {σ : Store} {i : Id} {b : Option Blk} {b0 : Blk} (h : σ[i]? = some (some b0)) : (σ.put i b)[i]? = some b := by
  rw [Store.at_eq, Store.at] at h ⊢
  rw [Store.put, List.getElem?_modify]
  cases hs : σ[i.1]? with
  | none => rw [hs] at h; cases h
  | some e =>
    rw [hs] at h
    simp only [Option.some.injEq] at h
    simp only [if_true, Option.map_eq_map, Option.map_some, Option.some.injEq]
    exact Ent.sub_put_eq _ _ _ h
/-- What is alive after a block has been replaced. -/
theorem Store.get_put {σ : Store} {i j : Id} {b : Option Blk} {b0 x : Blk} (h : σ[i]? = some (some b0)) (hj : (σ.put i b)[j]? = some (some x)) : (j = i ∧ b = some x) ∨ (j ≠ i ∧ σ[j]? = some (some x)) := by
  by_cases e : j = i
  · subst e
    rw [Store.get_put_eq h] at hj
    exact .inl ⟨rfl, Option.some.inj hj⟩
  · rw [Store.get_put_ne e] at hj
    exact .inr ⟨e, hj⟩
theorem Ent.dead_put : ∀ (p : List Nat) (e : Ent) {x : Blk}, e.sub p = none → (e.put p none).sub p = some x → False
  | [], e, x, h, hx => by cases e <;> simp [Ent.put, Ent.sub, Ent.sub_opt] at hx
  | i :: p, e, x, h, hx => by
    cases e with
    | dead => cases hx
    | one c => cases hx
    | node m s =>
      simp only [Ent.put, Ent.sub, List.getElem?_modify] at h hx
      cases hs : s[i]? with
      | none => rw [hs] at hx; cases hx
      | some e' =>
        rw [hs] at h hx
        exact Ent.dead_put p e' h (by simpa using hx)
/-- What is alive after a block has been given up. -/
theorem Store.get_kill {σ : Store} {i j : Id} {x : Blk} (hj : (σ.put i none)[j]? = some (some x)) : j ≠ i ∧ σ[j]? = some (some x) := by
  by_cases e : j = i
  · subst e
    cases h : σ[j]? with
    | none =>
      have := Store.lt_of hj
      rw [Store.length_put] at this
      rw [Store.at_eq, Store.at, List.getElem?_eq_getElem this] at h
      cases h
    | some o =>
      cases o with
      | none =>
        exfalso
        rw [Store.at_eq, Store.at, Store.put, List.getElem?_modify] at hj
        rw [Store.at_eq, Store.at] at h
        cases hs : σ[j.1]? with
        | none => rw [hs] at h; cases h
        | some e =>
          rw [hs] at h hj
          simp only [if_true, Option.map_eq_map, Option.map_some, Option.some.injEq] at h hj
          exact Ent.dead_put _ _ h hj
      | some b0 => rw [Store.get_put_eq h] at hj; cases hj
  · exact ⟨e, by rwa [Store.get_put_ne e] at hj⟩

def lookup (t : Nat) : Env → Option T
  | [] => none
  | (k, v) :: r => match Nat.beq k t with
    | true => some v
    | false => lookup t r

structure St where
  env : Env
  σ : Store

theorem add_block (a : Addr) (n : Nat) : (a.add n).block = a.block := by unfold Addr.add; split <;> rfl

theorem Store.put_last (b b' : Blk) : ∀ σ : Store, Store.put (σ ++ [.one b]) (σ.length, []) (some b') = σ ++ [.one b']
  | [] => rfl
  | e :: σ => by
    have := Store.put_last b b' σ
    simp only [Store.put] at this ⊢
    simpa using this

mutual
def Ent.map (f : Blk → Blk) : Ent → Ent
  | .dead => .dead
  | .one b => .one (f b)
  | .node m s => .node (m.map f) (Ent.mapL f s)
def Ent.mapL (f : Blk → Blk) : List Ent → List Ent
  | [] => []
  | e :: r => Ent.map f e :: Ent.mapL f r
end
/-- Every block of a store changed. -/
def Store.mapB (f : Blk → Blk) (σ : Store) : Store := Ent.mapL f σ
theorem mapL_eq (f : Blk → Blk) : ∀ l : List Ent, Ent.mapL f l = List.map (Ent.map f) l
  | [] => rfl
  | e :: r => by rw [Ent.mapL, mapL_eq f r]; rfl
theorem Ent.sub_map (f : Blk → Blk) : ∀ (p : List Nat) (e : Ent), (e.map f).sub p = (e.sub p).map f
  | [], e => by cases e <;> simp [Ent.map, Ent.sub]
  | i :: p, e => by
    cases e with
    | dead => rfl
    | one c => rfl
    | node m s =>
      simp only [Ent.map, Ent.sub, mapL_eq, List.getElem?_map]
      cases hs : s[i]? with
      | none => rfl
      | some e' => simpa using Ent.sub_map f p e'
theorem Store.get_map (f : Blk → Blk) (σ : Store) (i : Id) : (σ.mapB f)[i]? = (σ[i]?).map (Option.map f) := by
  rw [Store.at_eq, Store.at_eq, Store.at, Store.at, Store.mapB, mapL_eq, List.getElem?_map]
  cases σ[i.1]? with
  | none => rfl
  | some e => simp [Ent.sub_map]
@[simp] theorem Store.length_map (f : Blk → Blk) (σ : Store) : (σ.mapB f).length = σ.length := by simp [Store.mapB, mapL_eq]
theorem Store.get_map_some {f : Blk → Blk} {σ : Store} {i : Id} {b : Blk} (h : (σ.mapB f)[i]? = some (some b)) : ∃ b0, σ[i]? = some (some b0) ∧ b = f b0 := by
  rw [Store.get_map] at h
  cases hx : σ[i]? with
  | none => rw [hx] at h; cases h
  | some o =>
    rw [hx] at h
    cases o with
    | none => cases h
    | some b0 => cases h; exact ⟨b0, rfl, rfl⟩

/-- Names behind n roots. -/
def sh (n : Nat) : Id → Id := fun i => (i.1 + n, i.2)
def unsh (n : Nat) : Id → Id := fun i => (i.1 - n, i.2)
theorem unsh_sh (n : Nat) (i : Id) : unsh n (sh n i) = i := by simp [sh, unsh]
theorem sh_unsh {n : Nat} {i : Id} (h : n ≤ i.1) : sh n (unsh n i) = i := by
  obtain ⟨r, p⟩ := i
  simp only [sh, unsh] at h ⊢
  rw [show r - n + n = r by omega]

/-- What never changes. -/
inductive RelI (w : World) (A : Nat → Prop) : I → Value → Prop
  | val {v} (h : v.oneCell' = true) : RelI w A (.val v) v
  | sl {k es a cap} (us : Nat → Nat → Value) (hcap : es.length ≤ cap) (hmax : cap ≤ maxLen)
      (hk : ∀ (j : Nat) (e : List I), es[j]? = some e → e.length = k)
      (hc : ∀ (j : Nat) (e : List I) (o : Nat) (x : I), es[j]? = some e → e[o]? = some x → A a.block ∧ w.cell? (a.add (j * k + o)) = some (us j o))
      (hr : ∀ (j : Nat) (e : List I) (o : Nat) (x : I), es[j]? = some e → e[o]? = some x → RelI w A x (us j o)) : RelI w A (.sl k es) (.slice (some a) es.length cap)
  | slNil {k} : RelI w A (.sl k []) (.slice none 0 0)
  | ipt {cs a} (us : Nat → Value)
      (hc : ∀ (o : Nat) (x : I), cs[o]? = some x → A a.block ∧ w.cell? (a.add o) = some (us o))
      (hr : ∀ (o : Nat) (x : I), cs[o]? = some x → RelI w A x (us o)) : RelI w A (.ipt cs) (.pointer (some a))
  | fn {f caps} (us : Nat → Value) (hr : ∀ (i : Nat) (c : I), caps[i]? = some c → RelI w A c (us i)) :
      RelI w A (.fn f caps) (.func (.func f) #[] ((List.range caps.length).map us).toArray)

theorem RelI.one {w : World} {A : Nat → Prop} {x : I} {v : Value} (h : RelI w A x v) : v.oneCell' = true := by cases h <;> first | assumption | rfl

theorem RelI.mono {w w' : World} {A A' : Nat → Prop} {x : I} {v : Value} (hw : ∀ b, A b → b < w.heap.size → w'.heap[b]? = w.heap[b]?) (hA : ∀ b, A b → b < w.heap.size → A' b) (h : RelI w A x v) : RelI w' A' x v := by
  induction h with
  | val h => exact .val h
  | sl us hcap hmax hk hc _ ih =>
    refine .sl us hcap hmax hk (fun j e o x h1 h2 => ?_) ih
    obtain ⟨ha, hcell⟩ := hc j e o x h1 h2
    have hlt := World.block_lt_of_cell? _ _ hcell
    rw [add_block] at hlt
    exact ⟨hA _ ha hlt, (World.cell?_of_block (by rw [add_block]; exact hw _ ha hlt)).trans hcell⟩
  | slNil => exact .slNil
  | ipt us hc _ ih =>
    refine .ipt us (fun o x h2 => ?_) ih
    obtain ⟨ha, hcell⟩ := hc o x h2
    have hlt := World.block_lt_of_cell? _ _ hcell
    rw [add_block] at hlt
    exact ⟨hA _ ha hlt, (World.cell?_of_block (by rw [add_block]; exact hw _ ha hlt)).trans hcell⟩
  | fn us _ ih => exact .fn us ih

/-- A slice value that looks at n elements of an owned block, from element j on. -/
def OwnView (w : World) (p : Option (Nat × Nat)) (k len : Nat) (j n : Nat) (v : Value) : Prop :=
  (p = none ∧ v = .slice none 0 0 ∧ j = 0 ∧ n = 0) ∨
  ∃ b base cap arr ety a, p = some (b, base) ∧ v = .slice (some a) n cap ∧ (0 < cap → a = ⟨b, base + j * k, none⟩) ∧ n ≤ cap ∧ cap ≤ maxLen ∧ j + n ≤ len ∧
    w.heap[b]? = some (.cells arr ety (0, 0)) ∧ base + (j + cap) * k ≤ arr.size

inductive RelC (w : World) (φ : Phi) (σ : Store) (A : Nat → Prop) : C → Value → Prop
  | imm {x v} (h : RelI w A x v) : RelC w φ σ A (.imm x) v
  | own {id j n v} (hid : id.1 < σ.length) (h1 : v.oneCell' = true)
      (h : ∀ (k : Nat) (es : List (List C)), σ[id]? = some (some (.cells k es)) → OwnView w (φ id) k es.length j n v) : RelC w φ σ A (.own id j n) v
  | ptr {id j o v} (hid : id.1 < σ.length) (h1 : v.oneCell' = true)
      (h : ∀ (k : Nat) (es : List (List C)), σ[id]? = some (some (.cells k es)) → ∃ b base, φ id = some (b, base) ∧ v = .pointer (some ⟨b, base + (j * k + o), none⟩)) : RelC w φ σ A (.ptr id j o) v
  | fn {f caps} (us : Nat → Value) (hr : ∀ (i : Nat) (c : C), caps[i]? = some c → RelC w φ σ A c (us i)) :
      RelC w φ σ A (.fn f caps) (.func (.func f) #[] ((List.range caps.length).map us).toArray)
  | ifcA {t cs} (us : Nat → Value) (hr : ∀ (i : Nat) (c : C), cs[i]? = some c → RelC w φ σ A c (us i)) :
      RelC w φ σ A (.ifc t cs true) (.iface t (.agg ((List.range cs.length).map us).toArray))
  | ifc1 {t c u} (hr : RelC w φ σ A c u) : RelC w φ σ A (.ifc t [c] false) (.iface t u)
  | map {id v} (hid : id.1 < σ.length) (h1 : v.oneCell' = true)
      (h : ∀ p, σ[id]? = some (some (.obj p)) → ∃ b base, φ id = some (b, base) ∧ v = .map (some b)) : RelC w φ σ A (.map id) v

theorem RelC.one {w : World} {φ : Phi} {σ : Store} {A : Nat → Prop} {c : C} {v : Value} (h : RelC w φ σ A c v) : v.oneCell' = true := by
  cases h <;> first | assumption | rfl | (exact RelI.one ‹_›)

inductive RelT (w : World) (φ : Phi) (σ : Store) (A : Nat → Prop) : T → Value → Prop
  | c {x v} (h : RelC w φ σ A x v) : RelT w φ σ A (.c x) v
  | agg {cs} (us : Nat → Value) (hr : ∀ (i : Nat) (c : C), cs[i]? = some c → RelC w φ σ A c (us i)) : RelT w φ σ A (.agg cs) (.agg ((List.range cs.length).map us).toArray)
  | tup {ts} (us : Nat → Value) (hr : ∀ (i : Nat) (t : T), ts[i]? = some t → RelT w φ σ A t (us i)) : RelT w φ σ A (.tup ts) (.tuple ((List.range ts.length).map us).toArray)
  | undef : RelT w φ σ A .undef undef

/-- The blocks that what never changes may lie in: neither forbidden nor owned. -/
def Al (N : Nat → Prop) (φ : Phi) (σ : Store) (b : Nat) : Prop := ¬ N b ∧ ∀ (i : Id) (blk : Blk) (base : Nat), σ[i]? = some (some blk) → φ i ≠ some (b, base)

def BlkR (w : World) (φ : Phi) (σ : Store) (A : Nat → Prop) (p : Option (Nat × Nat)) : Blk → Prop
  | .cells k es => (p = none ∧ es = []) ∨ ∃ (b base : Nat) (arr : Array Value) (ety : TypeId), p = some (b, base) ∧ w.heap[b]? = some (.cells arr ety (0, 0)) ∧ base + es.length * k ≤ arr.size ∧
      (∀ (j : Nat) (e : List C), es[j]? = some e → e.length = k) ∧ (∀ (j : Nat) (e : List C) (o : Nat) (x : C), es[j]? = some e → e[o]? = some x → ∃ u, arr[base + (j * k + o)]? = some u ∧ RelC w φ σ A x u)
  | .obj q => ∃ b o, p = some (b, 0) ∧ w.heap[b]? = some o ∧ q o

structure StR (w : World) (φ : Phi) (σ : Store) (A : Nat → Prop) : Prop where
  blk : ∀ (i : Id) b, σ[i]? = some (some b) → BlkR w φ σ A (φ i) b
  inj : ∀ (i j : Id) bi bj p q, σ[i]? = some (some bi) → σ[j]? = some (some bj) → φ i = some p → φ j = some q → p.1 = q.1 → i = j

/-- What a change of world and store must leave so that a value reads as before. -/
structure Kept (w w' : World) (φ φ' : Phi) (σ σ' : Store) (A A' : Nat → Prop) : Prop where
  imm : ∀ b, A b → b < w.heap.size → w'.heap[b]? = w.heap[b]?
  all : ∀ b, A b → b < w.heap.size → A' b
  len : σ.length ≤ σ'.length
  cells : ∀ (i : Id) k es', i.1 < σ.length → σ'[i]? = some (some (.cells k es')) → ∃ es, σ[i]? = some (some (.cells k es)) ∧ es.length = es'.length ∧ φ' i = φ i ∧
    ∀ b base arr ety, φ i = some (b, base) → w.heap[b]? = some (.cells arr ety (0, 0)) → ∃ arr', w'.heap[b]? = some (.cells arr' ety (0, 0)) ∧ arr'.size = arr.size
  obj : ∀ (i : Id) p', i.1 < σ.length → σ'[i]? = some (some (.obj p')) → φ' i = φ i ∧ ∃ p, σ[i]? = some (some (.obj p))

theorem RelC.mono {w w' : World} {φ φ' : Phi} {σ σ' : Store} {A A' : Nat → Prop} {c : C} {v : Value} (H : Kept w w' φ φ' σ σ' A A') (h : RelC w φ σ A c v) : RelC w' φ' σ' A' c v := by
  induction h with
  | imm h => exact .imm (h.mono H.imm H.all)
  | own hid h1 h =>
    refine .own (Nat.lt_of_lt_of_le hid H.len) h1 fun k es' he => ?_
    obtain ⟨es, he0, hl, hp, hb⟩ := H.cells _ k es' hid he
    rw [hp]
    rcases h k es he0 with h | ⟨b, base, cap, arr, ety, ad, h2, h3, h3', h4, h5, h6, h7, h8⟩
    · exact .inl h
    · obtain ⟨arr', ha, hs⟩ := hb b base arr ety h2 h7
      exact .inr ⟨b, base, cap, arr', ety, ad, h2, h3, h3', h4, h5, by omega, ha, by omega⟩
  | ptr hid h1 h =>
    refine .ptr (Nat.lt_of_lt_of_le hid H.len) h1 fun k es' he => ?_
    obtain ⟨es, he0, hl, hp, hb⟩ := H.cells _ k es' hid he
    rw [hp]
    exact h k es he0
  | fn us _ ih => exact .fn us ih
  | ifcA us _ ih => exact .ifcA us ih
  | ifc1 _ ih => exact .ifc1 ih
  | map hid h1 h =>
    refine .map (Nat.lt_of_lt_of_le hid H.len) h1 fun p' he => ?_
    obtain ⟨hp, p, he0⟩ := H.obj _ p' hid he
    rw [hp]
    exact h p he0

theorem RelT.mono {w w' : World} {φ φ' : Phi} {σ σ' : Store} {A A' : Nat → Prop} {t : T} {v : Value} (H : Kept w w' φ φ' σ σ' A A') (h : RelT w φ σ A t v) : RelT w' φ' σ' A' t v := by
  induction h with
  | c h => exact .c (h.mono H)
  | agg us hr => exact .agg us fun i c hi => (hr i c hi).mono H
  | tup us _ ih => exact .tup us ih
  | undef => exact .undef


theorem Kept.refl (w : World) (φ : Phi) (σ : Store) (A : Nat → Prop) : Kept w w φ φ σ σ A A :=
  ⟨fun _ _ _ => rfl, fun _ h _ => h, Nat.le_refl _, fun _ _ es _ h => ⟨es, h, rfl, rfl, fun _ _ arr _ _ h2 => ⟨arr, h2, rfl⟩⟩, fun _ p _ h => ⟨rfl, p, h⟩⟩

theorem Kept.trans {w w' w'' : World} {φ φ' φ'' : Phi} {σ σ' σ'' : Store} {A A' A'' : Nat → Prop} (hs : w.heap.size ≤ w'.heap.size) (h : Kept w w' φ φ' σ σ' A A') (k : Kept w' w'' φ' φ'' σ' σ'' A' A'') : Kept w w'' φ φ'' σ σ'' A A'' where
  imm b hb hl := (k.imm b (h.all b hb hl) (Nat.lt_of_lt_of_le hl hs)).trans (h.imm b hb hl)
  all b hb hl := k.all b (h.all b hb hl) (Nat.lt_of_lt_of_le hl hs)
  len := Nat.le_trans h.len k.len
  cells i kk es'' hi he := by
    obtain ⟨es', h1, h2, h3, h4⟩ := k.cells i kk es'' (Nat.lt_of_lt_of_le hi h.len) he
    obtain ⟨es, g1, g2, g3, g4⟩ := h.cells i kk es' hi h1
    refine ⟨es, g1, by omega, h3.trans g3, fun b base arr ety hp hb => ?_⟩
    obtain ⟨arr', e1, e2⟩ := g4 b base arr ety hp hb
    obtain ⟨arr'', e3, e4⟩ := h4 b base arr' ety (g3.trans hp) e1
    exact ⟨arr'', e3, e4.trans e2⟩
  obj i p'' hi he := by
    obtain ⟨h1, p', h2⟩ := k.obj i p'' (Nat.lt_of_lt_of_le hi h.len) he
    obtain ⟨g1, p, g2⟩ := h.obj i p' hi h2
    exact ⟨h1.trans g1, p, g2⟩

theorem BlkR.mono {w w' : World} {φ φ' : Phi} {σ σ' : Store} {A A' : Nat → Prop} (H : Kept w w' φ φ' σ σ' A A') {p : Option (Nat × Nat)} {b : Blk} (hb : ∀ g base, p = some (g, base) → w'.heap[g]? = w.heap[g]?)
    (h : BlkR w φ σ A p b) : BlkR w' φ' σ' A' p b := by
  cases b with
  | cells k es =>
    rcases h with h | ⟨b, base, arr, ety, h1, h2, h3, h4, h5⟩
    · exact .inl h
    · refine .inr ⟨b, base, arr, ety, h1, (hb b base h1).trans h2, h3, h4, fun j e o x he hx => ?_⟩
      obtain ⟨u, hu, hr⟩ := h5 j e o x he hx
      exact ⟨u, hu, hr.mono H⟩
  | obj q =>
    obtain ⟨b, o, h1, h2, h3⟩ := h
    exact ⟨b, o, h1, (hb b 0 h1).trans h2, h3⟩


/-- Where a call began: its world, its store with the places of its blocks, and the blocks that what never changes may not lie in. -/
structure Cx where
  w0 : World
  N : Nat → Prop
  φ0 : Phi
  σ0 : Store

/-- The blocks that a call leaves as they were: all that were there, but those that were handed in to be written. -/
def Cx.K (Γ : Cx) (b : Nat) : Prop := b < Γ.w0.heap.size ∧ ∀ (i : Id) (blk : Blk) (base : Nat), Γ.σ0[i]? = some (some blk) → Γ.φ0 i ≠ some (b, base)

structure Good (Γ : Cx) : Prop where
  st : StR Γ.w0 Γ.φ0 Γ.σ0 (Al Γ.N Γ.φ0 Γ.σ0)
  lt : ∀ b, Γ.N b → b < Γ.w0.heap.size
  own : ∀ (i : Id) (blk : Blk) (b base : Nat), Γ.σ0[i]? = some (some blk) → Γ.φ0 i = some (b, base) → ¬ Γ.N b

/-- World and store, in the midst of a call. -/
structure Rs (Γ : Cx) (σ : Store) (φ : Phi) (w : World) : Prop where
  good : Good Γ
  st : StR w φ σ (Al Γ.N φ σ)
  keep : ∀ (i : Id) (blk : Blk) (b base : Nat), σ[i]? = some (some blk) → φ i = some (b, base) → ¬ Γ.K b
  os : w.os = Γ.w0.os
  tape : w.tape = Γ.w0.tape
  output : w.output = Γ.w0.output
  size : Γ.w0.heap.size ≤ w.heap.size
  block : ∀ b, Γ.K b → w.heap[b]? = Γ.w0.heap[b]?
  kept : Kept Γ.w0 w Γ.φ0 φ Γ.σ0 σ (Al Γ.N Γ.φ0 Γ.σ0) (Al Γ.N φ σ)

structure R (Γ : Cx) (sz : Nat) (s : St) (φ : Phi) (a : Act) (w : World) : Prop extends Rs Γ s.σ φ w where
  defers : a.defers = []
  asize : a.tmps.size = sz
  env : ∀ t v, lookup t s.env = some v → ∃ u, a.tmps[t]? = some u ∧ RelT w φ s.σ (Al Γ.N φ s.σ) v u

end Ab
