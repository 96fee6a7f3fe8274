/-
  Small rules for the ends of code; data as abstract values; the definitions are closed.
-/
import Derived.Test.YtfjbddjoagefkaaAb11
namespace Ab
open Go

section
variable {K : St → Prop} {Q : Post} {env : Env} {σv : Store} {i id : Nat}
theorem thn_normal (h : K (St.mk env σv)) : thn K Q .normal (St.mk env σv) := h
theorem thn_ret (h : Q .ret (St.mk env σv)) : thn K Q .ret (St.mk env σv) := h
theorem thn_exit (h : Q (.exit i) (St.mk env σv)) : thn K Q (.exit i) (St.mk env σv) := h
theorem inB_normal (h : Q .normal (St.mk env σv)) : inB id Q .normal (St.mk env σv) := h
theorem inB_ret (h : Q .ret (St.mk env σv)) : inB id Q .ret (St.mk env σv) := h
theorem inB_exit (h : Q .normal (St.mk env σv)) : inB id Q (.exit id) (St.mk env σv) := by simpa [inB] using h
theorem inB_exit_ne (hn : Nat.beq i id = false) (h : Q (.exit i) (St.mk env σv)) : inB id Q (.exit i) (St.mk env σv) := by
  have : i ≠ id := fun e => by subst e; simp at hn
  simpa [inB, this] using h
end

abbrev intI (n : Int) : List I := [.val (.int .i64 n)]
abbrev ints (l : List Int) : C := .imm (.sl 1 (l.map intI))

theorem get_map {α β : Type} (f : α → β) {l : List α} {i : Nat} (h : i < l.length) : (l.map f)[i]? = some (f l[i]) := by simp [h]

theorem AOps.lenL {P : Program} {σ0 : Store} {sz : Nat} {Q : Post} {env : Env} {σv : Store} {ops : Array Oper} {rest : List Oper} {dst : Option Nat} {ty : TypeId} {pos : String} {after : Array Edge} {α : Type} {f : α → List I} {l : List α} {x : Operand} {t e : TypeId} {k : Nat} [ht : TyD P t (.slice e)]
    (hx : ev env x = some (.c (.imm (.sl k (l.map f))))) (hd : dstOk sz dst = true) (h : AOps P σ0 sz ops Q rest (St.mk (putE env dst (.c (int l.length))) σv)) : AOps P σ0 sz ops Q (⟨dst, .call ⟨.builtin .len, #[x], #[t]⟩, ty, pos, after, none⟩ :: rest) (St.mk env σv) :=
  .len hx hd (by rw [List.length_map]; exact h)

/-- An element of a list of data. -/
theorem AOps.idx {P : Program} {σ0 : Store} {sz : Nat} {Q : Post} {env : Env} {σv : Store} {ops : Array Oper} {rest : List Oper} {dst : Option Nat} {ty : TypeId} {pos : String} {after : Array Edge} {α : Type} {f : α → List I} {l : List α} {x y : Operand} {t e : TypeId} {k bytes : Nat} {z : Value} {i : Nat} [ht : TyD P t (.slice e)] [hs : TyS P e k bytes z]
    (hx : ev env x = some (.c (.imm (.sl k (l.map f))))) (hy : ev env y = some (.c (int (i : Int)))) (hi : i < l.length) (hd : dstOk sz dst = true)
    (h : AOps P σ0 sz ops Q rest (St.mk (putE env dst (.c (.imm (.ipt (f l[i]))))) σv)) : AOps P σ0 sz ops Q (⟨dst, .indexAddr t x y, ty, pos, after, none⟩ :: rest) (St.mk env σv) :=
  .indexAddr hx hy (Int.natCast_nonneg i) (by rw [Int.toNat_natCast]; exact get_map f hi) hd h

theorem AOps.idxZ {P : Program} {σ0 : Store} {sz : Nat} {Q : Post} {env : Env} {σv : Store} {ops : Array Oper} {rest : List Oper} {dst : Option Nat} {ty : TypeId} {pos : String} {after : Array Edge} {α : Type} {f : α → List I} {l : List α} {x y : Operand} {t e : TypeId} {k bytes : Nat} {z : Value} {i : Int} [ht : TyD P t (.slice e)] [hs : TyS P e k bytes z]
    (hx : ev env x = some (.c (.imm (.sl k (l.map f))))) (hy : ev env y = some (.c (int i))) (h0 : 0 ≤ i) (hi : i.toNat < l.length) (hd : dstOk sz dst = true)
    (h : AOps P σ0 sz ops Q rest (St.mk (putE env dst (.c (.imm (.ipt (f l[i.toNat]))))) σv)) : AOps P σ0 sz ops Q (⟨dst, .indexAddr t x y, ty, pos, after, none⟩ :: rest) (St.mk env σv) :=
  .indexAddr hx hy h0 (get_map f hi) hd h


end Ab
