/-
  ONE RULE AN OPERATION: those that only compute or read, calls, guards, regions.
-/
import Derived.Test.YtfjbddjoagefkaaAb4
namespace Ab
open Go

class TyD (P : Program) (t : TypeId) (d : outParam TypeDesc) : Prop where
  h : P.underlying t = some d
class TyS (P : Program) (t : TypeId) (size bytes : outParam Nat) (zero : outParam Value) : Prop where
  h : ∃ i, P.info? t = some i ∧ i.size = size ∧ i.bytes = bytes ∧ i.zero = some zero

def evs (env : Env) : List Operand → Option (List T)
  | [] => some []
  | x :: r => match ev env x, evs env r with
    | some t, some ts => some (t :: ts)
    | _, _ => none

section
variable {P : Program} {σ0 : Store} {sz : Nat} {Q : Post} {env : Env} {σv : Store} {ops : Array Oper} {rest : List Oper}

theorem AWP.region {id : Nat} {l : List Oper} (h : AOps P σ0 sz l.toArray Q l (St.mk env σv)) : AWP P σ0 sz (.region id l.toArray false) Q (St.mk env σv) := fun Γ φ a w hΓ hR => wp_region_lit (h Γ φ a w hΓ hR)

theorem AOps.nil (h : Q .normal (St.mk env σv)) : AOps P σ0 sz ops Q [] (St.mk env σv) := fun _ φ _ _ _ hR => wpList_nil ⟨(St.mk env σv), φ, h, hR⟩

/-- A test. -/
theorem AWP.cond {x : Operand} {c d : Code} {b : Bool} (hx : ev env x = some (.c (bool b))) (ht : b = true → AWP P σ0 sz c Q (St.mk env σv)) (hf : b = false → AWP P σ0 sz d Q (St.mk env σv)) : AWP P σ0 sz (.cond x c d) Q (St.mk env σv) := fun Γ φ a w hΓ hR => by
  have h := ev_rel hR hx
  have e : a.eval x = .bool b := by
    generalize a.eval x = v at h
    cases h with | c h => cases h with | imm h => cases h; rfl
  exact wp_cond_split e (fun hb => ht hb Γ φ a w hΓ hR) (fun hb => hf hb Γ φ a w hΓ hR)

/-- An operation that yields a value and leaves world and store. -/
theorem AOps.value {o : Oper} (hg : o.guard = none) (hd : dstOk sz o.dst = true) (v : T)
    (h : ∀ Γ φ a w, R Γ sz (St.mk env σv) φ a w → ∃ u, (execOp a.eval o).run P w = .ok (.value u) w ∧ RelT w φ σv (Al Γ.N φ σv) v u)
    (hn : AOps P σ0 sz ops Q rest (St.mk (putE env o.dst v) σv)) : AOps P σ0 sz ops Q (o :: rest) (St.mk env σv) := fun Γ φ a w hΓ hR =>
  wpList_plain hg fun K hK => by
    obtain ⟨u, hu, hr⟩ := h Γ φ a w hR
    unfold Oper.wp
    rw [hu, Oper.upon_value]
    exact hK _ _ (hn Γ φ _ w hΓ (hR.put hd hr))

/-- An operation that yields a value in a new world and store. -/
theorem AOps.valueW {o : Oper} (hg : o.guard = none) (hd : dstOk sz o.dst = true) (v : T) (σ' : Store)
    (h : ∀ Γ φ a w, R Γ sz (St.mk env σv) φ a w → ∃ u w' φ', (execOp a.eval o).run P w = .ok (.value u) w' ∧ RelT w' φ' σ' (Al Γ.N φ' σ') v u ∧ R Γ sz ⟨env, σ'⟩ φ' a w')
    (hn : AOps P σ0 sz ops Q rest ((St.mk env σ').put o.dst v)) : AOps P σ0 sz ops Q (o :: rest) (St.mk env σv) := fun Γ φ a w hΓ hR =>
  wpList_plain hg fun K hK => by
    obtain ⟨u, w', φ', hu, hr, hR'⟩ := h Γ φ a w hR
    unfold Oper.wp
    rw [hu, Oper.upon_value]
    exact hK _ _ (hn Γ φ' _ w' hΓ (hR'.put hd hr))

/-- An operation without a value. -/
theorem AOps.skipW {o : Oper} (hg : o.guard = none) (hd : o.dst = none) (σ' : Store)
    (h : ∀ Γ φ a w, R Γ sz (St.mk env σv) φ a w → ∃ w' φ', (execOp a.eval o).run P w = .ok .skip w' ∧ R Γ sz ⟨env, σ'⟩ φ' a w')
    (hn : AOps P σ0 sz ops Q rest ⟨env, σ'⟩) : AOps P σ0 sz ops Q (o :: rest) (St.mk env σv) := fun Γ φ a w hΓ hR =>
  wpList_plain hg fun K hK => by
    obtain ⟨w', φ', hu, hR'⟩ := h Γ φ a w hR
    unfold Oper.wp
    rw [hu, Oper.upon_skip, hd]
    exact hK _ _ (hn Γ φ' _ w' hΓ hR')

/-- A guarded operation: it runs if the operation that guards it has yielded b. -/
theorem AOps.guard {dst : Option Nat} {op : Op} {ty : TypeId} {pos : String} {after : Array Edge} {j t : Nat} {b bv : Bool} (hj : (ops[j]?).bind (·.dst) = some t) (ht : lookup t env = some (.c (bool bv))) (hd : dstOk sz dst = true)
    (h1 : bv = b → AOps P σ0 sz ops Q (⟨dst, op, ty, pos, after, none⟩ :: rest) (St.mk env σv)) (h2 : bv = !b → AOps P σ0 sz ops Q rest (St.mk (putE env dst .undef) σv)) : AOps P σ0 sz ops Q (⟨dst, op, ty, pos, after, some (j, b)⟩ :: rest) (St.mk env σv) := fun Γ φ a w hΓ hR => by
  obtain ⟨u, hu, hr⟩ := hR.env t _ ht
  have e : u = .bool bv := by cases hr with | c h => cases h with | imm h => cases h; rfl
  subst e
  have hy : yielded ops a.tmps j = some bv := by simp [yielded, hj, hu]
  unfold wpList
  by_cases hb : bv = b
  · rw [if_pos (by simp [Region.wanted, hy, hb])]
    have := h1 hb Γ φ a w hΓ hR
    unfold wpList at this
    rw [if_pos (by simp [Region.wanted])] at this
    exact this
  · rw [if_neg (by simp [Region.wanted, hy, hb])]
    exact h2 (by cases bv <;> cases b <;> simp_all) Γ φ _ w hΓ (hR.put hd .undef)

/-- A guarded operation whose guard has not run. -/
theorem AOps.guardSkip {dst : Option Nat} {op : Op} {ty : TypeId} {pos : String} {after : Array Edge} {j t : Nat} {b : Bool} (hj : (ops[j]?).bind (·.dst) = some t) (ht : lookup t env = some .undef) (hd : dstOk sz dst = true)
    (h2 : AOps P σ0 sz ops Q rest (St.mk (putE env dst .undef) σv)) : AOps P σ0 sz ops Q (⟨dst, op, ty, pos, after, some (j, b)⟩ :: rest) (St.mk env σv) := fun Γ φ a w hΓ hR => by
  obtain ⟨u, hu, hr⟩ := hR.env t _ ht
  have e : u = Go.undef := by cases hr; rfl
  subst e
  have hy : yielded ops a.tmps j = none := by simp [yielded, hj, hu, Go.undef]
  unfold wpList
  rw [if_neg (by simp [Region.wanted, hy])]
  exact h2 Γ φ _ w hΓ (hR.put hd .undef)

section
variable {dst : Option Nat} {ty : TypeId} {pos : String} {after : Array Edge}

theorem AOps.move {x : Operand} {v : T} (hx : ev env x = some v) (hd : dstOk sz dst = true) (h : AOps P σ0 sz ops Q rest (St.mk (putE env dst v) σv)) : AOps P σ0 sz ops Q (⟨dst, .move x, ty, pos, after, none⟩ :: rest) (St.mk env σv) :=
  .value rfl hd v (fun _ _ a _ hR => ⟨a.eval x, rfl, ev_rel hR hx⟩) h
theorem AOps.assign {x : Operand} {v : T} (hx : ev env x = some v) (hd : dstOk sz dst = true) (h : AOps P σ0 sz ops Q rest (St.mk (putE env dst v) σv)) : AOps P σ0 sz ops Q (⟨dst, .assign x, ty, pos, after, none⟩ :: rest) (St.mk env σv) :=
  .value rfl hd v (fun _ _ a _ hR => ⟨a.eval x, rfl, ev_rel hR hx⟩) h

theorem val_inv {w : World} {φ : Phi} {σ : Store} {A : Nat → Prop} {v u : Value} (h : RelT w φ σ A (.c (.imm (.val v))) u) : u = v := by cases h with | c h => cases h with | imm h => cases h; rfl

theorem ev_val {Γ : Cx} {φ : Phi} {a : Act} {w : World} (hR : R Γ sz (St.mk env σv) φ a w) {x : Operand} {v : Value} (h : ev env x = some (.c (.imm (.val v)))) : a.eval x = v := val_inv (ev_rel hR h)

theorem AOps.pick {c x y : Operand} {b : Bool} {v : T} (hc : ev env c = some (.c (bool b))) (hb : (b = true ∧ ev env x = some v) ∨ (b = false ∧ ev env y = some v)) (hd : dstOk sz dst = true)
    (h : AOps P σ0 sz ops Q rest (St.mk (putE env dst v) σv)) : AOps P σ0 sz ops Q (⟨dst, .pick c x y, ty, pos, after, none⟩ :: rest) (St.mk env σv) :=
  .value rfl hd v (fun _ _ a _ hR => by
    have e := ev_val hR hc
    rcases hb with ⟨rfl, hx⟩ | ⟨rfl, hx⟩
    · exact ⟨a.eval x, by simp [execOp, e, asBool], ev_rel hR hx⟩
    · exact ⟨a.eval y, by simp [execOp, e, asBool], ev_rel hR hx⟩) h

theorem AOps.pickT {c x y : Operand} {b : Bool} {v : T} (hc : ev env c = some (.c (bool b))) (hb : b = true) (hx : ev env x = some v) (hd : dstOk sz dst = true)
    (h : AOps P σ0 sz ops Q rest (St.mk (putE env dst v) σv)) : AOps P σ0 sz ops Q (⟨dst, .pick c x y, ty, pos, after, none⟩ :: rest) (St.mk env σv) := .pick hc (.inl ⟨hb, hx⟩) hd h
theorem AOps.pickF {c x y : Operand} {b : Bool} {v : T} (hc : ev env c = some (.c (bool b))) (hb : b = false) (hx : ev env y = some v) (hd : dstOk sz dst = true)
    (h : AOps P σ0 sz ops Q rest (St.mk (putE env dst v) σv)) : AOps P σ0 sz ops Q (⟨dst, .pick c x y, ty, pos, after, none⟩ :: rest) (St.mk env σv) := .pick hc (.inr ⟨hb, hx⟩) hd h

/-- Two values that are no memory. -/
theorem AOps.bin {op : BinOp} {t t' : TypeId} {x y : Operand} {u v r : Value} (hx : ev env x = some (.c (.imm (.val u)))) (hy : ev env y = some (.c (.imm (.val v)))) (hd : dstOk sz dst = true) (h1 : r.oneCell' = true)
    (hg : ∀ w, (eqGuard op t x y u v).run P w = .ok () w) (hr : ∀ w, (binOp op t u v).run P w = .ok r w)
    (h : AOps P σ0 sz ops Q rest (St.mk (putE env dst (.c (.imm (.val r)))) σv)) : AOps P σ0 sz ops Q (⟨dst, .binOp op t x y t', ty, pos, after, none⟩ :: rest) (St.mk env σv) :=
  .value rfl hd _ (fun _ _ a w hR => ⟨r, by simp [execOp, ev_val hR hx, ev_val hR hy, hg, hr], .c (.imm (.val h1))⟩) h

section ints
variable {t t' : TypeId} {x y : Operand} {k : IntKind} {a b : Int} (hx : ev env x = some (.c (.imm (.val (.int k a))))) (hy : ev env y = some (.c (.imm (.val (.int k b))))) (hd : dstOk sz dst = true)
include hx hy hd
theorem AOps.lss (h : AOps P σ0 sz ops Q rest (St.mk (putE env dst (.c (bool (decide (a < b))))) σv)) : AOps P σ0 sz ops Q (⟨dst, .binOp .lss t x y t', ty, pos, after, none⟩ :: rest) (St.mk env σv) := .bin hx hy hd rfl (fun w => by simp [go_sem]) (fun w => by simp [go_sem]) h
theorem AOps.leq (h : AOps P σ0 sz ops Q rest (St.mk (putE env dst (.c (bool (decide (a ≤ b))))) σv)) : AOps P σ0 sz ops Q (⟨dst, .binOp .leq t x y t', ty, pos, after, none⟩ :: rest) (St.mk env σv) := .bin hx hy hd rfl (fun w => by simp [go_sem]) (fun w => by simp [go_sem]) h
theorem AOps.gtr (h : AOps P σ0 sz ops Q rest (St.mk (putE env dst (.c (bool (decide (b < a))))) σv)) : AOps P σ0 sz ops Q (⟨dst, .binOp .gtr t x y t', ty, pos, after, none⟩ :: rest) (St.mk env σv) := .bin hx hy hd rfl (fun w => by simp [go_sem]) (fun w => by simp [go_sem]) h
theorem AOps.geq (h : AOps P σ0 sz ops Q rest (St.mk (putE env dst (.c (bool (decide (b ≤ a))))) σv)) : AOps P σ0 sz ops Q (⟨dst, .binOp .geq t x y t', ty, pos, after, none⟩ :: rest) (St.mk env σv) := .bin hx hy hd rfl (fun w => by simp [go_sem]) (fun w => by simp [go_sem]) h
theorem AOps.eql (h : AOps P σ0 sz ops Q rest (St.mk (putE env dst (.c (bool (decide (a = b))))) σv)) : AOps P σ0 sz ops Q (⟨dst, .binOp .eql t x y t', ty, pos, after, none⟩ :: rest) (St.mk env σv) := .bin hx hy hd rfl (fun w => by simp [go_sem]) (fun w => by simp [go_sem]; rfl) h
theorem AOps.neq (h : AOps P σ0 sz ops Q rest (St.mk (putE env dst (.c (bool (!decide (a = b))))) σv)) : AOps P σ0 sz ops Q (⟨dst, .binOp .neq t x y t', ty, pos, after, none⟩ :: rest) (St.mk env σv) := .bin hx hy hd rfl (fun w => by simp [go_sem]) (fun w => by simp [go_sem]; rfl) h
theorem AOps.addW (h : AOps P σ0 sz ops Q rest (St.mk (putE env dst (.c (.imm (.val (.int k (k.wrap (a + b))))))) σv)) : AOps P σ0 sz ops Q (⟨dst, .binOp .add t x y t', ty, pos, after, none⟩ :: rest) (St.mk env σv) := .bin hx hy hd rfl (fun w => by simp [go_sem]) (fun w => by simp [binOp_add, Op.intArith]) h
theorem AOps.subW (h : AOps P σ0 sz ops Q rest (St.mk (putE env dst (.c (.imm (.val (.int k (k.wrap (a - b))))))) σv)) : AOps P σ0 sz ops Q (⟨dst, .binOp .sub t x y t', ty, pos, after, none⟩ :: rest) (St.mk env σv) := .bin hx hy hd rfl (fun w => by simp [go_sem]) (fun w => by simp [binOp_sub, Op.intArith]) h
theorem AOps.mulW (h : AOps P σ0 sz ops Q rest (St.mk (putE env dst (.c (.imm (.val (.int k (k.wrap (a * b))))))) σv)) : AOps P σ0 sz ops Q (⟨dst, .binOp .mul t x y t', ty, pos, after, none⟩ :: rest) (St.mk env σv) := .bin hx hy hd rfl (fun w => by simp [go_sem]) (fun w => by simp [binOp_mul, Op.intArith]) h
theorem AOps.quoW (hb : b ≠ 0) (h : AOps P σ0 sz ops Q rest (St.mk (putE env dst (.c (.imm (.val (.int k (k.wrap (a.tdiv b))))))) σv)) : AOps P σ0 sz ops Q (⟨dst, .binOp .quo t x y t', ty, pos, after, none⟩ :: rest) (St.mk env σv) := .bin hx hy hd rfl (fun w => by simp [go_sem]) (fun w => by simp [binOp_quo, Op.intDiv, hb]) h
theorem AOps.remW (hb : b ≠ 0) (h : AOps P σ0 sz ops Q rest (St.mk (putE env dst (.c (.imm (.val (.int k (a.tmod b)))))) σv)) : AOps P σ0 sz ops Q (⟨dst, .binOp .rem t x y t', ty, pos, after, none⟩ :: rest) (St.mk env σv) := .bin hx hy hd rfl (fun w => by simp [go_sem]) (fun w => by simp [binOp_rem, Op.intDiv, hb]) h
theorem AOps.bits {op : BinOp} (ho : op = .and ∨ op = .or ∨ op = .xor ∨ op = .andNot) (h : AOps P σ0 sz ops Q rest (St.mk (putE env dst (.c (.imm (.val (.int k (Go.bits op k a b)))))) σv)) : AOps P σ0 sz ops Q (⟨dst, .binOp op t x y t', ty, pos, after, none⟩ :: rest) (St.mk env σv) := by
  rcases ho with rfl | rfl | rfl | rfl <;> exact .bin hx hy hd rfl (fun w => by simp [go_sem]) (fun w => by simp [go_sem]) h
end ints

theorem wrap_i64 {n : Int} (h : -9223372036854775808 ≤ n ∧ n ≤ 9223372036854775807) : IntKind.i64.wrap n = n := by rw [IntKind.wrap_i64]; omega

section ints64
variable {t t' : TypeId} {x y : Operand} {a b : Int} (hx : ev env x = some (.c (int a))) (hy : ev env y = some (.c (int b))) (hd : dstOk sz dst = true)
include hx hy hd
theorem AOps.add (hb : -9223372036854775808 ≤ a + b ∧ a + b ≤ 9223372036854775807) (h : AOps P σ0 sz ops Q rest (St.mk (putE env dst (.c (int (a + b)))) σv)) : AOps P σ0 sz ops Q (⟨dst, .binOp .add t x y t', ty, pos, after, none⟩ :: rest) (St.mk env σv) := .addW hx hy hd (by rw [wrap_i64 hb]; exact h)
theorem AOps.sub' (hb : -9223372036854775808 ≤ a - b ∧ a - b ≤ 9223372036854775807) (h : AOps P σ0 sz ops Q rest (St.mk (putE env dst (.c (int (a - b)))) σv)) : AOps P σ0 sz ops Q (⟨dst, .binOp .sub t x y t', ty, pos, after, none⟩ :: rest) (St.mk env σv) := .subW hx hy hd (by rw [wrap_i64 hb]; exact h)
theorem AOps.mul (hb : -9223372036854775808 ≤ a * b ∧ a * b ≤ 9223372036854775807) (h : AOps P σ0 sz ops Q rest (St.mk (putE env dst (.c (int (a * b)))) σv)) : AOps P σ0 sz ops Q (⟨dst, .binOp .mul t x y t', ty, pos, after, none⟩ :: rest) (St.mk env σv) := .mulW hx hy hd (by rw [wrap_i64 hb]; exact h)
end ints64

theorem AOps.not {x : Operand} {b : Bool} {t : TypeId} (hx : ev env x = some (.c (bool b))) (hd : dstOk sz dst = true) (h : AOps P σ0 sz ops Q rest (St.mk (putE env dst (.c (bool (!b)))) σv)) : AOps P σ0 sz ops Q (⟨dst, .unOp .not t x, ty, pos, after, none⟩ :: rest) (St.mk env σv) :=
  .value rfl hd _ (fun _ _ a w hR => ⟨.bool (!b), by simp [execOp, ev_val hR hx, Op.unary], .c (.imm (.val rfl))⟩) h
theorem AOps.neg {x : Operand} {k : IntKind} {n : Int} {t : TypeId} (hx : ev env x = some (.c (.imm (.val (.int k n))))) (hd : dstOk sz dst = true) (h : AOps P σ0 sz ops Q rest (St.mk (putE env dst (.c (.imm (.val (.int k (k.wrap (0 - n))))))) σv)) : AOps P σ0 sz ops Q (⟨dst, .unOp .neg t x, ty, pos, after, none⟩ :: rest) (St.mk env σv) :=
  .value rfl hd _ (fun _ _ a w hR => ⟨.int k (k.wrap (0 - n)), by simp [execOp, ev_val hR hx, Op.unary, Op.intArith], .c (.imm (.val rfl))⟩) h

theorem sl_inv {w : World} {φ : Phi} {σ : Store} {A : Nat → Prop} {k : Nat} {es : List (List I)} {u : Value} (h : RelT w φ σ A (.c (.imm (.sl k es))) u) : ∃ b cap, u = .slice b es.length cap := by
  cases h with | c h => cases h with | imm h => cases h <;> exact ⟨_, _, rfl⟩
theorem own_inv {w : World} {φ : Phi} {σ : Store} {A : Nat → Prop} {id : Id} {j n k : Nat} {es : List (List C)} {u : Value} (h : RelT w φ σ A (.c (.own id j n)) u) (hσ : σ[id]? = some (some (.cells k es))) : OwnView w (φ id) k es.length j n u := by
  cases h with | c h => cases h with | own _ _ h => exact h k es hσ
theorem OwnView.len {w : World} {p : Option (Nat × Nat)} {k l j n : Nat} {u : Value} (h : OwnView w p k l j n u) : ∃ b cap, u = .slice b n cap := by
  rcases h with ⟨_, h2, _, h3⟩ | ⟨b, base, cap, arr, ety, ad, _, h2, _⟩
  · exact ⟨none, 0, by rw [h2, h3]⟩
  · exact ⟨_, cap, h2⟩

/-! ### Length -/
theorem AOps.len {x : Operand} {t e : TypeId} {k : Nat} {es : List (List I)} [ht : TyD P t (.slice e)] (hx : ev env x = some (.c (.imm (.sl k es)))) (hd : dstOk sz dst = true)
    (h : AOps P σ0 sz ops Q rest (St.mk (putE env dst (.c (int es.length))) σv)) : AOps P σ0 sz ops Q (⟨dst, .call ⟨.builtin .len, #[x], #[t]⟩, ty, pos, after, none⟩ :: rest) (St.mk env σv) :=
  .value rfl hd _ (fun _ _ a w hR => ⟨.int .i64 es.length, by
    obtain ⟨b, cap, e⟩ := sl_inv (ev_rel hR hx)
    simp [execOp, resolve, invoke, builtin, e, Builtin.len_, run_underlying ht.h, goInt], .int _⟩) h
theorem AOps.lenOwn {x : Operand} {t e : TypeId} {id : Id} {j n k : Nat} {es : List (List C)} [ht : TyD P t (.slice e)] (hx : ev env x = some (.c (.own id j n))) (hσ : σv[id]? = some (some (.cells k es))) (hd : dstOk sz dst = true)
    (h : AOps P σ0 sz ops Q rest (St.mk (putE env dst (.c (int n))) σv)) : AOps P σ0 sz ops Q (⟨dst, .call ⟨.builtin .len, #[x], #[t]⟩, ty, pos, after, none⟩ :: rest) (St.mk env σv) :=
  .value rfl hd _ (fun _ _ a w hR => ⟨.int .i64 n, by
    obtain ⟨b, cap, e⟩ := (own_inv (ev_rel hR hx) hσ).len
    simp [execOp, resolve, invoke, builtin, e, Builtin.len_, run_underlying ht.h, goInt], .int _⟩) h
theorem AOps.lenNil {x : Operand} {t e : TypeId} {b : Option Addr} {n c : Nat} [ht : TyD P t (.slice e)] (hx : ev env x = some (.c (.imm (.val (.slice b n c))))) (hd : dstOk sz dst = true)
    (h : AOps P σ0 sz ops Q rest (St.mk (putE env dst (.c (int n))) σv)) : AOps P σ0 sz ops Q (⟨dst, .call ⟨.builtin .len, #[x], #[t]⟩, ty, pos, after, none⟩ :: rest) (St.mk env σv) :=
  .value rfl hd _ (fun _ _ a w hR => ⟨.int .i64 n, by simp [execOp, ev_val hR hx, resolve, invoke, builtin, Builtin.len_, run_underlying ht.h, goInt], .int _⟩) h
theorem AOps.lenStr {x : Operand} {t : TypeId} {b : ByteArray} [ht : TyD P t .string] (hx : ev env x = some (.c (.imm (.val (.string b))))) (hd : dstOk sz dst = true)
    (h : AOps P σ0 sz ops Q rest (St.mk (putE env dst (.c (int b.size))) σv)) : AOps P σ0 sz ops Q (⟨dst, .call ⟨.builtin .len, #[x], #[t]⟩, ty, pos, after, none⟩ :: rest) (St.mk env σv) :=
  .value rfl hd _ (fun _ _ a w hR => ⟨.int .i64 b.size, by simp [execOp, ev_val hR hx, resolve, invoke, builtin, Builtin.len_, run_underlying ht.h, goInt], .int _⟩) h

/-! ### min, max -/
theorem AOps.min2 {x y : Operand} {ts : Array TypeId} {k : IntKind} {m n : Int} (hx : ev env x = some (.c (.imm (.val (.int k m))))) (hy : ev env y = some (.c (.imm (.val (.int k n))))) (hd : dstOk sz dst = true)
    (h : AOps P σ0 sz ops Q rest (St.mk (putE env dst (.c (.imm (.val (.int k (min m n)))))) σv)) : AOps P σ0 sz ops Q (⟨dst, .call ⟨.builtin .min, #[x, y], ts⟩, ty, pos, after, none⟩ :: rest) (St.mk env σv) :=
  .value rfl hd _ (fun _ _ a w hR => ⟨.int k (min m n), by
    simp [execOp, ev_val hR hx, ev_val hR hy, resolve, invoke, builtin, Builtin.min_, Builtin.min2]
    split <;> omega, .c (.imm (.val rfl))⟩) h
theorem AOps.max2 {x y : Operand} {ts : Array TypeId} {k : IntKind} {m n : Int} (hx : ev env x = some (.c (.imm (.val (.int k m))))) (hy : ev env y = some (.c (.imm (.val (.int k n))))) (hd : dstOk sz dst = true)
    (h : AOps P σ0 sz ops Q rest (St.mk (putE env dst (.c (.imm (.val (.int k (max m n)))))) σv)) : AOps P σ0 sz ops Q (⟨dst, .call ⟨.builtin .max, #[x, y], ts⟩, ty, pos, after, none⟩ :: rest) (St.mk env σv) :=
  .value rfl hd _ (fun _ _ a w hR => ⟨.int k (max m n), by
    simp [execOp, ev_val hR hx, ev_val hR hy, resolve, invoke, builtin, Builtin.max_, Builtin.max2]
    split <;> omega, .c (.imm (.val rfl))⟩) h

theorem AOps.extract {x : Operand} {ts : List T} {i : Nat} {v : T} (hx : ev env x = some (.tup ts)) (hi : ts[i]? = some v) (hd : dstOk sz dst = true)
    (h : AOps P σ0 sz ops Q rest (St.mk (putE env dst v) σv)) : AOps P σ0 sz ops Q (⟨dst, .extract x i, ty, pos, after, none⟩ :: rest) (St.mk env σv) :=
  .value rfl hd _ (fun _ _ a w hR => by
    obtain ⟨vs, h1, h2, h3⟩ := RelT.tup_inv (ev_rel hR hx)
    obtain ⟨u, hu, hr⟩ := h3 i v hi
    exact ⟨u, by simp [execOp, h1, Instr.extract, hu], hr⟩) h
end
end
end Ab
