/-
  FORMS OF THE RULES THAT A WALK TAKES: tests and guards over propositions; lengths with their bound.
-/
import Derived.Test.YtfjbddjoagefkaaAb15
namespace Ab
open Go

section
variable {P : Program} {σ0 : Store} {sz : Nat} {Q : Post} {env : Env} {σv : Store} {ops : Array Oper} {rest : List Oper} {dst : Option Nat} {ty : TypeId} {pos : String} {after : Array Edge}

theorem AWP.condT {x : Operand} {c d : Code} (hx : ev env x = some (.c (bool true))) (h : AWP P σ0 sz c Q (St.mk env σv)) : AWP P σ0 sz (.cond x c d) Q (St.mk env σv) := .cond hx (fun _ => h) (fun h => by cases h)
theorem AWP.condF {x : Operand} {c d : Code} (hx : ev env x = some (.c (bool false))) (h : AWP P σ0 sz d Q (St.mk env σv)) : AWP P σ0 sz (.cond x c d) Q (St.mk env σv) := .cond hx (fun h => by cases h) (fun _ => h)
theorem AWP.condD {x : Operand} {c d : Code} {p : Prop} [Decidable p] (hx : ev env x = some (.c (bool (decide p)))) (ht : p → AWP P σ0 sz c Q (St.mk env σv)) (hf : ¬ p → AWP P σ0 sz d Q (St.mk env σv)) : AWP P σ0 sz (.cond x c d) Q (St.mk env σv) :=
  .cond hx (fun h => ht (of_decide_eq_true h)) (fun h => hf (of_decide_eq_false h))
theorem AWP.condN {x : Operand} {c d : Code} {p : Prop} [Decidable p] (hx : ev env x = some (.c (bool (!decide p)))) (ht : ¬ p → AWP P σ0 sz c Q (St.mk env σv)) (hf : p → AWP P σ0 sz d Q (St.mk env σv)) : AWP P σ0 sz (.cond x c d) Q (St.mk env σv) :=
  .cond hx (fun h => ht (of_decide_eq_false (by simpa using h))) (fun h => hf (of_decide_eq_true (by simpa using h)))
theorem AWP.condB {x : Operand} {c d : Code} {b : Bool} (hx : ev env x = some (.c (bool (!b)))) (ht : b = false → AWP P σ0 sz c Q (St.mk env σv)) (hf : b = true → AWP P σ0 sz d Q (St.mk env σv)) : AWP P σ0 sz (.cond x c d) Q (St.mk env σv) :=
  .cond hx (fun h => ht (by simpa using h)) (fun h => hf (by simpa using h))
/-- Two numbers the same twice. -/
theorem AWP.condE {x : Operand} {c d : Code} {p q : Prop} [Decidable p] [Decidable q] (hx : ev env x = some (.c (bool (!(decide p && decide q))))) (ht : ¬ (p ∧ q) → AWP P σ0 sz c Q (St.mk env σv)) (hf : p → q → AWP P σ0 sz d Q (St.mk env σv)) : AWP P σ0 sz (.cond x c d) Q (St.mk env σv) :=
  .cond hx (fun h => ht (fun ⟨hp, hq⟩ => by simp [hp, hq] at h)) (fun h => by
    have : p ∧ q := by simpa using h
    exact hf this.1 this.2)

theorem AOps.guardT {op : Op} {j t : Nat} {b bv : Bool} (hj : (ops[j]?).bind (·.dst) = some t) (ht : lookup t env = some (.c (bool bv))) (hd : dstOk sz dst = true) (hb : bv = b) (h : AOps P σ0 sz ops Q (⟨dst, op, ty, pos, after, none⟩ :: rest) (St.mk env σv)) :
    AOps P σ0 sz ops Q (⟨dst, op, ty, pos, after, some (j, b)⟩ :: rest) (St.mk env σv) := .guard hj ht hd (fun _ => h) (fun h' => by subst hb; cases bv <;> cases h')
theorem AOps.guardF {op : Op} {j t : Nat} {b bv : Bool} (hj : (ops[j]?).bind (·.dst) = some t) (ht : lookup t env = some (.c (bool bv))) (hd : dstOk sz dst = true) (hb : bv = !b) (h : AOps P σ0 sz ops Q rest (St.mk (putE env dst .undef) σv)) :
    AOps P σ0 sz ops Q (⟨dst, op, ty, pos, after, some (j, b)⟩ :: rest) (St.mk env σv) := .guard hj ht hd (fun h' => by subst h'; cases bv <;> cases hb) (fun _ => h)
theorem AOps.guardDT {op : Op} {j t : Nat} {p : Prop} [Decidable p] (hj : (ops[j]?).bind (·.dst) = some t) (ht : lookup t env = some (.c (bool (decide p)))) (hd : dstOk sz dst = true)
    (h1 : p → decide p = true → AOps P σ0 sz ops Q (⟨dst, op, ty, pos, after, none⟩ :: rest) (St.mk env σv)) (h2 : ¬ p → decide p = false → AOps P σ0 sz ops Q rest (St.mk (putE env dst .undef) σv)) :
    AOps P σ0 sz ops Q (⟨dst, op, ty, pos, after, some (j, true)⟩ :: rest) (St.mk env σv) := .guard hj ht hd (fun h => h1 (of_decide_eq_true h) h) (fun h => h2 (of_decide_eq_false h) h)
theorem AOps.guardDF {op : Op} {j t : Nat} {p : Prop} [Decidable p] (hj : (ops[j]?).bind (·.dst) = some t) (ht : lookup t env = some (.c (bool (decide p)))) (hd : dstOk sz dst = true)
    (h1 : ¬ p → decide p = false → AOps P σ0 sz ops Q (⟨dst, op, ty, pos, after, none⟩ :: rest) (St.mk env σv)) (h2 : p → decide p = true → AOps P σ0 sz ops Q rest (St.mk (putE env dst .undef) σv)) :
    AOps P σ0 sz ops Q (⟨dst, op, ty, pos, after, some (j, false)⟩ :: rest) (St.mk env σv) := .guard hj ht hd (fun h => h1 (of_decide_eq_false h) h) (fun h => h2 (of_decide_eq_true h) h)
theorem AOps.guardNT {op : Op} {j t : Nat} {p : Prop} [Decidable p] (hj : (ops[j]?).bind (·.dst) = some t) (ht : lookup t env = some (.c (bool (!decide p)))) (hd : dstOk sz dst = true)
    (h1 : ¬ p → (!decide p) = true → AOps P σ0 sz ops Q (⟨dst, op, ty, pos, after, none⟩ :: rest) (St.mk env σv)) (h2 : p → (!decide p) = false → AOps P σ0 sz ops Q rest (St.mk (putE env dst .undef) σv)) :
    AOps P σ0 sz ops Q (⟨dst, op, ty, pos, after, some (j, true)⟩ :: rest) (St.mk env σv) := .guard hj ht hd (fun h => h1 (of_decide_eq_false (by simpa using h)) h) (fun h => h2 (of_decide_eq_true (by simpa using h)) h)
theorem AOps.guardNF {op : Op} {j t : Nat} {p : Prop} [Decidable p] (hj : (ops[j]?).bind (·.dst) = some t) (ht : lookup t env = some (.c (bool (!decide p)))) (hd : dstOk sz dst = true)
    (h1 : p → (!decide p) = false → AOps P σ0 sz ops Q (⟨dst, op, ty, pos, after, none⟩ :: rest) (St.mk env σv)) (h2 : ¬ p → (!decide p) = true → AOps P σ0 sz ops Q rest (St.mk (putE env dst .undef) σv)) :
    AOps P σ0 sz ops Q (⟨dst, op, ty, pos, after, some (j, false)⟩ :: rest) (St.mk env σv) := .guard hj ht hd (fun h => h1 (of_decide_eq_true (by simpa using h)) h) (fun h => h2 (of_decide_eq_false (by simpa using h)) h)

/-- The length of a list of data, with its bound. -/
theorem AOps.lenB {α : Type} {f : α → List I} {l : List α} {x : Operand} {t e : TypeId} {k : Nat} [ht : TyD P t (.slice e)]
    (hx : ev env x = some (.c (.imm (.sl k (l.map f))))) (hd : dstOk sz dst = true) (h : l.length ≤ 9223372036854775807 → AOps P σ0 sz ops Q rest (St.mk (putE env dst (.c (int l.length))) σv)) : AOps P σ0 sz ops Q (⟨dst, .call ⟨.builtin .len, #[x], #[t]⟩, ty, pos, after, none⟩ :: rest) (St.mk env σv) := fun Γ φ a w hΓ hR => by
  have hb : l.length ≤ 9223372036854775807 := by
    have hr := ev_rel hR hx
    generalize a.eval x = u at hr
    cases hr with | c hr => cases hr with | imm hr =>
      generalize hes : l.map f = es at hr
      have : l.length = es.length := by rw [← hes]; simp
      cases hr with
      | slNil => rw [this]; exact Nat.zero_le _
      | sl us hcap hmax hk hc hr => simp only [maxLen] at hmax; omega
  exact AOps.lenL hx hd (h hb) Γ φ a w hΓ hR

/-- The same of a view of an owned block. -/
theorem AOps.lenOwnB {x : Operand} {t e : TypeId} {id : Id} {j n k : Nat} {es : List (List C)} [ht : TyD P t (.slice e)] (hx : ev env x = some (.c (.own id j n))) (hσ : σv[id]? = some (some (.cells k es))) (hd : dstOk sz dst = true)
    (h : n ≤ 9223372036854775807 → AOps P σ0 sz ops Q rest (St.mk (putE env dst (.c (int n))) σv)) : AOps P σ0 sz ops Q (⟨dst, .call ⟨.builtin .len, #[x], #[t]⟩, ty, pos, after, none⟩ :: rest) (St.mk env σv) := fun Γ φ a w hΓ hR => by
  have hb : n ≤ 9223372036854775807 := by
    rcases own_inv (ev_rel hR hx) hσ with ⟨_, _, _, h0⟩ | ⟨b, base, cap, arr, ety, ad, hp, hv, had, hcap, hmax, _, _, _⟩
    · omega
    · simp only [maxLen] at hmax; omega
  exact AOps.lenOwn hx hσ hd (h hb) Γ φ a w hΓ hR

theorem AOps.idxOwn {x y : Operand} {t e : TypeId} {k bytes : Nat} {z : Value} {i : Nat} {id : Id} {j n : Nat} {es : List (List C)} [ht : TyD P t (.slice e)] [hs : TyS P e k bytes z]
    (hx : ev env x = some (.c (.own id j n))) (hσ : σv[id]? = some (some (.cells k es))) (hy : ev env y = some (.c (int (i : Int)))) (hi : i < n) (hd : dstOk sz dst = true)
    (h : AOps P σ0 sz ops Q rest (St.mk (putE env dst (.c (.ptr id (j + i) 0))) σv)) : AOps P σ0 sz ops Q (⟨dst, .indexAddr t x y, ty, pos, after, none⟩ :: rest) (St.mk env σv) :=
  .indexAddrOwn hx hσ hy (by omega) hd (by rw [Int.toNat_natCast]; exact h)

/-- Ways that part come together: behind this piece of code the state is one of a family. -/
theorem AWP.join {X : Type} {c d : Code} {Q2 : Post} (S : X → St) (I : X → Prop) (h1 : AWP P σ0 sz c (thn (fun s' => ∃ x, Sub σ0 s' (S x) ∧ I x) Q) (St.mk env σv)) (h2 : ∀ x, I x → AWP P σ0 sz d Q2 (S x)) :
    AWP P σ0 sz c (thn (fun s' => AWP P σ0 sz d Q2 s') Q) (St.mk env σv) :=
  h1.mono fun e s h => by
    cases e with
    | normal =>
      obtain ⟨x, hs, hi⟩ := h
      exact AWP.sub hs (h2 x hi)
    | _ => exact h

/-- A block of the function's own that is written no more becomes data. -/
theorem AWP.frz {c : Code} {env1 env2 : Env} {σ2 : Store} (id : Id) (k : Nat) (es : List (List I)) (h1 : SubEnv env env1) (hid : Nat.ble σ0.length id.1 = true) (hσ : σv[id]? = some (some (Blk.im k es))) (h2 : SubEnv (St.frz ⟨env1, σv⟩ id k es).env env2) (h3 : (St.frz ⟨env1, σv⟩ id k es).σ = σ2)
    (h : AWP P σ0 sz c Q (St.mk env2 σ2)) : AWP P σ0 sz c Q (St.mk env σv) :=
  AWP.sub (Sub.env h1) (AWP.sub (Sub.frz id k es (Nat.le_of_ble_eq_true hid) hσ) (AWP.sub (s' := ⟨env2, σ2⟩) (by subst h3; exact Sub.env h2) h))

theorem AOps.frz {env1 env2 : Env} {σ2 : Store} (id : Id) (k : Nat) (es : List (List I)) (h1 : SubEnv env env1) (hid : Nat.ble σ0.length id.1 = true) (hσ : σv[id]? = some (some (Blk.im k es))) (h2 : SubEnv (St.frz ⟨env1, σv⟩ id k es).env env2) (h3 : (St.frz ⟨env1, σv⟩ id k es).σ = σ2)
    (h : AOps P σ0 sz ops Q rest (St.mk env2 σ2)) : AOps P σ0 sz ops Q rest (St.mk env σv) :=
  AOps.sub (Sub.env h1) (AOps.sub (Sub.frz id k es (Nat.le_of_ble_eq_true hid) hσ) (AOps.sub (s' := ⟨env2, σ2⟩) (by subst h3; exact Sub.env h2) h))

/-- A call that reads the caller's own blocks, and leaves them as they are. -/
theorem AOps.callSR {x : Operand} {as : List Operand} {ats : Array TypeId} {f : FuncId} {caps : List C} {ts : List T} {r : T} (hx : ev env x = some (.c (.fn f caps))) (ha : evs env as = some ts) (hd : dstOk sz dst = true)
    (hf : FnOk P f (ts ++ caps.map T.c) σv fun r' σ' => r' = r ∧ σ' = σv) (h : AOps P σ0 sz ops Q rest (St.mk (putE env dst r) σv)) :
    AOps P σ0 sz ops Q (⟨dst, .call ⟨.value x, as.toArray, ats⟩, ty, pos, after, none⟩ :: rest) (St.mk env σv) :=
  .callS hx ha hd hf fun r' σ' hq => by
    obtain ⟨rfl, rfl⟩ := hq
    exact h
end
end Ab
