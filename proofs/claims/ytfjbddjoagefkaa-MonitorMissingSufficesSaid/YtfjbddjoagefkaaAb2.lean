/-
  THE RULES FOR CODE OVER ABSTRACT STATES: sequence, test, block, loop, a function's body; weakening.
-/
import Derived.Test.YtfjbddjoagefkaaAb1
import Derived.Deep.LoopGhost
namespace Ab
open Go

abbrev Post := Exit → St → Prop

def lift (Γ : Cx) (sz : Nat) (Q : Post) : Exit → Act → World → Prop := fun e a w => ∃ s φ, Q e s ∧ R Γ sz s φ a w

/-- The code's weakest precondition over abstract states; σ0: the store that was handed in. -/
def AWP (P : Program) (σ0 : Store) (sz : Nat) (c : Code) (Q : Post) (s : St) : Prop :=
  ∀ Γ φ a w, Γ.σ0 = σ0 → R Γ sz s φ a w → c.wp P (lift Γ sz Q) a w

def AOps (P : Program) (σ0 : Store) (sz : Nat) (ops : Array Oper) (Q : Post) (rest : List Oper) (s : St) : Prop :=
  ∀ Γ φ a w, Γ.σ0 = σ0 → R Γ sz s φ a w → wpList P ops (lift Γ sz Q) rest a w

def thn (K : St → Prop) (Q : Post) : Post
  | .normal, s => K s
  | e, s => Q e s

def inB (id : Nat) (Q : Post) : Post
  | .exit i, s => if i = id then Q .normal s else Q (.exit i) s
  | e, s => Q e s

/-- s says all that s' says. -/
def Sub (σ0 : Store) (s s' : St) : Prop := ∀ Γ sz φ a w, Γ.σ0 = σ0 → R Γ sz s φ a w → ∃ φ', R Γ sz s' φ' a w

theorem Sub.refl (σ0 : Store) (s : St) : Sub σ0 s s := fun _ _ φ _ _ _ h => ⟨φ, h⟩
theorem Sub.trans {σ0 : Store} {s s' s'' : St} (h : Sub σ0 s s') (k : Sub σ0 s' s'') : Sub σ0 s s'' := fun Γ sz φ a w hΓ hR =>
  let ⟨φ', h'⟩ := h Γ sz φ a w hΓ hR
  k Γ sz φ' a w hΓ h'

section
variable {P : Program} {σ0 : Store} {sz : Nat} {Q : Post} {s : St}

theorem AWP.sub {c : Code} {s' : St} (hs : Sub σ0 s s') (h : AWP P σ0 sz c Q s') : AWP P σ0 sz c Q s := fun Γ φ a w hΓ hR =>
  let ⟨φ', h'⟩ := hs Γ sz φ a w hΓ hR
  h Γ φ' a w hΓ h'

theorem AOps.sub {ops : Array Oper} {rest : List Oper} {s' : St} (hs : Sub σ0 s s') (h : AOps P σ0 sz ops Q rest s') : AOps P σ0 sz ops Q rest s := fun Γ φ a w hΓ hR =>
  let ⟨φ', h'⟩ := hs Γ sz φ a w hΓ hR
  h Γ φ' a w hΓ h'

theorem AWP.mono {c : Code} {Q' : Post} (hq : ∀ e s, Q e s → Q' e s) (h : AWP P σ0 sz c Q s) : AWP P σ0 sz c Q' s := fun Γ φ a w hΓ hR =>
  wp_mono (h Γ φ a w hΓ hR) fun _ _ _ ⟨s, φ, hQ, hR⟩ => ⟨s, φ, hq _ _ hQ, hR⟩

theorem AWP.seq {c d : Code} (h : AWP P σ0 sz c (thn (fun s' => AWP P σ0 sz d Q s') Q) s) : AWP P σ0 sz (.seq c d) Q s := fun Γ φ a w hΓ hR =>
  wp_seq (wp_mono (h Γ φ a w hΓ hR) fun e a' w' ⟨s', φ', hQ, hR'⟩ => by
    cases e with
    | normal => exact hQ Γ φ' a' w' hΓ hR'
    | _ => exact ⟨s', φ', hQ, hR'⟩)

theorem AWP.skip (h : Q .normal s) : AWP P σ0 sz .skip Q s := fun _ φ _ _ _ hR => wp_skip ⟨s, φ, h, hR⟩
theorem AWP.label {l : Nat} (h : Q .normal s) : AWP P σ0 sz (.label l) Q s := fun _ φ _ _ _ hR => wp_label ⟨s, φ, h, hR⟩
theorem AWP.exit {id : Nat} (h : Q (.exit id) s) : AWP P σ0 sz (.exit id) Q s := fun _ φ _ _ _ hR => wp_exit ⟨s, φ, h, hR⟩
theorem AWP.ret (h : Q .ret s) : AWP P σ0 sz .ret Q s := fun _ φ _ _ _ hR => wp_ret ⟨s, φ, h, hR⟩

theorem AWP.block {id : Nat} {c : Code} (h : AWP P σ0 sz c (inB id Q) s) : AWP P σ0 sz (.block id c) Q s := fun Γ φ a w hΓ hR =>
  wp_block (wp_mono (h Γ φ a w hΓ hR) fun e a' w' ⟨s', φ', hQ, hR'⟩ => by
    cases e with
    | exit i =>
      simp only [Exit.inBlock]
      simp only [inB] at hQ
      split at hQ
      · rename_i he; rw [if_pos he]; exact ⟨s', φ', hQ, hR'⟩
      · rename_i he; rw [if_neg he]; exact ⟨s', φ', hQ, hR'⟩
    | _ => exact ⟨s', φ', hQ, hR'⟩)

/-- A loop: a family of states, an invariant on its index, a measure. -/
theorem AWP.loop {X : Type} {c : Code} (S : X → St) (Iv : X → Prop) (μ : X → Nat) (x0 : X) (h0 : Sub σ0 s (S x0)) (i0 : Iv x0)
    (round : ∀ x, Iv x → AWP P σ0 sz c (thn (fun s' => ∃ x', Sub σ0 s' (S x') ∧ Iv x' ∧ μ x' < μ x) Q) (S x)) : AWP P σ0 sz (.loop c) Q s := fun Γ φ a w hΓ hR => by
  obtain ⟨φ0, hR0⟩ := h0 Γ sz φ a w hΓ hR
  refine wp_loop_ghost (fun n a w => ∃ x φ, μ x = n ∧ Iv x ∧ R Γ sz (S x) φ a w) (μ x0) ⟨x0, φ0, rfl, i0, hR0⟩ ?_
  rintro n a w ⟨x, φ, rfl, hi, hR⟩
  refine wp_mono (round x hi Γ φ a w hΓ hR) ?_
  rintro e a' w' ⟨s', φ', hQ, hR'⟩
  cases e with
  | normal =>
    obtain ⟨x', hs, hi', hlt⟩ := hQ
    obtain ⟨φ'', hR''⟩ := hs Γ sz φ' a' w' hΓ hR'
    exact ⟨μ x', hlt, x', φ'', rfl, hi', hR''⟩
  | _ => exact ⟨s', φ', hQ, hR'⟩
end

/-! ## Operands -/

def cellC (v : Value) : C := .imm (.val v)
abbrev int (n : Int) : C := .imm (.val (.int .i64 n))
abbrev bool (b : Bool) : C := .imm (.val (.bool b))

def constT : Value → Option T
  | .agg cs => if cs.toList.all (·.oneCell') then some (.agg (cs.toList.map fun v => .imm (.val v))) else none
  | .tuple _ => none
  | v => some (.c (.imm (.val v)))

def ev (env : Env) : Operand → Option T
  | .tmp t => lookup t env
  | .const v => constT v
  | .global g => some (.c (.imm (.val (.pointer (some ⟨g, 0, none⟩)))))
  | .func f => some (.c (.fn f []))

section
variable {w : World} {φ : Phi} {σ : Store} {A : Nat → Prop}

theorem RelC.val {v : Value} (h : v.oneCell' = true) : RelC w φ σ A (.imm (.val v)) v := .imm (.val h)
theorem RelT.int (n : Int) : RelT w φ σ A (.c (int n)) (.int .i64 n) := .c (.imm (.val rfl))
theorem RelT.bool (b : Bool) : RelT w φ σ A (.c (bool b)) (.bool b) := .c (.imm (.val rfl))

theorem RelT.agg' {cs : List C} {vs : List Value} (hl : cs.length = vs.length) (h : ∀ (i : Nat) (c : C) (v : Value), cs[i]? = some c → vs[i]? = some v → RelC w φ σ A c v) : RelT w φ σ A (.agg cs) (.agg vs.toArray) := by
  have e : vs = (List.range cs.length).map fun i => vs.getD i Go.undef := by
    apply List.ext_getElem?
    intro i
    by_cases hi : i < vs.length
    · simp [hi, hl]
    · simp [hl, hi]
  rw [e]
  refine .agg _ fun i c hc => ?_
  have hi : i < vs.length := by rw [← hl]; exact (List.getElem?_eq_some_iff.1 hc).1
  exact h i c _ hc (by simp [hi])

theorem RelT.agg_inv {cs : List C} {v : Value} (h : RelT w φ σ A (.agg cs) v) : ∃ vs : List Value, v = .agg vs.toArray ∧ vs.length = cs.length ∧ ∀ (i : Nat) (c : C), cs[i]? = some c → ∃ u, vs[i]? = some u ∧ RelC w φ σ A c u := by
  cases h with
  | agg us hr => exact ⟨_, rfl, by simp, fun i c hc => ⟨us i, by simp [(List.getElem?_eq_some_iff.1 hc).1], hr i c hc⟩⟩

theorem RelT.tup' {ts : List T} {vs : List Value} (hl : ts.length = vs.length) (h : ∀ (i : Nat) (c : T) (v : Value), ts[i]? = some c → vs[i]? = some v → RelT w φ σ A c v) : RelT w φ σ A (.tup ts) (.tuple vs.toArray) := by
  have e : vs = (List.range ts.length).map fun i => vs.getD i Go.undef := by
    apply List.ext_getElem?
    intro i
    by_cases hi : i < vs.length
    · simp [hi, hl]
    · simp [hl, hi]
  rw [e]
  refine .tup _ fun i c hc => ?_
  have hi : i < vs.length := by rw [← hl]; exact (List.getElem?_eq_some_iff.1 hc).1
  exact h i c _ hc (by simp [hi])

theorem RelT.tup_inv {ts : List T} {v : Value} (h : RelT w φ σ A (.tup ts) v) : ∃ vs : List Value, v = .tuple vs.toArray ∧ vs.length = ts.length ∧ ∀ (i : Nat) (c : T), ts[i]? = some c → ∃ u, vs[i]? = some u ∧ RelT w φ σ A c u := by
  cases h with
  | tup us hr => exact ⟨_, rfl, by simp, fun i c hc => ⟨us i, by simp [(List.getElem?_eq_some_iff.1 hc).1], hr i c hc⟩⟩

theorem constT_rel {v : Value} {t : T} (h : constT v = some t) : RelT w φ σ A t v := by
  cases v with
  | agg cs =>
    simp only [constT] at h
    split at h
    · rename_i hall
      cases h
      obtain ⟨l⟩ := cs
      refine RelT.agg' (by simp) fun i c v hc hv => ?_
      simp only [List.getElem?_map, hv, Option.map_some, Option.some.injEq] at hc
      subst hc
      exact .val (by
        have := List.all_eq_true.1 hall v (List.mem_of_getElem? hv)
        exact this)
    · cases h
  | tuple _ => cases h
  | _ => cases h; exact .c (.imm (.val rfl))

theorem ev_rel {Γ : Cx} {sz : Nat} {s : St} {φ : Phi} {a : Act} {w : World} (hR : R Γ sz s φ a w) {x : Operand} {t : T} (h : ev s.env x = some t) : RelT w φ s.σ (Al Γ.N φ s.σ) t (a.eval x) := by
  cases x with
  | tmp k =>
    obtain ⟨u, hu, hr⟩ := hR.env k t h
    have e : a.eval (.tmp k) = u := by simp [Act.eval, hu]
    rw [e]; exact hr
  | const v => exact constT_rel h
  | global g => cases h; exact .c (.imm (.val rfl))
  | func f => cases h; exact .c (.fn (fun _ => Go.undef) fun i c hi => by simp at hi)
end

/-- A value laid into a slot; the store as it comes. -/
def putE (env : Env) (dst : Option Nat) (v : T) : Env :=
  match dst with
  | some d => (d, v) :: env
  | none => env

def St.put (s : St) (dst : Option Nat) (v : T) : St := ⟨putE s.env dst v, s.σ⟩

def dstOk (sz : Nat) : Option Nat → Bool
  | some d => Nat.blt d sz
  | none => true

theorem R.put {Γ : Cx} {sz : Nat} {s : St} {φ : Phi} {a : Act} {w : World} (hR : R Γ sz s φ a w) {d : Option Nat} {v : T} {u : Value} (hd : dstOk sz d = true) (h : RelT w φ s.σ (Al Γ.N φ s.σ) v u) : R Γ sz (s.put d v) φ (a.put d u) w := by
  cases d with
  | none => exact hR
  | some d =>
    have hlt : d < a.tmps.size := by rw [hR.asize]; simpa [dstOk] using hd
    refine { toRs := hR.toRs, defers := hR.defers, asize := by simp [Act.put, hR.asize], env := fun t x hx => ?_ }
    simp only [St.put, putE, lookup] at hx
    split at hx
    · rename_i he
      cases hx
      have : d = t := Nat.eq_of_beq_eq_true he
      subst this
      exact ⟨u, by simp [Act.put, hlt], h⟩
    · rename_i he
      obtain ⟨y, hy, hr⟩ := hR.env t x hx
      have hne : d ≠ t := fun e => by subst e; simp at he
      exact ⟨y, by simp [Act.put, hne, hy], hr⟩

end Ab
