/-
  STRUCTS AND ARRAYS MADE AND COMPARED; slices of arrays.
-/
import Derived.Test.YtfjbddjoagefkaaAb14
namespace Ab
open Go

class PlacesC (P : Program) (fs : List Field) (places : outParam (List (Nat × Nat))) : Prop where
  h : ∀ (i : Nat) (f : Field), fs[i]? = some f → ∃ n j, places[i]? = some (f.offset, n) ∧ P.info? f.type = some j ∧ j.size = n
  len : places.length = fs.length

instance (P : Program) : PlacesC P [] [] := ⟨fun i f h => by simp at h, rfl⟩
instance (P : Program) (f : Field) (fs : List Field) (n b : Nat) (z : Value) (r : List (Nat × Nat)) [h : TyS P f.type n b z] [k : PlacesC P fs r] : PlacesC P (f :: fs) ((f.offset, n) :: r) :=
  ⟨fun i g hi => by
    obtain ⟨j, h1, h2, _⟩ := h.h
    match i with
    | 0 => cases hi; exact ⟨n, j, rfl, h1, h2⟩
    | i + 1 => simpa using k.h i g (by simpa using hi), by simp [k.len]⟩

def evP (env : Env) : List (Nat × Operand) → Option (List (Nat × T))
  | [] => some []
  | (i, x) :: r => match ev env x, evP env r with
    | some t, some ts => some ((i, t) :: ts)
    | _, _ => none

def fillC (place : Nat → Option (Nat × Nat)) : List C → List (Nat × T) → Option (List C)
  | cs, [] => some cs
  | cs, (i, v) :: r => match place i, cellsT v with
    | some (off, size), some vs => match Nat.beq vs.length size && Nat.ble (off + vs.length) cs.length with
      | true => fillC place (cs.take off ++ vs ++ cs.drop (off + vs.length)) r
      | false => none
    | _, _ => none

theorem foldl_set : ∀ (l : List Value) (p off : Nat) (base : Array Value), off + p + l.length ≤ base.size → ((l.zipIdx p).foldl (fun cs (c, j) => cs.setIfInBounds (off + j) c) base).size = base.size ∧
    ∀ i, ((l.zipIdx p).foldl (fun cs (c, j) => cs.setIfInBounds (off + j) c) base)[i]? = if off + p ≤ i ∧ i < off + p + l.length then l[i - (off + p)]? else base[i]? := by
  intro l
  induction l with
  | nil => intro p off base _; exact ⟨rfl, fun i => by simp; omega⟩
  | cons c l ih =>
    intro p off base hp
    simp only [List.length_cons] at hp
    simp only [List.zipIdx_cons, List.foldl_cons]
    obtain ⟨g1, g2⟩ := ih (p + 1) off (base.setIfInBounds (off + p) c) (by simp; omega)
    refine ⟨by rw [g1]; simp, fun i => ?_⟩
    rw [g2]
    by_cases hi : off + (p + 1) ≤ i ∧ i < off + (p + 1) + l.length
    · rw [if_pos hi, if_pos (by simp; omega)]
      rw [show i - (off + p) = (i - (off + (p + 1))) + 1 by omega]
      simp
    · rw [if_neg hi]
      by_cases hp' : i = off + p
      · subst hp'
        rw [if_pos (by simp)]
        have hb : off + p < base.size := by omega
        simp [hb]
      · rw [if_neg (by simp; omega)]
        simp [Array.getElem?_setIfInBounds]; omega

section
variable {P : Program} {σ0 : Store} {sz : Nat} {Q : Post} {env : Env} {σv : Store} {ops : Array Oper} {rest : List Oper} {dst : Option Nat} {ty : TypeId} {pos : String} {after : Array Edge}

/-- Cells related one by one. -/
def RelL (w : World) (φ : Phi) (σ : Store) (A : Nat → Prop) (cs : List C) (arr : Array Value) : Prop := arr.size = cs.length ∧ ∀ (i : Nat) (c : C), cs[i]? = some c → ∃ v, arr[i]? = some v ∧ RelC w φ σ A c v

theorem fill_rel {w : World} {φ : Phi} {σ : Store} {A : Nat → Prop} {place : Nat → Option (Nat × Nat)} : ∀ {parts : List (Nat × T)} {vs : List (Nat × Value)} {cs cs' : List C} {arr : Array Value}, parts.length = vs.length →
    (∀ (i : Nat) (p : Nat × T) (q : Nat × Value), parts[i]? = some p → vs[i]? = some q → p.1 = q.1 ∧ RelT w φ σ A p.2 q.2) → RelL w φ σ A cs arr → fillC place cs parts = some cs' →
    ∃ arr', Instr.fill place arr vs = some arr' ∧ RelL w φ σ A cs' arr'
  | [], [], cs, cs', arr, _, _, hr, h => by cases h; exact ⟨arr, rfl, hr⟩
  | (i, t) :: parts, (i', v) :: vs, cs, cs', arr, hl, hp, hr, h => by
    obtain ⟨he, ht⟩ := hp 0 _ _ rfl rfl
    dsimp only at he ht
    subst he
    simp only [fillC] at h
    split at h <;> try cases h
    rename_i off size us h1 h2
    split at h <;> try cases h
    rename_i hb
    simp only [Bool.and_eq_true] at hb
    have hsize : us.length = size := Nat.eq_of_beq_eq_true hb.1
    have hfit : off + us.length ≤ cs.length := Nat.le_of_ble_eq_true hb.2
    obtain ⟨k1, k2⟩ := cellsT_rel ht h2
    have hf := foldl_set v.cells.toList 0 off arr (by simp [k1, hr.1]; omega)
    obtain ⟨f1, f2⟩ := hf
    have hfold : v.cells.zipIdx.foldl (fun cs (c, j) => cs.setIfInBounds (off + j) c) arr = (v.cells.toList.zipIdx 0).foldl (fun cs (c, j) => cs.setIfInBounds (off + j) c) arr := by
      rw [← Array.foldl_toList, Array.toList_zipIdx]
    generalize (v.cells.toList.zipIdx 0).foldl (fun cs (c, j) => cs.setIfInBounds (off + j) c) arr = arr2 at f1 f2 hfold
    have hr2 : RelL w φ σ A (cs.take off ++ us ++ cs.drop (off + us.length)) arr2 := by
      refine ⟨by rw [f1, hr.1]; simp; omega, fun q c hc => ?_⟩
      rw [getElem?_splice cs us off q hfit] at hc
      rw [f2]
      have hvl : v.cells.toList.length = us.length := by simp [k1]
      by_cases hq : off ≤ q ∧ q < off + us.length
      · rw [if_pos hq] at hc
        rw [if_pos (by omega)]
        obtain ⟨u, hu, hr'⟩ := k2 _ c hc
        exact ⟨u, by simpa using hu, hr'⟩
      · rw [if_neg hq] at hc
        rw [if_neg (by omega)]
        exact hr.2 q c hc
    obtain ⟨arr', g1, g2⟩ := fill_rel (parts := parts) (vs := vs) (by simpa using hl) (fun j p q hj hj' => hp (j + 1) p q (by simpa using hj) (by simpa using hj')) hr2 h
    refine ⟨arr', ?_, g2⟩
    simp only [Instr.fill, h1]
    rw [if_neg (by simp [k1, hsize, hr.1]; omega)]
    rw [hfold]
    exact g1
  | [], _ :: _, _, _, _, hl, _, _, _ => by simp at hl
  | _ :: _, [], _, _, _, hl, _, _, _ => by simp at hl

theorem evP_rel {Γ : Cx} {φ : Phi} {a : Act} {w : World} (hR : R Γ sz (St.mk env σv) φ a w) : ∀ {l : List (Nat × Operand)} {ts : List (Nat × T)}, evP env l = some ts → ts.length = (l.map fun p => (p.1, a.eval p.2)).length ∧
    ∀ (i : Nat) (p : Nat × T) (q : Nat × Value), ts[i]? = some p → (l.map fun p => (p.1, a.eval p.2))[i]? = some q → p.1 = q.1 ∧ RelT w φ σv (Al Γ.N φ σv) p.2 q.2
  | [], ts, h => by cases h; exact ⟨rfl, fun i p q hi => by simp at hi⟩
  | (i0, x) :: r, ts, h => by
    simp only [evP] at h
    split at h <;> cases h
    rename_i t0 ts0 h1 h2
    obtain ⟨g1, g2⟩ := evP_rel hR h2
    refine ⟨by simpa using g1, fun i p q hi hq => ?_⟩
    match i with
    | 0 => cases hi; cases hq; exact ⟨rfl, ev_rel hR h1⟩
    | i + 1 => exact g2 i p q (by simpa using hi) (by simpa using hq)

theorem zero_rel {w : World} {φ : Phi} {σ : Store} {A : Nat → Prop} {z : Value} {zc : List C} (hz : constT z = some (.agg zc)) : RelL w φ σ A zc z.cells := by
  have := cellsT_rel (constT_rel (w := w) (φ := φ) (σ := σ) (A := A) hz) rfl
  exact ⟨this.1, this.2⟩

theorem relL_agg {w : World} {φ : Phi} {σ : Store} {A : Nat → Prop} {cs : List C} {arr : Array Value} (h : RelL w φ σ A cs arr) : RelT w φ σ A (.agg cs) (.agg arr) := by
  obtain ⟨l⟩ := arr
  refine RelT.agg' (by simpa using h.1.symm) fun i c v hc hv => ?_
  obtain ⟨u, hu, hr⟩ := h.2 i c hc
  have : u = v := by simpa [hv] using hu.symm
  subst this
  exact hr

theorem AOps.build {t : TypeId} {fs : Array Field} {parts : List (Nat × Operand)} {ps : List (Nat × T)} {n b : Nat} {z : Value} {zc cs : List C} {places : List (Nat × Nat)} [ht : TyD P t (.struct fs)] [hs : TyS P t n b z] [hp : PlacesC P fs.toList places]
    (hz : constT z = some (.agg zc)) (hps : evP env parts = some ps) (hf : fillC (fun i => places[i]?) zc ps = some cs) (hd : dstOk sz dst = true)
    (h : AOps P σ0 sz ops Q rest (St.mk (putE env dst (.agg cs)) σv)) : AOps P σ0 sz ops Q (⟨dst, .build t parts.toArray, ty, pos, after, none⟩ :: rest) (St.mk env σv) :=
  .value rfl hd _ (fun Γ φ a w hR => by
    obtain ⟨g1, g2⟩ := evP_rel hR hps
    obtain ⟨arr', k1, k2⟩ := fill_rel (w := w) g1 g2 (zero_rel hz) hf
    refine ⟨.agg arr', ?_, relL_agg k2⟩
    have hm : ∀ (l : List Field) (pl : List (Nat × Nat)), pl.length = l.length → (∀ (i : Nat) (f : Field), l[i]? = some f → ∃ n j, pl[i]? = some (f.offset, n) ∧ P.info? f.type = some j ∧ j.size = n) →
        (l.mapM (fun f => Functor.map (Prod.mk f.offset) (Go.sizeOf f.type) : Field → Sem (Nat × Nat))).run P w = .ok pl w := by
      intro l
      induction l with
      | nil => intro pl hl _; cases pl with | nil => rfl | cons => simp at hl
      | cons f l ih =>
        intro pl hl hh
        cases pl with
        | nil => simp at hl
        | cons p pl =>
          obtain ⟨n, j, h1, h2, h3⟩ := hh 0 f rfl
          cases h1
          have := ih pl (by simpa using hl) (fun i f hi => by simpa using hh (i + 1) f (by simpa using hi))
          simp [List.mapM_cons, Go.sizeOf, typeInfo, h2, h3] at this ⊢
          simp [this]
    have hm' := hm fs.toList places hp.len hp.h
    have e1 : (execOp a.eval ⟨dst, .build t parts.toArray, ty, pos, after, none⟩).run P w = ((Instr.build t (parts.map fun p => (p.1, a.eval p.2)).toArray).run P w).andThen fun v w => .ok (.value v) w := by
      simp [execOp]
    rw [e1]
    have e2 : (Instr.build t (parts.map fun p => (p.1, a.eval p.2)).toArray).run P w = .ok (.agg arr') w := by
      obtain ⟨fl⟩ := fs
      simp only [Instr.build]
      rw [Sem.run_bind, run_zero (t := t)]
      simp only [Result.andThen, Sem.run_bind, run_underlying ht.h, List.mapM_toArray]
      simp at hm'
      simp [hm', k1]
    rw [e2]; rfl) h

theorem AOps.buildA {t e : TypeId} {len k : Nat} {parts : List (Nat × Operand)} {ps : List (Nat × T)} {n b b' : Nat} {z z' : Value} {zc cs : List C} [ht : TyD P t (.array len e)] [hs : TyS P t n b z] [he : TyS P e k b' z']
    (hz : constT z = some (.agg zc)) (hps : evP env parts = some ps) (hf : fillC (fun i => some (i * k, k)) zc ps = some cs) (hd : dstOk sz dst = true)
    (h : AOps P σ0 sz ops Q rest (St.mk (putE env dst (.agg cs)) σv)) : AOps P σ0 sz ops Q (⟨dst, .build t parts.toArray, ty, pos, after, none⟩ :: rest) (St.mk env σv) :=
  .value rfl hd _ (fun Γ φ a w hR => by
    obtain ⟨g1, g2⟩ := evP_rel hR hps
    obtain ⟨arr', k1, k2⟩ := fill_rel (w := w) g1 g2 (zero_rel hz) hf
    refine ⟨.agg arr', ?_, relL_agg k2⟩
    simp [execOp, Instr.build, run_zero (t := t), run_underlying ht.h, run_sizeOf (t := e), k1]) h

/-! ### Comparisons -/
class EqT (P : Program) (t : TypeId) : Prop where
  held : P.stoodInHeld t = false
  guard : P.eqGuardType P.depth t = false

theorem run_eqGuard_agg {op : BinOp} {t : TypeId} [h : EqT P t] (x y : Operand) (a b : Array Value) (w : World) : (eqGuard op t x y (.agg a) (.agg b)).run P w = .ok () w := by
  cases op <;> simp [eqGuard, h.guard]

theorem run_equal_ints (d : Nat) {t : TypeId} {k : IntKind} [h : TyD P t (.int k)] (a b : Int) (w : World) : (Op.equalIn (d + 1) t (.int k a) (.int k b)).run P w = .ok (a == b) w := by
  simp [Op.equalIn, run_underlying h.h]

theorem run_equal_pair' (d : Nat) {t : TypeId} {f0 f1 : Field} {k0 k1 : IntKind} [ht : TyD P t (.struct #[f0, f1])] [h0 : TyD P f0.type (.int k0)] [h1 : TyD P f1.type (.int k1)] [he : EqT P t] (hn0 : (f0.name == "_") = false) (hn1 : (f1.name == "_") = false) (ho0 : f0.offset = 0) (ho1 : f1.offset = 1)
    (a0 a1 b0 b1 : Int) (w : World) : (Op.equalIn (d + 2) t (.agg #[.int k0 a0, .int k1 a1]) (.agg #[.int k0 b0, .int k1 b1])).run P w = .ok (decide (a0 = b0) && decide (a1 = b1)) w := by
  have hn0' : ¬ f0.name = "_" := by simpa using hn0
  have hn1' : ¬ f1.name = "_" := by simpa using hn1
  have e0 := fun a b => run_equal_ints (P := P) d (t := f0.type) (k := k0) a b w
  have e1 := fun a b => run_equal_ints (P := P) d (t := f1.type) (k := k1) a b w
  rw [Op.equalIn]
  by_cases h : a0 = b0 <;> by_cases h' : a1 = b1 <;> simp [run_underlying ht.h, he.held, hn0', hn1', part, run_isAgg h0.h, run_isAgg h1.h, isAggD, ho0, ho1, e0, e1, h, h']

theorem run_equal_pair {t : TypeId} {f0 f1 : Field} {k0 k1 : IntKind} [ht : TyD P t (.struct #[f0, f1])] [h0 : TyD P f0.type (.int k0)] [h1 : TyD P f1.type (.int k1)] [he : EqT P t] (hn0 : (f0.name == "_") = false) (hn1 : (f1.name == "_") = false) (ho0 : f0.offset = 0) (ho1 : f1.offset = 1)
    (a0 a1 b0 b1 : Int) (w : World) : (Op.equal t (.agg #[.int k0 a0, .int k1 a1]) (.agg #[.int k0 b0, .int k1 b1])).run P w = .ok (decide (a0 = b0) && decide (a1 = b1)) w :=
  run_equal_pair' 9998 hn0 hn1 ho0 ho1 a0 a1 b0 b1 w

theorem run_equal_arr2' (d : Nat) {t e : TypeId} {k : IntKind} [ht : TyD P t (.array 2 e)] [h0 : TyD P e (.int k)] {n b : Nat} {z : Value} [hs : TyS P e n b z] (hn : n = 1) (a0 a1 b0 b1 : Int) (w : World) :
    (Op.equalIn (d + 2) t (.agg #[.int k a0, .int k a1]) (.agg #[.int k b0, .int k b1])).run P w = .ok (decide (a0 = b0) && decide (a1 = b1)) w := by
  subst hn
  have e0 := fun a b => run_equal_ints (P := P) d (t := e) (k := k) a b w
  rw [Op.equalIn]
  by_cases h : a0 = b0 <;> by_cases h' : a1 = b1 <;> simp [run_underlying ht.h, run_sizeOf (t := e), part, run_isAgg h0.h, isAggD, e0, Std.Legacy.Range.forIn_eq_forIn_range', Std.Legacy.Range.size, List.range', h, h']

theorem run_equal_arr2 {t e : TypeId} {k : IntKind} [ht : TyD P t (.array 2 e)] [h0 : TyD P e (.int k)] {n b : Nat} {z : Value} [hs : TyS P e n b z] (hn : n = 1) (a0 a1 b0 b1 : Int) (w : World) :
    (Op.equal t (.agg #[.int k a0, .int k a1]) (.agg #[.int k b0, .int k b1])).run P w = .ok (decide (a0 = b0) && decide (a1 = b1)) w :=
  run_equal_arr2' 9998 hn a0 a1 b0 b1 w

theorem run_equal_bool {t : TypeId} [ht : TyD P t .bool] (d : Nat) (a b : Bool) (w : World) : (Op.equalIn (d + 1) t (.bool a) (.bool b)).run P w = .ok (a == b) w := by
  simp [Op.equalIn, run_underlying ht.h]

theorem agg2_inv {w : World} {φ : Phi} {σ : Store} {A : Nat → Prop} {u v x : Value} (h : RelT w φ σ A (.agg [.imm (.val u), .imm (.val v)]) x) : x = .agg #[u, v] := by
  obtain ⟨vs, h1, h2, h3⟩ := RelT.agg_inv h
  obtain ⟨p, hp, hr⟩ := h3 0 _ rfl
  obtain ⟨q, hq, hs⟩ := h3 1 _ rfl
  cases hr with | imm hr => cases hs with | imm hs =>
    cases hr
    cases hs
    match vs, h2, hp, hq with
    | [p', q'], _, hp, hq => cases hp; cases hq; exact h1

section pairs
variable {t t' : TypeId} {f0 f1 : Field} {k0 k1 : IntKind} {x y : Operand} {a0 a1 b0 b1 : Int}
theorem AOps.eqlP [ht : TyD P t (.struct #[f0, f1])] [h0 : TyD P f0.type (.int k0)] [h1 : TyD P f1.type (.int k1)] [he : EqT P t] (hn0 : (f0.name == "_") = false) (hn1 : (f1.name == "_") = false) (ho0 : f0.offset = 0) (ho1 : f1.offset = 1)
    (hx : ev env x = some (.agg [.imm (.val (.int k0 a0)), .imm (.val (.int k1 a1))])) (hy : ev env y = some (.agg [.imm (.val (.int k0 b0)), .imm (.val (.int k1 b1))])) (hd : dstOk sz dst = true)
    (h : AOps P σ0 sz ops Q rest (St.mk (putE env dst (.c (bool (decide (a0 = b0) && decide (a1 = b1))))) σv)) : AOps P σ0 sz ops Q (⟨dst, .binOp .eql t x y t', ty, pos, after, none⟩ :: rest) (St.mk env σv) :=
  .value rfl hd _ (fun Γ φ a w hR => ⟨.bool (decide (a0 = b0) && decide (a1 = b1)), by
    have g1 := agg2_inv (ev_rel hR hx)
    have g2 := agg2_inv (ev_rel hR hy)
    have g3 := run_equal_pair (P := P) (t := t) (f0 := f0) (f1 := f1) (k0 := k0) (k1 := k1) hn0 hn1 ho0 ho1 a0 a1 b0 b1 w
    simp [execOp, g1, g2, run_eqGuard_agg, binOp, g3], .bool _⟩) h
theorem AOps.neqP [ht : TyD P t (.struct #[f0, f1])] [h0 : TyD P f0.type (.int k0)] [h1 : TyD P f1.type (.int k1)] [he : EqT P t] (hn0 : (f0.name == "_") = false) (hn1 : (f1.name == "_") = false) (ho0 : f0.offset = 0) (ho1 : f1.offset = 1)
    (hx : ev env x = some (.agg [.imm (.val (.int k0 a0)), .imm (.val (.int k1 a1))])) (hy : ev env y = some (.agg [.imm (.val (.int k0 b0)), .imm (.val (.int k1 b1))])) (hd : dstOk sz dst = true)
    (h : AOps P σ0 sz ops Q rest (St.mk (putE env dst (.c (bool (!(decide (a0 = b0) && decide (a1 = b1)))))) σv)) : AOps P σ0 sz ops Q (⟨dst, .binOp .neq t x y t', ty, pos, after, none⟩ :: rest) (St.mk env σv) :=
  .value rfl hd _ (fun Γ φ a w hR => ⟨.bool (!(decide (a0 = b0) && decide (a1 = b1))), by
    have g1 := agg2_inv (ev_rel hR hx)
    have g2 := agg2_inv (ev_rel hR hy)
    have g3 := run_equal_pair (P := P) (t := t) (f0 := f0) (f1 := f1) (k0 := k0) (k1 := k1) hn0 hn1 ho0 ho1 a0 a1 b0 b1 w
    simp [execOp, g1, g2, run_eqGuard_agg, binOp, g3], .bool _⟩) h
theorem AOps.eqlA {e : TypeId} {k : IntKind} {n b : Nat} {z : Value} [ht : TyD P t (.array 2 e)] [h0 : TyD P e (.int k)] [hs : TyS P e n b z] (hn : n = 1) [he : EqT P t]
    (hx : ev env x = some (.agg [.imm (.val (.int k a0)), .imm (.val (.int k a1))])) (hy : ev env y = some (.agg [.imm (.val (.int k b0)), .imm (.val (.int k b1))])) (hd : dstOk sz dst = true)
    (h : AOps P σ0 sz ops Q rest (St.mk (putE env dst (.c (bool (decide (a0 = b0) && decide (a1 = b1))))) σv)) : AOps P σ0 sz ops Q (⟨dst, .binOp .eql t x y t', ty, pos, after, none⟩ :: rest) (St.mk env σv) :=
  .value rfl hd _ (fun Γ φ a w hR => ⟨.bool (decide (a0 = b0) && decide (a1 = b1)), by
    have g1 := agg2_inv (ev_rel hR hx)
    have g2 := agg2_inv (ev_rel hR hy)
    have g3 := run_equal_arr2 (P := P) (t := t) (e := e) (k := k) hn a0 a1 b0 b1 w
    simp [execOp, g1, g2, run_eqGuard_agg, binOp, g3], .bool _⟩) h
end pairs

theorem binOp_eqlB {t : TypeId} [ht : TyD P t .bool] (a b : Bool) (w : World) : (binOp .eql t (.bool a) (.bool b)).run P w = .ok (.bool (decide (a = b))) w := by
  have : (Op.equal t (.bool a) (.bool b)).run P w = .ok (a == b) w := run_equal_bool 9999 a b w
  simp [binOp, this]
  cases a <;> cases b <;> rfl
theorem binOp_neqB {t : TypeId} [ht : TyD P t .bool] (a b : Bool) (w : World) : (binOp .neq t (.bool a) (.bool b)).run P w = .ok (.bool (!decide (a = b))) w := by
  have : (Op.equal t (.bool a) (.bool b)).run P w = .ok (a == b) w := run_equal_bool 9999 a b w
  simp [binOp, this]
  cases a <;> cases b <;> rfl

theorem AOps.eqlB {t t' : TypeId} {x y : Operand} {a b : Bool} [ht : TyD P t .bool] (hx : ev env x = some (.c (bool a))) (hy : ev env y = some (.c (bool b))) (hd : dstOk sz dst = true)
    (h : AOps P σ0 sz ops Q rest (St.mk (putE env dst (.c (bool (decide (a = b))))) σv)) : AOps P σ0 sz ops Q (⟨dst, .binOp .eql t x y t', ty, pos, after, none⟩ :: rest) (St.mk env σv) :=
  .bin hx hy hd rfl (fun w => by simp [go_sem]) (fun w => binOp_eqlB a b w) h
theorem AOps.neqB {t t' : TypeId} {x y : Operand} {a b : Bool} [ht : TyD P t .bool] (hx : ev env x = some (.c (bool a))) (hy : ev env y = some (.c (bool b))) (hd : dstOk sz dst = true)
    (h : AOps P σ0 sz ops Q rest (St.mk (putE env dst (.c (bool (!decide (a = b))))) σv)) : AOps P σ0 sz ops Q (⟨dst, .binOp .neq t x y t', ty, pos, after, none⟩ :: rest) (St.mk env σv) :=
  .bin hx hy hd rfl (fun w => by simp [go_sem]) (fun w => binOp_neqB a b w) h

/-! ### An array as a slice -/
theorem AOps.sliceArrI {x : Operand} {t e : TypeId} {len b : Nat} {z : Value} {cs : List I} [ht : TyD P t (.array len e)] [hs : TyS P e 1 b z] (hx : ev env x = some (.c (.imm (.ipt cs)))) (hl : len ≤ cs.length) (hlm : Nat.ble len 1000000 = true) (hd : dstOk sz dst = true)
    (h : AOps P σ0 sz ops Q rest (St.mk (putE env dst (.c (.imm (.sl 1 ((cs.take len).map fun c => [c]))))) σv)) : AOps P σ0 sz ops Q (⟨dst, .slice t x none none none, ty, pos, after, none⟩ :: rest) (St.mk env σv) :=
  .value rfl hd _ (fun Γ φ a w hR => by
    obtain ⟨ad, us, hv, hc⟩ := ipt_inv (ev_rel hR hx)
    have hlm' : len ≤ 1000000 := Nat.le_of_ble_eq_true hlm
    have hlen : ((cs.take len).map fun c => [c]).length = len := by simp; omega
    refine ⟨.slice (some ad) len len, ?_, .c (.imm ?_)⟩
    · simp [execOp, hv, Instr.sliceAt, Instr.sureAddr, run_underlying ht.h, Instr.sliceBounds, run_sizeOf (t := e)]
      exact fun _ => Addr.add_zero' ad
    · have : RelI w (Al Γ.N φ σv) (.sl 1 ((cs.take len).map fun c => [c])) (.slice (some ad) ((cs.take len).map fun c => [c]).length len) := by
        have get : ∀ (j : Nat) (e : List I), ((cs.take len).map fun c => [c])[j]? = some e → ∃ c, cs[j]? = some c ∧ e = [c] := fun j e he => by
          rw [List.getElem?_map, Option.map_eq_some_iff] at he
          obtain ⟨c, h1, h2⟩ := he
          rw [List.getElem?_take] at h1
          split at h1
          · exact ⟨c, h1, h2.symm⟩
          · cases h1
        refine .sl (fun j o => us (j * 1 + o)) (by omega) (by simp only [maxLen]; omega) (fun j e he => ?_) (fun j e o x he hx => ?_) (fun j e o x he hx => ?_)
        · obtain ⟨c, _, rfl⟩ := get j e he; rfl
        · obtain ⟨c, h1, rfl⟩ := get j e he
          match o with
          | 0 => cases hx; exact ⟨(hc _ _ h1).1, by simpa using (hc _ _ h1).2.1⟩
          | o + 1 => simp at hx
        · obtain ⟨c, h1, rfl⟩ := get j e he
          match o with
          | 0 => cases hx; simpa using (hc _ _ h1).2.2
          | o + 1 => simp at hx
      rwa [hlen] at this) h
end
end Ab
