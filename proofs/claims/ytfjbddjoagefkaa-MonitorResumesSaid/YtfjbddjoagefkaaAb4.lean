/-
  A FUNCTION's CONTRACT over abstract states; how it is proved; the two rules for a call: with the caller's own store, and with none.
-/
import Derived.Test.YtfjbddjoagefkaaAb3
namespace Ab
open Go

/-- What a call of f with these arguments and this store comes to. -/
structure FnOk (P : Program) (f : FuncId) (args : List T) (σ : Store) (Q : T → Store → Prop) : Prop where
  fn : ∃ fn, P.funcs[f]? = some fn ∧ (fn.name == "runtime.NumGoroutine") = false ∧ fn.body.isNone = false
  run : ∀ (Γ : Cx) (vs : List Value), Γ.σ0 = σ → Good Γ → args.length = vs.length →
    (∀ (i : Nat) (t : T) (u : Value), args[i]? = some t → vs[i]? = some u → RelT Γ.w0 Γ.φ0 σ (Al Γ.N Γ.φ0 σ) t u) →
    Calls P f vs.toArray Γ.w0 fun e w' => ∃ v r σ' φ', e = .returned v ∧ Q r σ' ∧ RelT w' φ' σ' (Al Γ.N φ' σ') r v ∧ Rs Γ σ' φ' w'

theorem FnOk.mono {P : Program} {f : FuncId} {args : List T} {σ : Store} {Q Q' : T → Store → Prop} (h : FnOk P f args σ Q) (hq : ∀ r σ', Q r σ' → Q' r σ') : FnOk P f args σ Q' :=
  ⟨h.fn, fun Γ vs h1 h2 h3 h4 => (h.run Γ vs h1 h2 h3 h4).mono fun _ _ ⟨v, r, σ', φ', a, b, c⟩ => ⟨v, r, σ', φ', a, hq _ _ b, c⟩⟩

def argEnv (i : Nat) : List T → Env
  | [] => []
  | t :: ts => (i, t) :: argEnv (i + 1) ts

theorem lookup_argEnv : ∀ (ts : List T) (i t : Nat) (v : T), lookup t (argEnv i ts) = some v → i ≤ t ∧ ts[t - i]? = some v
  | [], _, _, _, h => by simp [argEnv, lookup] at h
  | x :: ts, i, t, v, h => by
    simp only [argEnv, lookup] at h
    split at h
    · rename_i he
      have := Nat.eq_of_beq_eq_true he
      subst this
      simpa using h
    · obtain ⟨h1, h2⟩ := lookup_argEnv ts (i + 1) t v h
      refine ⟨by omega, ?_⟩
      rw [show t - i = (t - (i + 1)) + 1 by omega]
      simpa using h2

/-- Where a result lies: in a slot, or in a variable (a struct) whose address stands in a slot. -/
inductive RV where
  | t (n : Nat)
  | cell (a : Nat) (ty : TypeId) (size : Nat)

def RV.var : RV → ResultVar
  | .t n => .tmp n
  | .cell a ty _ => .cell a ty

def isAggD : TypeDesc → Bool
  | .struct _ | .array _ _ => true
  | _ => false

def RV.ok (P : Program) : RV → Prop
  | .t _ => True
  | .cell _ ty size => ∃ d i, P.underlying ty = some d ∧ isAggD d = true ∧ P.info? ty = some i ∧ i.size = size

def RV.oks (P : Program) : List RV → Prop
  | [] => True
  | r :: rs => r.ok P ∧ RV.oks P rs

def ret1 (s : St) : RV → Option T
  | .t n => lookup n s.env
  | .cell a _ size => match lookup a s.env with
    | some (.c (.ptr id j o)) => match s.σ[id]? with
      | some (some (.cells _ es)) => match es[j]? with
        | some e => if Nat.ble (o + size) e.length then some (.agg ((e.drop o).take size)) else none
        | none => none
      | _ => none
    | _ => none

def retL (s : St) : List RV → Option (List T)
  | [] => some []
  | r :: rs => match ret1 s r, retL s rs with
    | some x, some xs => some (x :: xs)
    | _, _ => none

/-- The result. -/
def retT (s : St) (rs : List RV) : Option T := match retL s rs with
  | some [x] => some x
  | some xs => some (.tup xs)
  | none => none

def resF (tmps : Array Value) : ResultVar → Sem Value
  | .tmp t => pure (tmps.getD t Go.undef)
  | .cell a t => do loadVar t (← asAddr (tmps.getD a Go.undef))

theorem results_eq (fn : Func) (tmps : Array Value) : results fn tmps = (do
  let vs ← fn.results.mapM (resF tmps)
  pure (if h : vs.size = 1 then vs[0] else .tuple vs)) := rfl

theorem run_isAgg {P : Program} {t : TypeId} {d : TypeDesc} (h : P.underlying t = some d) (w : World) : (isAgg t).run P w = .ok (isAggD d) w := by
  cases d <;> simp [isAgg, run_underlying h, isAggD]

theorem cell_of {w : World} {b o : Nat} {arr : Array Value} {ety : TypeId} {fr : Nat × Nat} (h : w.heap[b]? = some (.cells arr ety fr)) : w.cell? ⟨b, o, none⟩ = arr[o]? := by simp [World.cell?, h]

theorem add_none (b o n : Nat) : (⟨b, o, none⟩ : Addr).add n = ⟨b, o + n, none⟩ := by
  unfold Addr.add
  split
  · subst_vars; rfl
  · rfl

theorem range_some {n i j : Nat} (h : (List.range n)[i]? = some j) : i < n ∧ i = j := by
  obtain ⟨h1, h2⟩ := List.getElem?_eq_some_iff.1 h
  rw [List.getElem_range] at h2
  exact ⟨by simpa using h1, h2⟩

theorem ret1_run {Γ : Cx} {sz : Nat} {s : St} {φ : Phi} {a : Act} {w : World} (hR : R Γ sz s φ a w) {P : Program} {rv : RV} (hok : rv.ok P) {r : T} (h : ret1 s rv = some r) :
    ∃ v, (resF a.tmps rv.var).run P w = .ok v w ∧ RelT w φ s.σ (Al Γ.N φ s.σ) r v := by
  cases rv with
  | t n =>
    obtain ⟨u, hu, hr⟩ := hR.env n r h
    exact ⟨u, by simp [RV.var, resF, hu], hr⟩
  | cell ad ty size =>
    obtain ⟨d, i, hd1, hd2, hi1, hi2⟩ := hok
    simp only [ret1] at h
    split at h <;> try cases h
    rename_i id j o hl
    split at h <;> try cases h
    rename_i k es hσ
    split at h <;> try cases h
    rename_i e he
    split at h <;> cases h
    rename_i hfit
    have hfit' : o + size ≤ e.length := Nat.le_of_ble_eq_true hfit
    obtain ⟨u, hu, hr⟩ := hR.env ad _ hl
    cases hr with | c hr => cases hr with | ptr hid _ hp =>
      obtain ⟨b, base, hφ, rfl⟩ := hp k es hσ
      rcases hR.st.blk _ _ hσ with ⟨h1, h2⟩ | ⟨b', base', arr, ety, h1, h2, h3, h4, h5⟩
      · rw [hφ] at h1; cases h1
      rw [hφ] at h1; cases h1
      have hcell : ∀ q, q < size → ∃ u, arr[base + (j * k + (o + q))]? = some u ∧ RelC w φ s.σ (Al Γ.N φ s.σ) (e[o + q]?.getD (.imm (.val (.bool true)))) u := fun q hq => by
        have hlt : o + q < e.length := by omega
        obtain ⟨u, hu, hr⟩ := h5 j e (o + q) _ he (List.getElem?_eq_getElem hlt)
        exact ⟨u, hu, by simpa [hlt] using hr⟩
      have hlc := run_loadCells_list (P := P) w ⟨b, base + (j * k + o), none⟩ ((List.range size).map fun q => (arr[base + (j * k + (o + q))]?).getD Go.undef) (fun q v hv => by
        rw [List.getElem?_map, Option.map_eq_some_iff] at hv
        obtain ⟨q', hq, rfl⟩ := hv
        obtain ⟨hlt, rfl⟩ := range_some hq
        obtain ⟨u, hu, _⟩ := hcell q hlt
        rw [add_none, cell_of h2, show base + (j * k + o) + q = base + (j * k + (o + q)) by omega, hu]
        rfl)
      simp only [List.length_map, List.length_range] at hlc
      refine ⟨.agg ((List.range size).map fun q => (arr[base + (j * k + (o + q))]?).getD Go.undef).toArray, ?_, RelT.agg' (by simp; omega) fun q c v hc hv => ?_⟩
      · simp [RV.var, resF, hu, asAddr, loadVar, run_isAgg hd1, hd2, Go.sizeOf, typeInfo, hi1, hi2, hlc]
      · rw [List.getElem?_map, Option.map_eq_some_iff] at hv
        obtain ⟨q', hq, rfl⟩ := hv
        obtain ⟨hlt, rfl⟩ := range_some hq
        rw [List.getElem?_take, if_pos hlt, List.getElem?_drop] at hc
        obtain ⟨u, hu, hr⟩ := hcell q hlt
        rw [hu]
        rw [hc] at hr
        exact hr

theorem retL_run {Γ : Cx} {sz : Nat} {s : St} {φ : Phi} {a : Act} {w : World} (hR : R Γ sz s φ a w) {P : Program} : ∀ {rs : List RV} {ts : List T}, RV.oks P rs → retL s rs = some ts →
    ∃ vs : List Value, vs.length = rs.length ∧ ts.length = rs.length ∧ (∀ (i : Nat) (rv : RV) (v : Value), rs[i]? = some rv → vs[i]? = some v → (resF a.tmps rv.var).run P w = .ok v w) ∧ ∀ (i : Nat) (t : T) (v : Value), ts[i]? = some t → vs[i]? = some v → RelT w φ s.σ (Al Γ.N φ s.σ) t v
  | [], ts, _, h => by cases h; exact ⟨[], rfl, rfl, fun i rv v hi => by simp at hi, fun i t v hi => by simp at hi⟩
  | r :: rs, ts, hok, h => by
    simp only [retL] at h
    split at h <;> cases h
    rename_i x xs h1 h2
    obtain ⟨v, g1, g2⟩ := ret1_run hR hok.1 h1
    obtain ⟨vs, k1, k2, k3, k4⟩ := retL_run hR hok.2 h2
    refine ⟨v :: vs, by simp [k1], by simp [k2], fun i rv u hi hu => ?_, fun i t u hi hu => ?_⟩
    · match i with
      | 0 => cases hi; cases hu; exact g1
      | i + 1 => exact k3 i rv u (by simpa using hi) (by simpa using hu)
    · match i with
      | 0 => cases hi; cases hu; exact g2
      | i + 1 => exact k4 i t u (by simpa using hi) (by simpa using hu)

theorem retT_run {Γ : Cx} {sz : Nat} {s : St} {φ : Phi} {a : Act} {w : World} (hR : R Γ sz s φ a w) {fn : Func} {rs : List RV} (hrs : fn.results = (rs.map RV.var).toArray) (hlen : Nat.ble rs.length 5 = true) {P : Program} (hok : RV.oks P rs) {r : T} (h : retT s rs = some r) :
    ∃ v, (results fn a.tmps).run P w = .ok v w ∧ RelT w φ s.σ (Al Γ.N φ s.σ) r v := by
  unfold retT at h
  cases hl : retL s rs with
  | none => rw [hl] at h; cases h
  | some ts =>
    rw [hl] at h
    obtain ⟨vs, k1, k2, k3, k4⟩ := retL_run hR hok hl
    have hle : rs.length ≤ 5 := Nat.le_of_ble_eq_true hlen
    have hrun : (results fn a.tmps).run P w = .ok (if h : vs.length = 1 then vs[0]'(by rw [h]; exact Nat.one_pos) else .tuple vs.toArray) w := by
      rw [results_eq, hrs]
      match rs, vs, k1, k3, hle with
      | [], [], _, _, _ => simp
      | [r0], [v0], _, k3, _ => simp [k3 0 r0 v0 rfl rfl]
      | [r0, r1], [v0, v1], _, k3, _ => simp [k3 0 r0 v0 rfl rfl, k3 1 r1 v1 rfl rfl]
      | [r0, r1, r2], [v0, v1, v2], _, k3, _ => simp [k3 0 r0 v0 rfl rfl, k3 1 r1 v1 rfl rfl, k3 2 r2 v2 rfl rfl]
      | [r0, r1, r2, r3], [v0, v1, v2, v3], _, k3, _ => simp [k3 0 r0 v0 rfl rfl, k3 1 r1 v1 rfl rfl, k3 2 r2 v2 rfl rfl, k3 3 r3 v3 rfl rfl]
      | [r0, r1, r2, r3, r4], [v0, v1, v2, v3, v4], _, k3, _ => simp [k3 0 r0 v0 rfl rfl, k3 1 r1 v1 rfl rfl, k3 2 r2 v2 rfl rfl, k3 3 r3 v3 rfl rfl, k3 4 r4 v4 rfl rfl]
    have k5 : ts.length = vs.length := by omega
    refine ⟨_, hrun, ?_⟩
    by_cases h1 : vs.length = 1
    · rw [dif_pos h1]
      match ts, vs, h1, k5, h, k4 with
      | [t], [v], _, _, h, k4 => cases h; exact k4 0 _ _ rfl rfl
      | [], [v], _, h5, _, _ => simp at h5
      | _ :: _ :: _, [v], _, h5, _, _ => simp at h5
    · rw [dif_neg h1]
      match ts, h, k5, k4 with
      | [], h, hl, k4 => cases h; exact RelT.tup' hl fun i c z hc hz => k4 i c z hc hz
      | [t], h, hl, k4 => exact absurd hl.symm h1
      | t :: t' :: r', h, hl, k4 => cases h; exact RelT.tup' hl fun i c z hc hz => k4 i c z hc hz

/-- What is asked at a function's end. -/
def Done (rs : List RV) (Q : T → Store → Prop) : Post := fun e s => (e = .normal ∨ e = .ret) ∧ ∃ r, retT s rs = some r ∧ Q r s.σ

theorem Done.ret {rs : List RV} {Q : T → Store → Prop} {s : St} {r : T} (h : retT s rs = some r) (hq : Q r s.σ) : Done rs Q .ret s := ⟨.inr rfl, r, h, hq⟩
theorem Done.normal {rs : List RV} {Q : T → Store → Prop} {s : St} {r : T} (h : retT s rs = some r) (hq : Q r s.σ) : Done rs Q .normal s := ⟨.inl rfl, r, h, hq⟩

theorem Good.rs {Γ : Cx} (h : Good Γ) : Rs Γ Γ.σ0 Γ.φ0 Γ.w0 :=
  { good := h, st := h.st, keep := fun i blk _ base hi hp hK => hK.2 i blk base hi hp, os := rfl, tape := rfl, output := rfl, size := Nat.le_refl _, block := fun _ _ => rfl, kept := Kept.refl _ _ _ _ }

theorem FnOk.enter {P : Program} {f : FuncId} {fn : Func} {c : Code} {sz : Nat} {rs : List RV} {args : List T} {σ : Store} {Q : T → Store → Prop}
    (hf : P.funcs[f]? = some fn) (hb : fn.body = some c) (hsz : fn.ntmps = sz) (hrs : fn.results = (rs.map RV.var).toArray) (hlen : Nat.ble rs.length 5 = true) (hrv : RV.oks P rs) (hname : (fn.name == "runtime.NumGoroutine") = false) (hn : Nat.ble args.length sz = true)
    (h : AWP P σ sz c (Done rs Q) ⟨argEnv 0 args, σ⟩) : FnOk P f args σ Q := by
  refine ⟨⟨fn, hf, hname, by rw [hb]; rfl⟩, fun Γ vs hΓ hg hl hr => ?_⟩
  subst hΓ
  have hn' : args.length ≤ sz := Nat.le_of_ble_eq_true hn
  refine calls_of_wp hf hb ?_
  rw [hsz]
  have hR : R Γ sz ⟨argEnv 0 args, Γ.σ0⟩ Γ.φ0 { tmps := vs.toArray ++ Array.replicate (sz - vs.toArray.size) Go.undef, defers := [] } Γ.w0 :=
    { toRs := hg.rs, defers := rfl, asize := by simp; omega, env := fun t v ht => by
        obtain ⟨_, h2⟩ := lookup_argEnv args 0 t v ht
        simp only [Nat.sub_zero] at h2
        have hlt : t < vs.length := by rw [← hl]; exact (List.getElem?_eq_some_iff.1 h2).1
        refine ⟨vs[t], by simp [Array.getElem?_append, hlt], hr t v _ h2 (by simp [hlt])⟩ }
  refine wp_mono (h Γ _ _ _ rfl hR) ?_
  rintro e a w ⟨s, φ, ⟨he, r, hret, hq⟩, hR'⟩
  obtain ⟨v, hv, hrel⟩ := retT_run hR' hrs hlen hrv hret
  have : a.defers = [] ∧ ∃ v, (results fn a.tmps).run P w = .ok v w ∧ ∃ v' r σ' φ', Ending.returned v = .returned v' ∧ Q r σ' ∧ RelT w φ' σ' (Al Γ.N φ' σ') r v' ∧ Rs Γ σ' φ' w :=
    ⟨hR'.defers, v, hv, v, r, s.σ, φ, rfl, hq, hrel, hR'.toRs⟩
  rcases he with rfl | rfl <;> exact this

/-! ## Calls -/

/-- From inside a call that the caller made in the midst of its own. -/
theorem Rs.down {Γ : Cx} {σ : Store} {φ : Phi} {w : World} (h : Rs Γ σ φ w) : Good ⟨w, Γ.N, φ, σ⟩ :=
  { st := h.st, lt := fun b hb => Nat.lt_of_lt_of_le (h.good.lt b hb) h.size,
    own := fun i blk b base hi hp hN => h.keep i blk b base hi hp ⟨h.good.lt b hN, fun i' blk' base' hi' hp' => h.good.own i' blk' b base' hi' hp' hN⟩ }

theorem Rs.up {Γ : Cx} {σ σ' : Store} {φ φ' : Phi} {w w' : World} (h : Rs Γ σ φ w) (k : Rs ⟨w, Γ.N, φ, σ⟩ σ' φ' w') : Rs Γ σ' φ' w' where
  good := h.good
  st := k.st
  keep i blk b base hi hp hK := k.keep i blk b base hi hp ⟨Nat.lt_of_lt_of_le hK.1 h.size, fun i' blk' base' hi' hp' => h.keep i' blk' b base' hi' hp' hK⟩
  os := k.os.trans h.os
  tape := k.tape.trans h.tape
  output := k.output.trans h.output
  size := Nat.le_trans h.size k.size
  block b hK := (k.block b ⟨Nat.lt_of_lt_of_le hK.1 h.size, fun i' blk' base' hi' hp' => h.keep i' blk' b base' hi' hp' hK⟩).trans (h.block b hK)
  kept := Kept.trans h.size h.kept k.kept

/-- The caller's context, with its own blocks forbidden: for a callee that is handed nothing to write. -/
def Cx.bare (Γ : Cx) (φ : Phi) (σ : Store) (w : World) : Cx := ⟨w, fun b => b < w.heap.size ∧ ¬ Al Γ.N φ σ b, fun _ => none, []⟩

theorem good_bare (Γ : Cx) (φ : Phi) (σ : Store) (w : World) : Good (Γ.bare φ σ w) :=
  { st := ⟨fun i b hi => by simp [Cx.bare] at hi, fun i j bi bj p q hi => by simp [Cx.bare] at hi⟩, lt := fun _ h => h.1, own := fun i blk b base hi => by simp [Cx.bare] at hi }

theorem bare_al {Γ : Cx} {φ : Phi} {σ : Store} {w : World} {b : Nat} (h : Al Γ.N φ σ b) : Al (Γ.bare φ σ w).N (fun _ => none) [] b :=
  ⟨fun hN => hN.2 h, fun i blk base hi => by simp at hi⟩

/-- A place of two parts. -/
def phiApp (n : Nat) (φ φ' : Phi) : Phi := fun i => if i.1 < n then φ i else φ' (unsh n i)

theorem Rs.upBare {Γ : Cx} {σ σ' : Store} {φ φ' : Phi} {w w' : World} (h : Rs Γ σ φ w) (k : Rs (Γ.bare φ σ w) σ' φ' w') :
    Kept w w' φ (phiApp σ.length φ φ') σ (σ ++ σ'.mapB (Blk.ren (sh σ.length))) (Al Γ.N φ σ) (Al Γ.N (phiApp σ.length φ φ') (σ ++ σ'.mapB (Blk.ren (sh σ.length)))) ∧
    Fwd w' φ' (phiApp σ.length φ φ') σ' (σ ++ σ'.mapB (Blk.ren (sh σ.length))) (Al (Γ.bare φ σ w).N φ' σ') (Al Γ.N (phiApp σ.length φ φ') (σ ++ σ'.mapB (Blk.ren (sh σ.length)))) (sh σ.length) ∧
    Rs Γ (σ ++ σ'.mapB (Blk.ren (sh σ.length))) (phiApp σ.length φ φ') w' := by
  generalize hn : σ.length = n
  generalize hσ : σ ++ σ'.mapB (Blk.ren (sh n)) = σ2
  have lo : ∀ i : Id, i.1 < n → σ2[i]? = σ[i]? := fun i hi => by rw [← hσ]; exact Store.get_left (by rw [hn]; exact hi)
  have hi' : ∀ i : Id, n ≤ i.1 → σ2[i]? = (σ'[unsh n i]?).map (Option.map (Blk.ren (sh n))) := fun i hi => by rw [← hσ, Store.get_right (by rw [hn]; exact hi), Store.get_map, hn]; rfl
  have plo : ∀ i : Id, i.1 < n → phiApp n φ φ' i = φ i := fun i hi => by simp [phiApp, hi]
  have phi : ∀ i : Id, n ≤ i.1 → phiApp n φ φ' i = φ' (unsh n i) := fun i hi => by simp [phiApp, Nat.not_lt.2 hi]
  have hlen : n ≤ σ2.length := by rw [← hσ]; simp [hn]
  have old : ∀ b, b < w.heap.size → (Γ.bare φ σ w).K b := fun b hb => ⟨hb, fun i blk base hi => by simp [Cx.bare] at hi⟩
  have ownlt : ∀ (i : Id) blk b base, σ[i]? = some (some blk) → φ i = some (b, base) → b < w.heap.size := fun i blk b base hi hp => Al.own_lt h.st hi hp
  have newge : ∀ (i : Id) blk b base, σ'[i]? = some (some blk) → φ' i = some (b, base) → w.heap.size ≤ b := fun i blk b base hi hp => by
    rcases Nat.lt_or_ge b w.heap.size with hb | hb
    · exact absurd (old b hb) (k.keep i blk b base hi hp)
    · exact hb
  have hnew : ∀ (i : Id) blk, n ≤ i.1 → σ2[i]? = some (some blk) → ∃ b0, σ'[unsh n i]? = some (some b0) ∧ blk = b0.ren (sh n) := fun i blk hge h2 => by
    rw [hi' i hge] at h2
    cases hx : σ'[unsh n i]? with
    | none => rw [hx] at h2; cases h2
    | some o =>
      rw [hx] at h2
      cases o with
      | none => cases h2
      | some b0 => cases h2; exact ⟨b0, rfl, rfl⟩
  have A1 : ∀ b, Al Γ.N φ σ b → b < w.heap.size → Al Γ.N (phiApp n φ φ') σ2 b := fun b hb hlt => ⟨hb.1, fun i blk base hib hp => by
    rcases Nat.lt_or_ge i.1 n with hin | hin
    · exact hb.2 i blk base (by rw [← lo i hin]; exact hib) (by rw [← plo i hin]; exact hp)
    · obtain ⟨b0, h1, _⟩ := hnew i blk hin hib
      rw [phi i hin] at hp
      have := newge _ _ _ _ h1 hp
      omega⟩
  have A2 : ∀ b, Al (Γ.bare φ σ w).N φ' σ' b → b < w'.heap.size → Al Γ.N (phiApp n φ φ') σ2 b := fun b hb _ => by
    have key : b < w.heap.size → Al Γ.N φ σ b := fun hlt => Classical.byContradiction fun hx => hb.1 ⟨hlt, hx⟩
    refine ⟨fun hN => ?_, fun i blk base hib hp => ?_⟩
    · have hlt : b < w.heap.size := Nat.lt_of_lt_of_le (h.good.lt b hN) h.size
      exact (key hlt).1 hN
    · rcases Nat.lt_or_ge i.1 n with hin | hin
      · rw [lo i hin] at hib; rw [plo i hin] at hp
        have hlt := ownlt i blk b base hib hp
        exact (key hlt).2 i blk base hib hp
      · obtain ⟨b0, h1, _⟩ := hnew i blk hin hib
        rw [phi i hin] at hp
        exact hb.2 _ b0 base h1 hp
  have hK : Kept w w' φ (phiApp n φ φ') σ σ2 (Al Γ.N φ σ) (Al Γ.N (phiApp n φ φ') σ2) :=
    { imm := fun b _ hl => k.block b (old b hl), all := A1, len := by omega,
      cells := fun i kk es' hi he => by
        rw [hn] at hi
        rw [lo i hi] at he
        refine ⟨es', he, rfl, plo i hi, fun b base arr ety hp hb => ⟨arr, ?_, rfl⟩⟩
        exact (k.block b (old b (ownlt i _ b base he hp))).trans hb,
      obj := fun i p' hi he => by
        rw [hn] at hi
        rw [lo i hi] at he
        exact ⟨plo i hi, p', he⟩ }
  have hF : Fwd w' φ' (phiApp n φ φ') σ' σ2 (Al (Γ.bare φ σ w).N φ' σ') (Al Γ.N (phiApp n φ φ') σ2) (sh n) :=
    { all := A2, blk := fun i hi => by
        have hge : n ≤ (sh n i).1 := by simp [sh]
        refine ⟨by rw [← hσ]; simp [hn, sh]; omega, by rw [phi _ hge, unsh_sh], fun b' hb' => ?_⟩
        obtain ⟨b0, h1, h2⟩ := hnew (sh n i) b' hge hb'
        exact ⟨b0, by rwa [unsh_sh] at h1, h2⟩ }
  refine ⟨hK, hF, ?_⟩
  exact {
    good := h.good
    st := ⟨fun i b hib => by
        rcases Nat.lt_or_ge i.1 n with hin | hin
        · rw [lo i hin] at hib
          rw [plo i hin]
          exact (h.st.blk i b hib).mono hK fun g base hp => k.block g (old g (ownlt i b g base hib hp))
        · obtain ⟨b0, h1, rfl⟩ := hnew i b hin hib
          rw [phi i hin]
          have hb := k.st.blk _ _ h1
          cases b0 with
          | cells kk es =>
            rcases hb with ⟨g1, g2⟩ | ⟨b, base, arr, ety, g1, g2, g3, g4, g5⟩
            · exact .inl ⟨g1, by subst g2; rfl⟩
            · refine .inr ⟨b, base, arr, ety, g1, g2, by simpa using g3, fun j e he => ?_, fun j e o x he hx => ?_⟩
              · simp only [List.getElem?_map, Option.map_eq_some_iff] at he
                obtain ⟨e0, he0, rfl⟩ := he
                rw [renL_eq]; simpa using g4 j e0 he0
              · simp only [List.getElem?_map, Option.map_eq_some_iff] at he
                obtain ⟨e0, he0, rfl⟩ := he
                rw [renL_eq] at hx
                simp only [List.getElem?_map, Option.map_eq_some_iff] at hx
                obtain ⟨x0, hx0, rfl⟩ := hx
                obtain ⟨u, hu, hr⟩ := g5 j e0 o x0 he0 hx0
                exact ⟨u, hu, hr.fwd hF⟩
          | obj p => exact hb,
      fun i j bi bj p q hib hjb hp hq he => by
        obtain ⟨pb, po⟩ := p
        obtain ⟨qb, qo⟩ := q
        dsimp only at he
        subst he
        rcases Nat.lt_or_ge i.1 n with hin | hin <;> rcases Nat.lt_or_ge j.1 n with hjn | hjn
        · rw [lo i hin] at hib; rw [lo j hjn] at hjb; rw [plo i hin] at hp; rw [plo j hjn] at hq
          exact h.st.inj i j bi bj _ _ hib hjb hp hq rfl
        · rw [lo i hin] at hib; rw [plo i hin] at hp
          obtain ⟨b0, h1, _⟩ := hnew j bj hjn hjb
          rw [phi j hjn] at hq
          have := newge _ _ _ _ h1 hq
          have := ownlt i bi _ _ hib hp
          omega
        · rw [lo j hjn] at hjb; rw [plo j hjn] at hq
          obtain ⟨b0, h1, _⟩ := hnew i bi hin hib
          rw [phi i hin] at hp
          have := newge _ _ _ _ h1 hp
          have := ownlt j bj _ _ hjb hq
          omega
        · obtain ⟨b0, h1, _⟩ := hnew i bi hin hib
          obtain ⟨b1, h2, _⟩ := hnew j bj hjn hjb
          rw [phi i hin] at hp
          rw [phi j hjn] at hq
          have := k.st.inj _ _ _ _ _ _ h1 h2 hp hq rfl
          rw [← sh_unsh hin, this, sh_unsh hjn]⟩
    keep := fun i blk b base hib hp hKb => by
      rcases Nat.lt_or_ge i.1 n with hin | hin
      · rw [lo i hin] at hib; rw [plo i hin] at hp
        exact h.keep i blk b base hib hp hKb
      · obtain ⟨b0, h1, _⟩ := hnew i blk hin hib
        rw [phi i hin] at hp
        have := newge _ _ _ _ h1 hp
        have := hKb.1
        have := h.size
        omega
    os := k.os.trans h.os
    tape := k.tape.trans h.tape
    output := k.output.trans h.output
    size := Nat.le_trans h.size k.size
    block := fun b hKb => (k.block b (old b (Nat.lt_of_lt_of_le hKb.1 h.size))).trans (h.block b hKb)
    kept := Kept.trans h.size h.kept hK }

end Ab
