/-
  CALLS; what is owned ceases to change; structs made and compared.
-/
import Derived.Test.YtfjbddjoagefkaaAb10
namespace Ab
open Go

section
variable {P : Program} {σ0 : Store} {sz : Nat} {Q : Post} {env : Env} {σv : Store} {ops : Array Oper} {rest : List Oper} {dst : Option Nat} {ty : TypeId} {pos : String} {after : Array Edge}

theorem evs_rel {Γ : Cx} {φ : Phi} {a : Act} {w : World} (hR : R Γ sz (St.mk env σv) φ a w) : ∀ {l : List Operand} {ts : List T}, evs env l = some ts → ts.length = l.length ∧ ∀ (i : Nat) (t : T) (u : Value), ts[i]? = some t → (l.map a.eval)[i]? = some u → RelT w φ σv (Al Γ.N φ σv) t u
  | [], ts, h => by cases h; exact ⟨rfl, fun i t u hi => by simp at hi⟩
  | x :: r, ts, h => by
    simp only [evs] at h
    split at h
    · rename_i t0 ts0 h1 h2
      cases h
      obtain ⟨g1, g2⟩ := evs_rel hR h2
      refine ⟨by simp [g1], fun i t u hi hu => ?_⟩
      match i with
      | 0 =>
        cases hi
        simp at hu
        subst hu
        exact ev_rel hR h1
      | i + 1 => exact g2 i t u (by simpa using hi) (by simpa using hu)
    · cases h

theorem fn_inv {w : World} {φ : Phi} {σ : Store} {A : Nat → Prop} {f : FuncId} {caps : List C} {u : Value} (h : RelT w φ σ A (.c (.fn f caps)) u) : ∃ vs : List Value, u = .func (.func f) #[] vs.toArray ∧ vs.length = caps.length ∧ ∀ (i : Nat) (c : C) (v : Value), caps[i]? = some c → vs[i]? = some v → RelC w φ σ A c v := by
  cases h with | c h => cases h with | fn us hr =>
    refine ⟨_, rfl, by simp, fun i c v hi hv => ?_⟩
    rw [List.getElem?_map, Option.map_eq_some_iff] at hv
    obtain ⟨j, hj, rfl⟩ := hv
    obtain ⟨_, rfl⟩ := range_some hj
    exact hr i c hi

/-- The run of a call's operation, up to the callee's entry; its arguments related. -/
theorem call_enter {Γ : Cx} {φ : Phi} {a : Act} {w : World} (hR : R Γ sz (St.mk env σv) φ a w) {x : Operand} {as : List Operand} {ats : Array TypeId} {f : FuncId} {caps : List C} {ts : List T} (hx : ev env x = some (.c (.fn f caps))) (ha : evs env as = some ts)
    (hfn : ∃ fn, P.funcs[f]? = some fn ∧ (fn.name == "runtime.NumGoroutine") = false ∧ fn.body.isNone = false) :
    ∃ vs : List Value, (execOp a.eval ⟨dst, .call ⟨.value x, as.toArray, ats⟩, ty, pos, after, none⟩).run P w = .ok (.enter f vs.toArray) w ∧ (ts ++ caps.map T.c).length = vs.length ∧
      ∀ (i : Nat) (t : T) (u : Value), (ts ++ caps.map T.c)[i]? = some t → vs[i]? = some u → RelT w φ σv (Al Γ.N φ σv) t u := by
  obtain ⟨fn, h1, h2, h3⟩ := hfn
  obtain ⟨cv, g1, g2, g3⟩ := fn_inv (ev_rel hR hx)
  obtain ⟨k1, k2⟩ := evs_rel hR ha
  refine ⟨as.map a.eval ++ cv, ?_, by simp [k1, g2], fun i t u hi hu => ?_⟩
  · have h2' : ¬ fn.name = "runtime.NumGoroutine" := by simpa using h2
    have h3' : ¬ fn.body = none := fun e => by rw [e] at h3; cases h3
    simp [execOp, resolve, g1, Deferred.ofValue, invoke, callFunc, h1, h2', h3']
  · rw [List.getElem?_append] at hi hu
    by_cases hlt : i < ts.length
    · rw [if_pos hlt] at hi
      rw [if_pos (by simp; omega)] at hu
      exact k2 i t u hi hu
    · rw [if_neg hlt] at hi
      rw [if_neg (by simp; omega)] at hu
      rw [List.getElem?_map, Option.map_eq_some_iff] at hi
      obtain ⟨c, hc, rfl⟩ := hi
      simp only [List.length_map, ← k1] at hu
      exact .c (g3 _ c u hc hu)

/-- A call in the caller's own store. -/
theorem AOps.callS {x : Operand} {as : List Operand} {ats : Array TypeId} {f : FuncId} {caps : List C} {ts : List T} {Qc : T → Store → Prop} (hx : ev env x = some (.c (.fn f caps))) (ha : evs env as = some ts) (hd : dstOk sz dst = true)
    (hf : FnOk P f (ts ++ caps.map T.c) σv Qc) (h : ∀ r σ', Qc r σ' → AOps P σ0 sz ops Q rest ((St.mk env σ').put dst r)) :
    AOps P σ0 sz ops Q (⟨dst, .call ⟨.value x, as.toArray, ats⟩, ty, pos, after, none⟩ :: rest) (St.mk env σv) := fun Γ φ a w hΓ hR =>
  wpList_plain rfl fun K hK => by
    obtain ⟨vs, h1, h2, h3⟩ := call_enter (P := P) (dst := dst) (ty := ty) (pos := pos) (after := after) (ats := ats) hR hx ha hf.fn
    unfold Oper.wp
    rw [h1, Oper.upon_enter]
    refine (hf.run ⟨w, Γ.N, φ, σv⟩ vs rfl hR.toRs.down h2 h3).mono ?_
    rintro e w' ⟨v, r, σ', φ', rfl, hq, hr, hs⟩
    exact hK _ _ (h r σ' hq Γ φ' _ w' hΓ ((hR.of hs.kept (hR.toRs.up hs)).put hd hr))

/-- A call that is handed nothing to write. -/
theorem AOps.callP {x : Operand} {as : List Operand} {ats : Array TypeId} {f : FuncId} {caps : List C} {ts : List T} {Qc : T → Store → Prop} (hx : ev env x = some (.c (.fn f caps))) (ha : evs env as = some ts) (hok : T.okL 0 (ts ++ caps.map T.c) = true) (hd : dstOk sz dst = true)
    (hf : FnOk P f (ts ++ caps.map T.c) [] Qc) (h : ∀ r σ', Qc r σ' → AOps P σ0 sz ops Q rest ((St.mk env (σv ++ σ'.mapB (Blk.ren (sh σv.length)))).put dst (r.ren (sh σv.length)))) :
    AOps P σ0 sz ops Q (⟨dst, .call ⟨.value x, as.toArray, ats⟩, ty, pos, after, none⟩ :: rest) (St.mk env σv) := fun Γ φ a w hΓ hR =>
  wpList_plain rfl fun K hK => by
    obtain ⟨vs, h1, h2, h3⟩ := call_enter (P := P) (dst := dst) (ty := ty) (pos := pos) (after := after) (ats := ats) hR hx ha hf.fn
    unfold Oper.wp
    rw [h1, Oper.upon_enter]
    refine (hf.run (Γ.bare φ σv w) vs rfl (good_bare Γ φ σv w) h2 (fun i t u hi hu => ?_)).mono ?_
    · have hb : Back w φ (fun _ => none) σv [] (Al Γ.N φ σv) (Al (Γ.bare φ σv w).N (fun _ => none) []) (fun i => i) := ⟨fun b hb _ => bare_al hb, fun i b hi => by simp at hi⟩
      rw [TokL_eq, List.all_eq_true] at hok
      exact (show RelT w φ σv (Al Γ.N φ σv) (t.ren fun i => i) u by rw [T.ren_id]; exact h3 i t u hi hu).back hb (hok t (List.mem_of_getElem? hi))
    · rintro e w' ⟨v, r, σ', φ', rfl, hq, hr, hs⟩
      obtain ⟨hK1, hF, hR1⟩ := hR.toRs.upBare hs
      exact hK _ _ (h r σ' hq Γ _ _ w' hΓ ((hR.of hK1 hR1).put hd (hr.fwd hF)))

mutual
theorem C.ok_mono {m n : Nat} (h : m ≤ n) : ∀ c : C, c.ok m = true → c.ok n = true
  | .imm _, _ => rfl
  | .own id _ _, hc => by simp only [C.ok, Nat.blt_eq] at hc ⊢; omega
  | .ptr id _ _, hc => by simp only [C.ok, Nat.blt_eq] at hc ⊢; omega
  | .fn _ caps, hc => C.okL_mono h caps hc
  | .ifc _ cs _, hc => C.okL_mono h cs hc
  | .map id, hc => by simp only [C.ok, Nat.blt_eq] at hc ⊢; omega
theorem C.okL_mono {m n : Nat} (h : m ≤ n) : ∀ l : List C, C.okL m l = true → C.okL n l = true
  | [], _ => rfl
  | c :: r, hc => by
    simp only [C.okL, Bool.and_eq_true] at hc ⊢
    exact ⟨C.ok_mono h c hc.1, C.okL_mono h r hc.2⟩
end
mutual
theorem T.ok_mono {m n : Nat} (h : m ≤ n) : ∀ t : T, t.ok m = true → t.ok n = true
  | .c x, hc => C.ok_mono h x hc
  | .agg cs, hc => C.okL_mono h cs hc
  | .tup ts, hc => T.okL_mono h ts hc
  | .undef, _ => rfl
theorem T.okL_mono {m n : Nat} (h : m ≤ n) : ∀ l : List T, T.okL m l = true → T.okL n l = true
  | [], _ => rfl
  | x :: r, hc => by
    simp only [T.okL, Bool.and_eq_true] at hc ⊢
    exact ⟨T.ok_mono h x hc.1, T.okL_mono h r hc.2⟩
end
mutual
theorem C.ren_ok {m : Nat} {π : Id → Id} (h : ∀ i : Id, i.1 < m → π i = i) : ∀ c : C, c.ok m = true → c.ren π = c
  | .imm _, _ => rfl
  | .own id _ _, hc => by simp only [C.ok, Nat.blt_eq] at hc; simp only [C.ren, h id hc]
  | .ptr id _ _, hc => by simp only [C.ok, Nat.blt_eq] at hc; simp only [C.ren, h id hc]
  | .fn _ caps, hc => by simp only [C.ren, C.renL_ok h caps hc]
  | .ifc _ cs _, hc => by simp only [C.ren, C.renL_ok h cs hc]
  | .map id, hc => by simp only [C.ok, Nat.blt_eq] at hc; simp only [C.ren, h id hc]
theorem C.renL_ok {m : Nat} {π : Id → Id} (h : ∀ i : Id, i.1 < m → π i = i) : ∀ l : List C, C.okL m l = true → C.renL π l = l
  | [], _ => rfl
  | c :: r, hc => by
    simp only [C.okL, Bool.and_eq_true] at hc
    simp only [C.renL, C.ren_ok h c hc.1, C.renL_ok h r hc.2]
end
mutual
theorem T.ren_ok {m : Nat} {π : Id → Id} (h : ∀ i : Id, i.1 < m → π i = i) : ∀ t : T, t.ok m = true → t.ren π = t
  | .c x, hc => by simp only [T.ren, C.ren_ok h x hc]
  | .agg cs, hc => by simp only [T.ren, C.renL_ok h cs hc]
  | .tup ts, hc => by simp only [T.ren, T.renL_ok h ts hc]
  | .undef, _ => rfl
theorem T.renL_ok {m : Nat} {π : Id → Id} (h : ∀ i : Id, i.1 < m → π i = i) : ∀ l : List T, T.okL m l = true → T.renL π l = l
  | [], _ => rfl
  | x :: r, hc => by
    simp only [T.okL, Bool.and_eq_true] at hc
    simp only [T.renL, T.ren_ok h x hc.1, T.renL_ok h r hc.2]
end
theorem Blk.ok_mono {m n : Nat} (h : m ≤ n) (b : Blk) (hb : b.ok m = true) : b.ok n = true := by
  cases b with
  | cells k es => simp only [Blk.ok, List.all_eq_true] at hb ⊢; exact fun l hl => C.okL_mono h l (hb l hl)
  | obj p => rfl
theorem Blk.ren_ok {m : Nat} {π : Id → Id} (h : ∀ i : Id, i.1 < m → π i = i) (b : Blk) (hb : b.ok m = true) : b.ren π = b := by
  cases b with
  | cells k es =>
    simp only [Blk.ok, List.all_eq_true] at hb
    simp only [Blk.ren]
    congr 1
    conv => rhs; rw [← List.map_id es]
    exact List.map_congr_left fun l hl => C.renL_ok h l (hb l hl)
  | obj p => rfl

theorem RelC.ok {w : World} {φ : Phi} {σ : Store} {A : Nat → Prop} {c : C} {v : Value} (h : RelC w φ σ A c v) : c.ok σ.length = true := by
  induction h with
  | imm h => rfl
  | own hid _ _ => simpa [C.ok] using hid
  | ptr hid _ _ => simpa [C.ok] using hid
  | fn us hr ih =>
    simp only [C.ok, okL_eq, List.all_eq_true]
    intro x hx
    obtain ⟨i, hi⟩ := List.getElem?_of_mem hx
    exact ih i x hi
  | ifcA us hr ih =>
    simp only [C.ok, okL_eq, List.all_eq_true]
    intro x hx
    obtain ⟨i, hi⟩ := List.getElem?_of_mem hx
    exact ih i x hi
  | ifc1 hr ih => simp only [C.ok, C.okL, ih, Bool.and_self]
  | map hid _ _ => simpa [C.ok] using hid

theorem RelT.ok {w : World} {φ : Phi} {σ : Store} {A : Nat → Prop} {t : T} {v : Value} (h : RelT w φ σ A t v) : t.ok σ.length = true := by
  induction h with
  | c h => exact h.ok
  | agg us hr =>
    simp only [T.ok, okL_eq, List.all_eq_true]
    intro x hx
    obtain ⟨i, hi⟩ := List.getElem?_of_mem hx
    exact (hr i x hi).ok
  | tup us hr ih =>
    simp only [T.ok, TokL_eq, List.all_eq_true]
    intro x hx
    obtain ⟨i, hi⟩ := List.getElem?_of_mem hx
    exact ih i x hi
  | undef => rfl

theorem StR.okB {w : World} {φ : Phi} {σ : Store} {A : Nat → Prop} (h : StR w φ σ A) {i : Id} {b : Blk} (hi : σ[i]? = some (some b)) : b.ok σ.length = true := by
  have hb := h.blk i b hi
  cases b with
  | obj p => rfl
  | cells k es =>
    simp only [Blk.ok, List.all_eq_true, okL_eq]
    intro l hl x hx
    rcases hb with ⟨_, h2⟩ | ⟨b, base, arr, ety, h1, h2, h3, h4, h5⟩
    · subst h2; simp at hl
    · obtain ⟨j, hj⟩ := List.getElem?_of_mem hl
      obtain ⟨o, ho⟩ := List.getElem?_of_mem hx
      obtain ⟨u, _, hr⟩ := h5 j l o x hj ho
      exact hr.ok

/-- A call that is handed nothing to write, and of whose own blocks only one is kept (or none). -/
theorem AOps.callK {x : Operand} {as : List Operand} {ats : Array TypeId} {f : FuncId} {caps : List C} {ts : List T} {Qc : T → Store → Prop} (hx : ev env x = some (.c (.fn f caps))) (ha : evs env as = some ts) (hok : T.okL 0 (ts ++ caps.map T.c) = true) (hd : dstOk sz dst = true)
    (hf : FnOk P f (ts ++ caps.map T.c) [] Qc) (r : T) (τ : Store) (hτ : ∀ (i : Id) (b : Blk), τ[i]? = some (some b) → b.ok (σv.length + τ.length) = true)
    (hq : ∀ r' σ', Qc r' σ' → ∃ (π : Id → Id), (∀ i : Id, i.1 < σv.length → π i = i) ∧ (∀ (i j : Id) (b b' : Blk), (σv ++ τ)[i]? = some (some b) → (σv ++ τ)[j]? = some (some b') → π i = π j → i = j) ∧ r.ok (σv.length + τ.length) = true ∧ r.ren π = r'.ren (sh σv.length) ∧
      ∀ (i : Id) (b : Blk), τ[i]? = some (some b) → σv.length ≤ (π (sh σv.length i)).1 ∧ (σ'[unsh σv.length (π (sh σv.length i))]?).map (Option.map (Blk.ren (sh σv.length))) = some (some (b.ren π)))
    (h : AOps P σ0 sz ops Q rest (St.mk (putE env dst r) (σv ++ τ))) :
    AOps P σ0 sz ops Q (⟨dst, .call ⟨.value x, as.toArray, ats⟩, ty, pos, after, none⟩ :: rest) (St.mk env σv) := fun Γ φ a w hΓ hR =>
  wpList_plain rfl fun K hK => by
    obtain ⟨vs, h1, h2, h3⟩ := call_enter (P := P) (dst := dst) (ty := ty) (pos := pos) (after := after) (ats := ats) hR hx ha hf.fn
    unfold Oper.wp
    rw [h1, Oper.upon_enter]
    refine (hf.run (Γ.bare φ σv w) vs rfl (good_bare Γ φ σv w) h2 (fun i t u hi hu => ?_)).mono ?_
    · have hb : Back w φ (fun _ => none) σv [] (Al Γ.N φ σv) (Al (Γ.bare φ σv w).N (fun _ => none) []) (fun i => i) := ⟨fun b hb _ => bare_al hb, fun i b hi => by simp at hi⟩
      rw [TokL_eq, List.all_eq_true] at hok
      exact (show RelT w φ σv (Al Γ.N φ σv) (t.ren fun i => i) u by rw [T.ren_id]; exact h3 i t u hi hu).back hb (hok t (List.mem_of_getElem? hi))
    · rintro e w' ⟨v, r', σ', φ', rfl, hqc, hr, hs⟩
      obtain ⟨hK1, hF, hR1⟩ := hR.toRs.upBare hs
      obtain ⟨π, p1, p2, p4, p5, p6⟩ := hq r' σ' hqc
      have hR2 := (hR.of hK1 hR1).put hd (hr.fwd hF)
      have hsub : Sub Γ.σ0 (St.put ⟨env, σv ++ σ'.mapB (Blk.ren (sh σv.length))⟩ dst (r'.ren (sh σv.length))) ⟨putE env dst r, σv ++ τ⟩ := by
        have hok0 : ∀ (t : Nat) (v : T), lookup t env = some v → v.ok σv.length = true := fun t v ht => by
          obtain ⟨u, _, hr⟩ := hR.env t v ht
          exact hr.ok
        have hlen := hR.kept.len
        refine Sub.mk π (fun i hi => p1 i (Nat.lt_of_lt_of_le hi hlen)) (by simp; exact Nat.le_trans hlen (Nat.le_add_right _ _)) (fun i j b b' hi hj he => p2 i j b b' hi hj he) (fun i b hi => ?_) (fun t v ht => ?_)
        · dsimp only at hi ⊢
          rcases Nat.lt_or_ge i.1 σv.length with hin | hin
          · rw [Store.get_left hin] at hi
            have hb := hR.st.okB hi
            refine ⟨Blk.ok_mono (by simp) b hb, ?_⟩
            rw [p1 i hin, Blk.ren_ok p1 b hb]
            simp only [St.put]
            rw [Store.get_left hin]; exact hi
          · rw [Store.get_right hin] at hi
            refine ⟨by rw [List.length_append]; exact hτ _ b hi, ?_⟩
            obtain ⟨hge, hp⟩ := p6 _ b hi
            have e : sh σv.length (i.1 - σv.length, i.2) = i := sh_unsh hin
            rw [e] at hge hp
            simp only [St.put]
            rw [Store.get_right hge, Store.get_map]
            exact hp
        · simp only [St.put]
          have rest : ∀ v, lookup t env = some v → v.ok (σv ++ τ).length = true ∧ lookup t env = some (v.ren π) := fun v hv => by
            have hb := hok0 t v hv
            exact ⟨T.ok_mono (by simp) v hb, by rw [T.ren_ok p1 v hb]; exact hv⟩
          cases hdst : dst with
          | none => rw [hdst] at ht; exact rest v ht
          | some d =>
            rw [hdst] at ht
            simp only [putE, lookup] at ht ⊢
            split at ht
            · cases ht
              exact ⟨by simpa using p4, by rw [p5]⟩
            · exact rest v ht
      obtain ⟨φ2, hR3⟩ := hsub Γ sz _ _ _ rfl hR2
      exact hK _ _ (h Γ φ2 _ w' hΓ hR3)

/-- A function that only computes: it hands back r, whatever it is called in. -/
def PureOk (P : Program) (f : FuncId) (args : List T) (r : T) : Prop := FnOk P f args [] fun r' _ => r' = r

theorem AOps.callR {x : Operand} {as : List Operand} {ats : Array TypeId} {f : FuncId} {caps : List C} {ts : List T} {r : T} (hx : ev env x = some (.c (.fn f caps))) (ha : evs env as = some ts) (hok : T.okL 0 (ts ++ caps.map T.c) = true) (hd : dstOk sz dst = true)
    (hf : PureOk P f (ts ++ caps.map T.c) r) (hr : r.ok 0 = true) (h : AOps P σ0 sz ops Q rest (St.mk (putE env dst r) σv)) :
    AOps P σ0 sz ops Q (⟨dst, .call ⟨.value x, as.toArray, ats⟩, ty, pos, after, none⟩ :: rest) (St.mk env σv) :=
  .callK hx ha hok hd hf r [] (fun i b hi => by simp at hi) (fun r' σ' h1 => by
    subst h1
    refine ⟨fun i => i, fun _ _ => rfl, fun i j _ _ _ _ h => h, T.ok_mono (by simp) r' hr, ?_, fun i b hi => by simp at hi⟩
    rw [T.ren_id, T.ren_ok (m := 0) (fun i hi => by omega) r' hr]) (by rw [List.append_nil]; exact h)

/-- The store of a block whose cells never change again unless it is written itself. -/
def Blk.im (k : Nat) (es : List (List I)) : Blk := .cells k (es.map (·.map .imm))

theorem renL_imm (π : Id → Id) (l : List I) : C.renL π (l.map .imm) = l.map .imm := by
  induction l with
  | nil => rfl
  | cons x l ih => simp only [List.map_cons, C.renL, C.ren, ih]

theorem Blk.im_ren (π : Id → Id) (k : Nat) (es : List (List I)) : (Blk.im k es).ren π = Blk.im k es := by
  simp only [Blk.im, Blk.ren, List.map_map]
  congr 1
  exact List.map_congr_left fun l _ => renL_imm π l

theorem okL_imm (m : Nat) (l : List I) : C.okL m (l.map .imm) = true := by
  induction l with
  | nil => rfl
  | cons x l ih => simp only [List.map_cons, C.okL, C.ok, ih, Bool.and_self]

theorem Blk.im_ok (m k : Nat) (es : List (List I)) : (Blk.im k es).ok m = true := by
  simp only [Blk.im, Blk.ok, List.all_map, List.all_eq_true]
  exact fun l _ => okL_imm m l

/-- A function that hands back a new slice of its own. -/
def FreshOk (P : Program) (f : FuncId) (args : List T) (k : Nat) (es : List (List I)) : Prop := FnOk P f args [] fun r' σ' => ∃ id, r' = .c (.own id 0 es.length) ∧ σ'[id]? = some (some (Blk.im k es))

theorem AOps.fresh {x : Operand} {as : List Operand} {ats : Array TypeId} {f : FuncId} {caps : List C} {ts : List T} {k : Nat} {es : List (List I)} (hx : ev env x = some (.c (.fn f caps))) (ha : evs env as = some ts) (hok : T.okL 0 (ts ++ caps.map T.c) = true) (hd : dstOk sz dst = true)
    (hf : FreshOk P f (ts ++ caps.map T.c) k es) (h : AOps P σ0 sz ops Q rest (St.mk (putE env dst (.c (.own (σv.length, []) 0 es.length))) (σv ++ [.one (Blk.im k es)]))) :
    AOps P σ0 sz ops Q (⟨dst, .call ⟨.value x, as.toArray, ats⟩, ty, pos, after, none⟩ :: rest) (St.mk env σv) :=
  .callK hx ha hok hd hf (.c (.own (σv.length, []) 0 es.length)) [.one (Blk.im k es)] (fun i b hi => by
      rcases Store.get_new (σ := []) hi with ⟨h1, _⟩ | ⟨_, rfl⟩
      · simp at h1
      · exact Blk.im_ok _ k es) (fun r' σ' h1 => by
    obtain ⟨id, rfl, hid⟩ := h1
    refine ⟨fun i => if i.1 < σv.length then i else sh σv.length id, fun i hi => if_pos hi, fun i j b b' hi hj he => ?_, by simp [T.ok, C.ok], ?_, fun i b hi => ?_⟩
    · dsimp only at he
      rcases Store.get_new hi with ⟨l1, _⟩ | ⟨rfl, _⟩ <;> rcases Store.get_new hj with ⟨l2, _⟩ | ⟨rfl, _⟩
      · rwa [if_pos l1, if_pos l2] at he
      · rw [if_pos l1, if_neg (Nat.lt_irrefl _)] at he
        rw [he] at l1
        simp [sh] at l1
        omega
      · rw [if_pos l2, if_neg (Nat.lt_irrefl _)] at he
        rw [← he] at l2
        simp [sh] at l2
        omega
      · rfl
    · simp only [T.ren, C.ren]
      rw [if_neg (Nat.lt_irrefl _)]
    · rcases Store.get_new (σ := []) hi with ⟨h1, _⟩ | ⟨rfl, rfl⟩
      · simp at h1
      · have e : ¬ (sh σv.length (([] : Store).length, [])).1 < σv.length := by simp [sh]
        simp only [if_neg e]
        refine ⟨by simp [sh], ?_⟩
        rw [unsh_sh, hid]
        simp only [Option.map_some, Blk.im_ren]) h

/-! ### What is owned ceases to change -/

def lbeq : List Nat → List Nat → Bool
  | [], [] => true
  | a :: l, b :: m => Nat.beq a b && lbeq l m
  | _, _ => false
/-- The same name. -/
def idb (i j : Id) : Bool := Nat.beq i.1 j.1 && lbeq i.2 j.2
theorem lbeq_iff : ∀ {l m : List Nat}, lbeq l m = true ↔ l = m
  | [], [] => by simp [lbeq]
  | [], _ :: _ => by simp [lbeq]
  | _ :: _, [] => by simp [lbeq]
  | a :: l, b :: m => by simp [lbeq, lbeq_iff]
theorem idb_iff {i j : Id} : idb i j = true ↔ i = j := by
  obtain ⟨a, l⟩ := i
  obtain ⟨b, m⟩ := j
  simp [idb, lbeq_iff]
theorem idb_ne {i j : Id} (h : i ≠ j) : idb i j = false := by
  cases hb : idb i j with
  | false => rfl
  | true => exact absurd (idb_iff.1 hb) h

mutual
/-- The views of block id become what never changes. -/
def C.frz (id : Id) (k : Nat) (es : List (List I)) : C → C
  | .imm x => .imm x
  | .own i j n => if idb i id = true then .imm (.sl k ((es.drop j).take n)) else .own i j n
  | .ptr i j o => if idb i id = true then (match es[j]? with | some e => .imm (.ipt (e.drop o)) | none => .ptr i j o) else .ptr i j o
  | .fn f caps => .fn f (C.frzL id k es caps)
  | .ifc t cs b => .ifc t (C.frzL id k es cs) b
  | .map i => .map i
def C.frzL (id : Id) (k : Nat) (es : List (List I)) : List C → List C
  | [] => []
  | c :: r => C.frz id k es c :: C.frzL id k es r
end
mutual
def T.frz (id : Id) (k : Nat) (es : List (List I)) : T → T
  | .c x => .c (x.frz id k es)
  | .agg cs => .agg (C.frzL id k es cs)
  | .tup ts => .tup (T.frzL id k es ts)
  | .undef => .undef
def T.frzL (id : Id) (k : Nat) (es : List (List I)) : List T → List T
  | [] => []
  | t :: r => T.frz id k es t :: T.frzL id k es r
end
theorem frzL_eq (id : Id) (k : Nat) (es : List (List I)) : ∀ l : List C, C.frzL id k es l = l.map (C.frz id k es)
  | [] => rfl
  | c :: r => by rw [C.frzL, frzL_eq id k es r]; rfl
theorem TfrzL_eq (id : Id) (k : Nat) (es : List (List I)) : ∀ l : List T, T.frzL id k es l = l.map (T.frz id k es)
  | [] => rfl
  | c :: r => by rw [T.frzL, TfrzL_eq id k es r]; rfl

/-- What a view of the block shows, once it never changes. -/
theorem RelC.frz {Γ : Cx} {σ : Store} {φ : Phi} {w : World} (hs : Rs Γ σ φ w) {id : Id} {k : Nat} {es : List (List I)} (hσ : σ[id]? = some (some (Blk.im k es))) {A' : Nat → Prop} (hK : Kept w w φ φ σ (σ.put id none) (Al Γ.N φ σ) A') (hA : ∀ b base, φ id = some (b, base) → A' b)
    {c : C} {v : Value} (h : RelC w φ σ (Al Γ.N φ σ) c v) : RelC w φ (σ.put id none) A' (c.frz id k es) v := by
  induction h with
  | imm h => exact RelC.mono hK (.imm h)
  | @own i j n v hid h1 h =>
    simp only [C.frz]
    split
    · rename_i e
      have e' := idb_iff.1 e
      subst e'
      have hv := h k _ hσ
      rcases hv with ⟨g1, g2, g3, g4⟩ | ⟨b, base, cap, arr, ety, ad, hp, hv, had, hcap, hmax, hjn, hbk, hsz⟩
      · subst g2 g3 g4
        simpa using RelC.imm (.slNil)
      · subst hv
        rw [List.length_map] at hjn
        have hb := hs.st.blk _ _ hσ
        rcases hb with ⟨h2, _⟩ | ⟨b', base', arr', ety', h2, h3, h4, h5, h6⟩
        · rw [hp] at h2; cases h2
        rw [hp] at h2; cases h2
        rw [hbk] at h3; cases h3
        have hlen : ((es.drop j).take n).length = n := by simp; omega
        have get : ∀ (i : Nat) (e : List I), ((es.drop j).take n)[i]? = some e → i < n ∧ es[j + i]? = some e := fun i e he => by
          rw [List.getElem?_take] at he
          split at he
          · rw [List.getElem?_drop] at he; exact ⟨‹_›, he⟩
          · cases he
        have cell : ∀ (i : Nat) (e : List I) (o : Nat) (x : I), ((es.drop j).take n)[i]? = some e → e[o]? = some x → ∃ u, arr[base + ((j + i) * k + o)]? = some u ∧ RelI w A' x u := fun i e o x he hx => by
          obtain ⟨hi, he'⟩ := get i e he
          obtain ⟨u, hu, hr⟩ := h6 (j + i) (e.map .imm) o (.imm x) (by simp [he']) (by simp [hx])
          cases hr with | imm hr => exact ⟨u, hu, hr.mono (fun _ _ _ => rfl) hK.all⟩
        have : RelI w A' (.sl k ((es.drop j).take n)) (.slice (some ad) ((es.drop j).take n).length cap) := by
          refine .sl (fun i o => (arr[base + ((j + i) * k + o)]?).getD Go.undef) (by omega) hmax (fun i e he => ?_) (fun i e o x he hx => ?_) (fun i e o x he hx => ?_)
          · have := h5 (j + i) (e.map .imm) (by simp [(get i e he).2])
            simpa using this
          · obtain ⟨u, hu, hr⟩ := cell i e o x he hx
            have hn : 0 < cap := by have := (get i e he).1; omega
            rw [had hn, add_none, cell_of hbk, hu]
            refine ⟨hA b base hp, ?_⟩
            rw [show base + j * k + (i * k + o) = base + ((j + i) * k + o) by rw [Nat.add_mul]; omega]
            exact hu
          · obtain ⟨u, hu, hr⟩ := cell i e o x he hx
            rw [hu]; exact hr
        rw [hlen] at this
        exact .imm this
    · rename_i e
      exact RelC.mono hK (.own hid h1 h)
  | @ptr i j o v hid h1 h =>
    simp only [C.frz]
    split
    · rename_i e
      have e' := idb_iff.1 e
      subst e'
      split
      · rename_i e he
        obtain ⟨b, base, hp, hv⟩ := h k _ hσ
        subst hv
        have hb := hs.st.blk _ _ hσ
        rcases hb with ⟨h2, _⟩ | ⟨b', base', arr', ety', h2, h3, h4, h5, h6⟩
        · rw [hp] at h2; cases h2
        rw [hp] at h2; cases h2
        have cell : ∀ (q : Nat) (x : I), (e.drop o)[q]? = some x → ∃ u, arr'[base + (j * k + (o + q))]? = some u ∧ RelI w A' x u := fun q x hx => by
          rw [List.getElem?_drop] at hx
          obtain ⟨u, hu, hr⟩ := h6 j (e.map .imm) (o + q) (.imm x) (by simp [he]) (by simp [hx])
          cases hr with | imm hr => exact ⟨u, hu, hr.mono (fun _ _ _ => rfl) hK.all⟩
        refine .imm (.ipt (fun q => (arr'[base + (j * k + (o + q))]?).getD Go.undef) (fun q x hx => ?_) (fun q x hx => ?_))
        · obtain ⟨u, hu, hr⟩ := cell q x hx
          rw [add_none, cell_of h3, hu]
          refine ⟨hA b base hp, ?_⟩
          rw [show base + (j * k + o) + q = base + (j * k + (o + q)) by omega]
          exact hu
        · obtain ⟨u, hu, hr⟩ := cell q x hx
          rw [hu]; exact hr
      · exact RelC.mono hK (.ptr hid h1 h)
    · exact RelC.mono hK (.ptr hid h1 h)
  | @fn f caps us hr ih =>
    have e : (C.frzL id k es caps).length = caps.length := by rw [frzL_eq]; simp
    simp only [C.frz]
    rw [← e]
    refine .fn us fun i c hi => ?_
    rw [frzL_eq, List.getElem?_map, Option.map_eq_some_iff] at hi
    obtain ⟨x, hx, rfl⟩ := hi
    exact ih i x hx
  | @ifcA t cs us hr ih =>
    have e : (C.frzL id k es cs).length = cs.length := by rw [frzL_eq]; simp
    simp only [C.frz]
    rw [← e]
    refine .ifcA us fun i c hi => ?_
    rw [frzL_eq, List.getElem?_map, Option.map_eq_some_iff] at hi
    obtain ⟨x, hx, rfl⟩ := hi
    exact ih i x hx
  | ifc1 hr ih => exact .ifc1 ih
  | map hid h1 h => exact RelC.mono hK (.map hid h1 h)

theorem RelT.frz {Γ : Cx} {σ : Store} {φ : Phi} {w : World} (hs : Rs Γ σ φ w) {id : Id} {k : Nat} {es : List (List I)} (hσ : σ[id]? = some (some (Blk.im k es))) {A' : Nat → Prop} (hK : Kept w w φ φ σ (σ.put id none) (Al Γ.N φ σ) A') (hA : ∀ b base, φ id = some (b, base) → A' b)
    {c : T} {v : Value} (h : RelT w φ σ (Al Γ.N φ σ) c v) : RelT w φ (σ.put id none) A' (c.frz id k es) v := by
  induction h with
  | c h => exact .c (h.frz hs hσ hK hA)
  | @agg cs us hr =>
    have e : (C.frzL id k es cs).length = cs.length := by rw [frzL_eq]; simp
    simp only [T.frz]
    rw [← e]
    refine .agg us fun i c hi => ?_
    rw [frzL_eq, List.getElem?_map, Option.map_eq_some_iff] at hi
    obtain ⟨x, hx, rfl⟩ := hi
    exact (hr i x hx).frz hs hσ hK hA
  | @tup ts us hr ih =>
    have e : (T.frzL id k es ts).length = ts.length := by rw [TfrzL_eq]; simp
    simp only [T.frz]
    rw [← e]
    refine .tup us fun i c hi => ?_
    rw [TfrzL_eq, List.getElem?_map, Option.map_eq_some_iff] at hi
    obtain ⟨x, hx, rfl⟩ := hi
    exact ih i x hx
  | undef => exact .undef

def Blk.frz (id : Id) (k : Nat) (es : List (List I)) : Blk → Blk
  | .cells k' es' => .cells k' (es'.map (C.frzL id k es))
  | .obj p => .obj p

/-- A block that this call has made ceases to change: in every slot, and in every other block. -/
def St.frz (s : St) (id : Id) (k : Nat) (es : List (List I)) : St := ⟨s.env.map fun p => (p.1, p.2.frz id k es), (s.σ.put id none).mapB (Blk.frz id k es)⟩

theorem lookup_map (f : T → T) (t : Nat) : ∀ env : Env, lookup t (env.map fun p => (p.1, f p.2)) = (lookup t env).map f
  | [] => rfl
  | (k, v) :: r => by
    simp only [List.map_cons, lookup]
    split
    · rfl
    · exact lookup_map f t r


theorem Sub.frz {σ0 : Store} {s : St} (id : Id) (k : Nat) (es : List (List I)) (hid : σ0.length ≤ id.1) (hσ : s.σ[id]? = some (some (Blk.im k es))) : Sub σ0 s (s.frz id k es) := by
  intro Γ sz φ a w hΓ hR
  subst hΓ
  obtain ⟨hK, hR1⟩ := hR.toRs.kill id
  generalize hσ1 : s.σ.put id none = σ1 at hK hR1
  have hfs : (s.frz id k es).σ = σ1.mapB (Blk.frz id k es) := by rw [← hσ1]; rfl
  generalize hσ2 : σ1.mapB (Blk.frz id k es) = σ2 at hfs
  have at_ : ∀ (i : Id) (b : Blk), σ2[i]? = some (some b) → ∃ b0 : Blk, σ1[i]? = some (some b0) ∧ b = b0.frz id k es := fun i b hi => by
    rw [← hσ2] at hi
    exact Store.get_map_some hi
  have from0 : ∀ (i : Id) b, σ1[i]? = some (some b) → i ≠ id ∧ s.σ[i]? = some (some b) := fun i b h => by
    rw [← hσ1] at h
    exact Store.get_kill h
  have A2 : ∀ b, Al Γ.N φ σ1 b → Al Γ.N φ σ2 b := fun b hb => ⟨hb.1, fun i blk base hi => by
    obtain ⟨b0, h1, _⟩ := at_ i blk hi
    exact hb.2 i b0 base h1⟩
  have hK2 : Kept w w φ φ σ1 σ2 (Al Γ.N φ σ1) (Al Γ.N φ σ2) :=
    { imm := fun _ _ _ => rfl, all := fun b hb _ => A2 b hb, len := by rw [← hσ2]; simp,
      cells := fun i kk es' hi he => by
        obtain ⟨b0, h1, h2⟩ := at_ i _ he
        cases b0 with
        | obj p => cases h2
        | cells k0 es0 =>
          simp only [Blk.frz, Blk.cells.injEq] at h2
          obtain ⟨rfl, rfl⟩ := h2
          exact ⟨es0, h1, by simp, rfl, fun b base arr ety hp hb => ⟨arr, hb, rfl⟩⟩,
      obj := fun i p' hi he => by
        obtain ⟨b0, h1, h2⟩ := at_ i _ he
        cases b0 with
        | cells k0 es0 => cases h2
        | obj p => exact ⟨rfl, p, h1⟩ }
  have hA : ∀ b base, φ id = some (b, base) → Al Γ.N φ σ1 b := fun b base hp => by
    refine ⟨fun hN => hR.keep id _ b base hσ hp ⟨hR.good.lt b hN, fun i blk bs hi hp' => hR.good.own i blk b bs hi hp' hN⟩, fun i blk bs hi hp' => ?_⟩
    obtain ⟨h1, h2⟩ := from0 i blk hi
    exact h1 (hR.st.inj i id blk _ _ _ h2 hσ hp' hp rfl)
  have hset : Kept w w φ φ s.σ (s.σ.put id none) (Al Γ.N φ s.σ) (Al Γ.N φ σ1) := by rw [hσ1]; exact hK
  have cv : ∀ {c : C} {v : Value}, RelC w φ s.σ (Al Γ.N φ s.σ) c v → RelC w φ σ2 (Al Γ.N φ σ2) (c.frz id k es) v := fun h => by
    have := h.frz hR.toRs hσ hset hA
    rw [hσ1] at this
    exact this.mono hK2
  refine ⟨φ, { good := hR.good, st := ?_, keep := ?_, os := hR.os, tape := hR.tape, output := hR.output, size := hR.size, block := hR.block, kept := ?_, defers := hR.defers, asize := hR.asize, env := fun t v ht => ?_ }⟩
  · rw [hfs]
    refine ⟨fun i b hi => ?_, fun i j bi bj p q hi hj => ?_⟩
    · obtain ⟨b0, h1, rfl⟩ := at_ i b hi
      have hb := hR.st.blk i b0 (from0 i b0 h1).2
      cases b0 with
      | obj p => exact hb
      | cells k0 es0 =>
        rcases hb with ⟨g1, g2⟩ | ⟨b, base, arr, ety, g1, g2, g3, g4, g5⟩
        · exact .inl ⟨g1, by subst g2; rfl⟩
        · refine .inr ⟨b, base, arr, ety, g1, g2, by simpa using g3, fun j e he => ?_, fun j e o x he hx => ?_⟩
          · simp only [List.getElem?_map, Option.map_eq_some_iff] at he
            obtain ⟨e0, he0, rfl⟩ := he
            rw [frzL_eq]; simpa using g4 j e0 he0
          · simp only [List.getElem?_map, Option.map_eq_some_iff] at he
            obtain ⟨e0, he0, rfl⟩ := he
            rw [frzL_eq] at hx
            simp only [List.getElem?_map, Option.map_eq_some_iff] at hx
            obtain ⟨x0, hx0, rfl⟩ := hx
            obtain ⟨u, hu, hr⟩ := g5 j e0 o x0 he0 hx0
            exact ⟨u, hu, cv hr⟩
    · obtain ⟨b1, h1, _⟩ := at_ i bi hi
      obtain ⟨b2, h2, _⟩ := at_ j bj hj
      exact hR.st.inj i j b1 b2 p q (from0 i b1 h1).2 (from0 j b2 h2).2
  · rw [hfs]
    intro i blk b base hi hp
    obtain ⟨b1, h1, _⟩ := at_ i blk hi
    exact hR.keep i b1 b base (from0 i b1 h1).2 hp
  · rw [hfs]
    exact Kept.trans hR.size hR.kept (Kept.trans (Nat.le_refl _) hK hK2)
  · rw [hfs]
    simp only [St.frz] at ht
    rw [lookup_map (fun v => v.frz id k es), Option.map_eq_some_iff] at ht
    obtain ⟨v0, h1, rfl⟩ := ht
    obtain ⟨u, hu, hr⟩ := hR.env t v0 h1
    refine ⟨u, hu, ?_⟩
    have := hr.frz hR.toRs hσ hset hA
    rw [hσ1] at this
    exact this.mono hK2

/-- A slot that holds nil: a block of its own that is not there yet. -/
theorem Sub.virt {σ0 : Store} {s : St} (t k : Nat) (ht : lookup t s.env = some (.c (.imm (.val (.slice none 0 0))))) : Sub σ0 s ⟨(t, .c (.own (s.σ.length, []) 0 0)) :: s.env, s.σ ++ [.one (.cells k [])]⟩ := by
  intro Γ sz φ a w hΓ hR
  obtain ⟨hK2, hR2⟩ := hR.toRs.virt k
  have h1 := hR.of hK2 hR2
  refine ⟨_, { toRs := h1.toRs, defers := h1.defers, asize := h1.asize, env := fun t' v hv => ?_ }⟩
  simp only [lookup] at hv
  split at hv
  · rename_i e
    have := Nat.eq_of_beq_eq_true e
    subst this
    cases hv
    obtain ⟨u, hu, hr⟩ := hR.env _ _ ht
    refine ⟨u, hu, ?_⟩
    rw [val_inv hr]
    exact cellOwn (k := k) (es := []) (Store.get_last _ _) rfl (.inl ⟨by simp, rfl, rfl, rfl⟩)
  · exact h1.env t' v hv

end
end Ab
