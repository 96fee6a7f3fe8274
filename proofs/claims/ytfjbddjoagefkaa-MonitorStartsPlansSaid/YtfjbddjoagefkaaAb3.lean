/-
  RENAMING OF BLOCKS; weakening; a function's contract; the two rules for a call.
-/
import Derived.Test.YtfjbddjoagefkaaAb2
namespace Ab
open Go

mutual
def C.ren (π : Id → Id) : C → C
  | .imm x => .imm x
  | .own id j n => .own (π id) j n
  | .ptr id j o => .ptr (π id) j o
  | .fn f caps => .fn f (C.renL π caps)
  | .ifc t cs b => .ifc t (C.renL π cs) b
  | .map id => .map (π id)
def C.renL (π : Id → Id) : List C → List C
  | [] => []
  | c :: r => C.ren π c :: C.renL π r
end

mutual
/-- All blocks that are named have numbers below m. -/
def C.ok (m : Nat) : C → Bool
  | .imm _ => true
  | .own id _ _ => Nat.blt id.1 m
  | .ptr id _ _ => Nat.blt id.1 m
  | .fn _ caps => C.okL m caps
  | .ifc _ cs _ => C.okL m cs
  | .map id => Nat.blt id.1 m
def C.okL (m : Nat) : List C → Bool
  | [] => true
  | c :: r => C.ok m c && C.okL m r
end

mutual
def T.ren (π : Id → Id) : T → T
  | .c x => .c (x.ren π)
  | .agg cs => .agg (C.renL π cs)
  | .tup ts => .tup (T.renL π ts)
  | .undef => .undef
def T.renL (π : Id → Id) : List T → List T
  | [] => []
  | t :: r => T.ren π t :: T.renL π r
end

mutual
def T.ok (m : Nat) : T → Bool
  | .c x => x.ok m
  | .agg cs => C.okL m cs
  | .tup ts => T.okL m ts
  | .undef => true
def T.okL (m : Nat) : List T → Bool
  | [] => true
  | t :: r => T.ok m t && T.okL m r
end

def Blk.ren (π : Id → Id) : Blk → Blk
  | .cells k es => .cells k (es.map (C.renL π))
  | .obj p => .obj p

def Blk.ok (m : Nat) : Blk → Bool
  | .cells _ es => es.all (C.okL m)
  | .obj _ => true

theorem renL_eq (π : Id → Id) : ∀ l : List C, C.renL π l = l.map (C.ren π)
  | [] => rfl
  | c :: r => by rw [C.renL, renL_eq π r]; rfl
theorem okL_eq (m : Nat) : ∀ l : List C, C.okL m l = l.all (C.ok m)
  | [] => rfl
  | c :: r => by rw [C.okL, okL_eq m r]; rfl
theorem TrenL_eq (π : Id → Id) : ∀ l : List T, T.renL π l = l.map (T.ren π)
  | [] => rfl
  | c :: r => by rw [T.renL, TrenL_eq π r]; rfl
theorem TokL_eq (m : Nat) : ∀ l : List T, T.okL m l = l.all (T.ok m)
  | [] => rfl
  | c :: r => by rw [T.okL, TokL_eq m r]; rfl

mutual
theorem C.ren_id : ∀ c : C, c.ren (fun i => i) = c
  | .imm _ => rfl
  | .own _ _ _ => rfl
  | .ptr _ _ _ => rfl
  | .fn f caps => by rw [C.ren, C.renL_id caps]
  | .ifc t cs b => by rw [C.ren, C.renL_id cs]
  | .map _ => rfl
theorem C.renL_id : ∀ l : List C, C.renL (fun i => i) l = l
  | [] => rfl
  | c :: r => by rw [C.renL, C.ren_id c, C.renL_id r]
end
mutual
theorem T.ren_id : ∀ c : T, c.ren (fun i => i) = c
  | .c x => by rw [T.ren, C.ren_id]
  | .agg cs => by rw [T.ren, C.renL_id]
  | .tup ts => by rw [T.ren, T.renL_id ts]
  | .undef => rfl
theorem T.renL_id : ∀ l : List T, T.renL (fun i => i) l = l
  | [] => rfl
  | x :: r => by rw [T.renL, T.ren_id x, T.renL_id r]
end
theorem Blk.ren_id (b : Blk) : b.ren (fun i => i) = b := by
  cases b with
  | cells k es =>
    simp only [Blk.ren]
    congr 1
    conv => rhs; rw [← List.map_id es]
    exact List.map_congr_left fun l _ => C.renL_id l
  | obj p => rfl

section
variable {w w' : World} {φ φ' : Phi} {σ σ' : Store} {A A' : Nat → Prop} {π : Id → Id}

/-- From the renamed store back to the names of the smaller one. -/
structure Back (w : World) (φ φ' : Phi) (σ σ' : Store) (A A' : Nat → Prop) (π : Id → Id) : Prop where
  all : ∀ b, A b → b < w.heap.size → A' b
  blk : ∀ (i : Id) b, i.1 < σ'.length → σ'[i]? = some (some b) → σ[π i]? = some (some (b.ren π)) ∧ φ' i = φ (π i)

theorem RelC.back (H : Back w φ φ' σ σ' A A' π) {c : C} {v : Value} (hok : c.ok σ'.length = true) (h : RelC w φ σ A (c.ren π) v) : RelC w φ' σ' A' c v := by
  generalize hc : c.ren π = c' at h
  induction h generalizing c with
  | imm h =>
    cases c <;> simp only [C.ren] at hc <;> cases hc
    exact .imm (h.mono (fun _ _ _ => rfl) H.all)
  | own hid h1 h =>
    cases c <;> simp only [C.ren] at hc <;> cases hc
    simp only [C.ok, Nat.blt_eq] at hok
    refine .own hok h1 fun k es he => ?_
    obtain ⟨hb, hp⟩ := H.blk _ _ hok he
    have := h k _ hb
    rw [hp]
    simpa using this
  | ptr hid h1 h =>
    cases c <;> simp only [C.ren] at hc <;> cases hc
    simp only [C.ok, Nat.blt_eq] at hok
    refine .ptr hok h1 fun k es he => ?_
    obtain ⟨hb, hp⟩ := H.blk _ _ hok he
    have := h k _ hb
    rw [hp]
    exact this
  | fn us hr ih =>
    cases c <;> simp only [C.ren] at hc <;> cases hc
    rename_i caps
    simp only [C.ok, okL_eq, List.all_eq_true] at hok
    have e : (C.renL π caps).length = caps.length := by rw [renL_eq]; simp
    rw [e]
    refine .fn us fun i c hi => ?_
    refine ih i (c.ren π) (by rw [renL_eq]; simp [hi]) (hok c (List.mem_of_getElem? hi)) rfl
  | ifcA us hr ih =>
    cases c <;> simp only [C.ren] at hc <;> cases hc
    rename_i caps
    simp only [C.ok, okL_eq, List.all_eq_true] at hok
    have e : (C.renL π caps).length = caps.length := by rw [renL_eq]; simp
    rw [e]
    refine .ifcA us fun i c hi => ?_
    refine ih i (c.ren π) (by rw [renL_eq]; simp [hi]) (hok c (List.mem_of_getElem? hi)) rfl
  | @ifc1 t c' u hr ih =>
    cases c with
    | ifc t2 cs b =>
      simp only [C.ren, C.ifc.injEq] at hc
      obtain ⟨rfl, h2, rfl⟩ := hc
      rw [renL_eq] at h2
      cases cs with
      | nil => simp at h2
      | cons x r =>
        cases r with
        | cons y r => simp at h2
        | nil =>
          simp only [List.map_cons, List.map_nil, List.cons.injEq, and_true] at h2
          simp only [C.ok, C.okL, Bool.and_true] at hok
          exact .ifc1 (ih hok h2)
    | _ => simp [C.ren] at hc
  | map hid h1 h =>
    cases c <;> simp only [C.ren] at hc <;> cases hc
    simp only [C.ok, Nat.blt_eq] at hok
    refine .map hok h1 fun p he => ?_
    obtain ⟨hb, hp⟩ := H.blk _ _ hok he
    rw [hp]
    exact h p hb

theorem RelT.back (H : Back w φ φ' σ σ' A A' π) {c : T} {v : Value} (hok : c.ok σ'.length = true) (h : RelT w φ σ A (c.ren π) v) : RelT w φ' σ' A' c v := by
  generalize hc : c.ren π = c' at h
  induction h generalizing c with
  | c h =>
    cases c <;> simp only [T.ren] at hc <;> cases hc
    exact .c (h.back H hok)
  | agg us hr =>
    cases c <;> simp only [T.ren] at hc <;> cases hc
    rename_i cs
    simp only [T.ok, okL_eq, List.all_eq_true] at hok
    have e : (C.renL π cs).length = cs.length := by rw [renL_eq]; simp
    rw [e]
    exact .agg us fun i c hi => (hr i (c.ren π) (by rw [renL_eq]; simp [hi])).back H (hok c (List.mem_of_getElem? hi))
  | tup us hr ih =>
    cases c <;> simp only [T.ren] at hc <;> cases hc
    rename_i ts
    simp only [T.ok, TokL_eq, List.all_eq_true] at hok
    have e : (T.renL π ts).length = ts.length := by rw [TrenL_eq]; simp
    rw [e]
    exact .tup us fun i c hi => ih i (c.ren π) (by rw [TrenL_eq]; simp [hi]) (hok c (List.mem_of_getElem? hi)) rfl
  | undef =>
    cases c <;> simp only [T.ren] at hc <;> cases hc
    exact .undef

/-- Forward, into a larger store. -/
structure Fwd (w : World) (φ φ' : Phi) (σ σ' : Store) (A A' : Nat → Prop) (π : Id → Id) : Prop where
  all : ∀ b, A b → b < w.heap.size → A' b
  blk : ∀ (i : Id), i.1 < σ.length → (π i).1 < σ'.length ∧ φ' (π i) = φ i ∧ ∀ b', σ'[π i]? = some (some b') → ∃ b, σ[i]? = some (some b) ∧ b' = b.ren π

theorem RelC.fwd (H : Fwd w φ φ' σ σ' A A' π) {c : C} {v : Value} (h : RelC w φ σ A c v) : RelC w φ' σ' A' (c.ren π) v := by
  induction h with
  | imm h => exact .imm (h.mono (fun _ _ _ => rfl) H.all)
  | own hid h1 h =>
    obtain ⟨g1, g2, g3⟩ := H.blk _ hid
    refine .own g1 h1 fun k es' he => ?_
    obtain ⟨b, hb, e⟩ := g3 _ he
    cases b with
    | obj p => simp [Blk.ren] at e
    | cells k2 es =>
      simp only [Blk.ren, Blk.cells.injEq] at e
      obtain ⟨rfl, rfl⟩ := e
      rw [g2]
      simpa using h k es hb
  | ptr hid h1 h =>
    obtain ⟨g1, g2, g3⟩ := H.blk _ hid
    refine .ptr g1 h1 fun k es' he => ?_
    obtain ⟨b, hb, e⟩ := g3 _ he
    cases b with
    | obj p => simp [Blk.ren] at e
    | cells k2 es =>
      simp only [Blk.ren, Blk.cells.injEq] at e
      obtain ⟨rfl, rfl⟩ := e
      rw [g2]
      exact h k es hb
  | @fn f caps us hr ih =>
    have e : (C.renL π caps).length = caps.length := by rw [renL_eq]; simp
    simp only [C.ren]
    rw [← e]
    refine .fn us fun i c hi => ?_
    rw [renL_eq, List.getElem?_map, Option.map_eq_some_iff] at hi
    obtain ⟨x, hx, rfl⟩ := hi
    exact ih i x hx
  | @ifcA f caps us hr ih =>
    have e : (C.renL π caps).length = caps.length := by rw [renL_eq]; simp
    simp only [C.ren]
    rw [← e]
    refine .ifcA us fun i c hi => ?_
    rw [renL_eq, List.getElem?_map, Option.map_eq_some_iff] at hi
    obtain ⟨x, hx, rfl⟩ := hi
    exact ih i x hx
  | ifc1 hr ih => exact .ifc1 ih
  | map hid h1 h =>
    obtain ⟨g1, g2, g3⟩ := H.blk _ hid
    refine .map g1 h1 fun p he => ?_
    obtain ⟨b, hb, e⟩ := g3 _ he
    cases b with
    | cells k2 es => simp [Blk.ren] at e
    | obj q =>
      simp only [Blk.ren, Blk.obj.injEq] at e
      subst e
      rw [g2]
      exact h p hb

theorem RelT.fwd (H : Fwd w φ φ' σ σ' A A' π) {c : T} {v : Value} (h : RelT w φ σ A c v) : RelT w φ' σ' A' (c.ren π) v := by
  induction h with
  | c h => exact .c (h.fwd H)
  | @agg cs us hr =>
    have e : (C.renL π cs).length = cs.length := by rw [renL_eq]; simp
    simp only [T.ren]
    rw [← e]
    refine .agg us fun i c hi => ?_
    rw [renL_eq, List.getElem?_map, Option.map_eq_some_iff] at hi
    obtain ⟨x, hx, rfl⟩ := hi
    exact (hr i x hx).fwd H
  | @tup ts us hr ih =>
    have e : (T.renL π ts).length = ts.length := by rw [TrenL_eq]; simp
    simp only [T.ren]
    rw [← e]
    refine .tup us fun i c hi => ?_
    rw [TrenL_eq, List.getElem?_map, Option.map_eq_some_iff] at hi
    obtain ⟨x, hx, rfl⟩ := hi
    exact ih i x hx
  | undef => exact .undef
end

/-! ## Weakening -/

theorem Al.own_lt {w : World} {φ : Phi} {σ : Store} {A : Nat → Prop} (h : StR w φ σ A) {i : Id} {blk : Blk} {b base : Nat} (hi : σ[i]? = some (some blk)) (hp : φ i = some (b, base)) : b < w.heap.size := by
  have hb := h.blk i blk hi
  have lt : ∀ {o : Obj}, w.heap[b]? = some o → b < w.heap.size := fun h => (Array.getElem?_eq_some_iff.1 h).1
  cases blk with
  | cells k es =>
    rcases hb with ⟨h1, _⟩ | ⟨b', base', arr, ety, h1, h2, _⟩
    · rw [hp] at h1; cases h1
    · rw [hp] at h1; cases h1; exact lt h2
  | obj p =>
    obtain ⟨b', o, h1, h2, _⟩ := hb
    rw [hp] at h1; cases h1; exact lt h2

/-- Weakening with other names: π says what each block of the weaker state was called. -/
theorem Sub.mk {σ0 : Store} {s s' : St} (π : Id → Id) (h0 : ∀ i, i.1 < σ0.length → π i = i) (hlen : σ0.length ≤ s'.σ.length)
    (hinj : ∀ (i j : Id) b b', s'.σ[i]? = some (some b) → s'.σ[j]? = some (some b') → π i = π j → i = j)
    (hst : ∀ (i : Id) b, s'.σ[i]? = some (some b) → b.ok s'.σ.length = true ∧ s.σ[π i]? = some (some (b.ren π)))
    (henv : ∀ t v, lookup t s'.env = some v → v.ok s'.σ.length = true ∧ lookup t s.env = some (v.ren π)) : Sub σ0 s s' := by
  intro Γ sz φ a w hΓ hR
  subst hΓ
  have hA : ∀ b, Al Γ.N φ s.σ b → Al Γ.N (fun i => φ (π i)) s'.σ b := fun b ⟨h1, h2⟩ => ⟨h1, fun i blk base hi => h2 (π i) _ base (hst i blk hi).2⟩
  have H : Back w φ (fun i => φ (π i)) s.σ s'.σ (Al Γ.N φ s.σ) (Al Γ.N (fun i => φ (π i)) s'.σ) π := ⟨fun b h _ => hA b h, fun i b _ hi => ⟨(hst i b hi).2, rfl⟩⟩
  have okC : ∀ {m k : Nat} {es : List (List C)} {j o : Nat} {e : List C} {x : C}, (Blk.cells k es).ok m = true → es[j]? = some e → e[o]? = some x → x.ok m = true := by
    intro m k es j o e x h1 h2 h3
    simp only [Blk.ok, List.all_eq_true] at h1
    have := h1 e (List.mem_of_getElem? h2)
    rw [okL_eq, List.all_eq_true] at this
    exact this x (List.mem_of_getElem? h3)
  refine ⟨fun i => φ (π i), { good := hR.good, st := ⟨fun i b hi => ?_, fun i j bi bj p q hi hj hp hq he => ?_⟩, keep := fun i blk b base hi hp => hR.keep (π i) _ b base (hst i blk hi).2 hp, os := hR.os, tape := hR.tape, output := hR.output, size := hR.size, block := hR.block, kept := ?_, defers := hR.defers, asize := hR.asize, env := fun t v ht => ?_ }⟩
  · obtain ⟨ho, hs⟩ := hst i b hi
    have hb := hR.st.blk _ _ hs
    cases b with
    | cells k es =>
      simp only [Blk.ren] at hb hs
      rcases hb with ⟨h1, h2⟩ | ⟨b, base, arr, ety, h1, h2, h3, h4, h5⟩
      · exact .inl ⟨h1, by simpa using h2⟩
      · refine .inr ⟨b, base, arr, ety, h1, h2, by simpa using h3, fun j e he => ?_, fun j e o x he hx => ?_⟩
        · have := h4 j (C.renL π e) (by simp [he])
          rw [renL_eq] at this; simpa using this
        · obtain ⟨u, hu, hr⟩ := h5 j (C.renL π e) o (x.ren π) (by simp [he]) (by rw [renL_eq]; simp [hx])
          exact ⟨u, hu, hr.back H (okC (k := k) ho he hx)⟩
    | obj p => exact hb
  · exact hinj i j bi bj hi hj (hR.st.inj _ _ _ _ p q (hst i bi hi).2 (hst j bj hj).2 hp hq he)
  · have hk := hR.kept
    refine ⟨hk.imm, fun b hb hl => hA b (hk.all b hb hl), hlen, fun i k es' hi he => ?_, fun i p' hi he => ?_⟩
    · have h1 := (hst i _ he).2
      rw [h0 i hi] at h1
      obtain ⟨es, g1, g2, g3, g4⟩ := hk.cells i k _ hi h1
      exact ⟨es, g1, by simpa using g2, by simpa [h0 i hi] using g3, g4⟩
    · have h1 := (hst i _ he).2
      rw [h0 i hi] at h1
      obtain ⟨g1, g2⟩ := hk.obj i _ hi h1
      exact ⟨by simpa [h0 i hi] using g1, g2⟩
  · obtain ⟨ho, hl⟩ := henv t v ht
    obtain ⟨u, hu, hr⟩ := hR.env t _ hl
    exact ⟨u, hu, hr.back H ho⟩

/-- Every slot of the second environment reads so in the first one. -/
def SubEnv (env : Env) : Env → Prop
  | [] => True
  | (t, v) :: r => lookup t env = some v ∧ SubEnv env r

theorem SubEnv.get {env : Env} : ∀ {env' : Env}, SubEnv env env' → ∀ t v, lookup t env' = some v → lookup t env = some v
  | [], _, t, v, h => by simp [lookup] at h
  | (k, x) :: r, ⟨h1, h2⟩, t, v, h => by
    simp only [lookup] at h
    split at h
    · rename_i he; cases h; rw [← Nat.eq_of_beq_eq_true he]; exact h1
    · exact SubEnv.get h2 t v h

/-- Slots are forgotten; the store stays. -/
theorem Sub.env {σ0 : Store} {env env' : Env} {σ : Store} (h : SubEnv env env') : Sub σ0 ⟨env, σ⟩ ⟨env', σ⟩ := fun _ _ φ _ _ _ hR =>
  ⟨φ, { toRs := hR.toRs, defers := hR.defers, asize := hR.asize, env := fun t v ht => hR.env t v (h.get t v ht) }⟩

def envOk (n : Nat) : Env → Bool
  | [] => true
  | (_, v) :: r => v.ok n && envOk n r
theorem envOk_get {n : Nat} : ∀ {env : Env}, envOk n env = true → ∀ t v, lookup t env = some v → v.ok n = true
  | [], _, t, v, h => by simp [lookup] at h
  | (k, x) :: r, h, t, v, hv => by
    simp only [envOk, Bool.and_eq_true] at h
    simp only [lookup] at hv
    split at hv
    · cases hv; exact h.1
    · exact envOk_get h.2 t v hv
end Ab
