/-
  A REGION THAT DRAWS ITS ORDER, whose operations leave the store: each operation is shown once, from what it waits for.
-/
import Derived.Test.YtfjbddjoagefkaaAb12
import Derived.RegionTactic
namespace Ab
open Go

def snocF {α : Type} : List α → α → Option (List α)
  | [], x => some [x]
  | a :: l, x => match snocF l x with
    | some r => some (a :: r)
    | none => none
theorem snocF_eq {α : Type} : ∀ {l : List α} {x : α} {r : List α}, snocF l x = some r → r = l ++ [x]
  | [], x, r, h => by cases h; rfl
  | a :: l, x, r, h => by
    simp only [snocF] at h
    split at h <;> cases h
    rename_i hl
    rw [snocF_eq hl]; rfl

def tmpsOf (l : List Operand) : List Nat := l.filterMap fun | .tmp t => some t | _ => none

def dstAt (ops : List Oper) (j : Nat) : Option Nat := (ops[j]?).bind (·.dst)

def readsOf (ops : List Oper) (o : Oper) : List Nat := tmpsOf o.op.operands.toList ++ (match o.guard with | some (j, _) => (dstAt ops j).toList | none => [])

def waits (o : Oper) : List Nat := (o.after.toList.filter (Region.binds .any)).map (·.on)

/-- The value that a slot holds when the operation runs. -/
def slotAt (ops : List Oper) (V : List T) (base : Env) (o : Oper) (t : Nat) : Option T :=
  match (waits o).find? (fun j => dstAt ops j == some t) with
  | some j => V[j]?
  | none => lookup t base

def envAt (ops : List Oper) (V : List T) (base : Env) (o : Oper) : Env := (readsOf ops o).filterMap fun t => (slotAt ops V base o t).map fun v => (t, v)

/-- The environment behind the region. -/
def envEnd : List Oper → List T → Env → Env
  | o :: ops, v :: V, base => match o.dst with
    | some d => envEnd ops V ((d, v) :: base)
    | none => envEnd ops V base
  | _, _, base => base

def drawOk (ops : List Oper) : Bool :=
  ops.zipIdx.all fun (o, i) =>
    (waits o).all (· < i) &&
    ops.zipIdx.all fun (p, j) => i == j || (match p.dst with
      | none => true
      | some t => !(o.dst == some t) && (!(readsOf ops o).contains t || (waits o).contains j || (waits p).contains i))

theorem beq_ne {d t : Nat} (h : d ≠ t) : Nat.beq d t = false := by
  cases hb : Nat.beq d t with
  | false => rfl
  | true => exact absurd (Nat.eq_of_beq_eq_true hb) h

def Only (s' : St) : Post := fun e s => e = .normal ∧ s = s'

/-- One operation after the other, in the order of the text. -/
def DrawSeq (P : Program) (σ0 : Store) (sz : Nat) (ops : List Oper) (base : Env) (σ : Store) (Q : Post) : List Oper → List T → Prop
  | [], acc => Q .normal ⟨envEnd ops acc base, σ⟩
  | o :: r, acc => ∃ v, (∀ E : Env, AOps P σ0 sz ops.toArray (Only (St.put ⟨envAt ops acc base o ++ E, σ⟩ o.dst v)) [o] ⟨envAt ops acc base o ++ E, σ⟩) ∧ DrawSeq P σ0 sz ops base σ Q r (acc ++ [v])

theorem lookup_append (t : Nat) (E : Env) : ∀ l : Env, lookup t (l ++ E) = match lookup t l with | some v => some v | none => lookup t E
  | [] => rfl
  | (k, v) :: r => by
    simp only [List.cons_append, lookup]
    split
    · rfl
    · exact lookup_append t E r

theorem lookup_filterMap (f : Nat → Option T) (t : Nat) : ∀ l : List Nat, lookup t (l.filterMap fun t => (f t).map fun v => (t, v)) = if t ∈ l then f t else none
  | [] => rfl
  | k :: r => by
    simp only [List.filterMap_cons]
    cases hk : f k with
    | none =>
      simp only [Option.map_none, lookup_filterMap f t r, List.mem_cons]
      by_cases ht : t = k
      · subst ht; simp [hk]
      · simp [ht]
    | some v =>
      simp only [Option.map_some, lookup, List.mem_cons]
      by_cases ht : k = t
      · subst ht; simp [hk]
      · have : Nat.beq k t = false := beq_ne ht
        simp only [this, lookup_filterMap f t r]
        simp [Ne.symm ht]

theorem upon_mono {P : Program} {o : Oper} {a : Act} {K K' : Act → World → Prop} {Q Q' : Exit → Act → World → Prop} (hK : ∀ a w, K a w → K' a w) (hQ : ∀ e a w, e ≠ .normal → Q e a w → Q' e a w) {r : Result Next} (h : o.upon P a K Q r) : o.upon P a K' Q' r := by
  cases r with
  | ok n w' =>
    cases n <;> simp only [Oper.upon] at h ⊢ <;>
      first
        | exact hK _ _ h
        | exact Calls.mono h (fun e w'' he => by
            cases e with
            | returned v => exact hK _ _ he
            | panicked c => exact hQ _ _ _ (by simp) he
            | outgrown => obtain ⟨a0, w0, hq⟩ := he; exact ⟨a0, w0, hQ _ _ _ (by simp) hq⟩)
        | exact Rows.mono h (fun _ _ he => hK _ _ he)
  | halt x w' => cases x <;> simp only [Oper.upon] at h ⊢ <;> first | exact hQ _ _ _ (by simp) h | exact h

/-- What holds when the operations marked in 'listed' have run. -/
structure DInv (ops : List Oper) (V : List T) (base : Env) (listed : Array Bool) (E : Env) : Prop where
  lt : ∀ j, listed.getD j false = true → j < ops.length
  closed : ∀ (j : Nat) (o : Oper), ops[j]? = some o → listed.getD j false = true → ∀ e ∈ waits o, listed.getD e false = true
  ran : ∀ j t, listed.getD j false = true → dstAt ops j = some t → lookup t E = V[j]?
  rest : ∀ t, (∀ j, listed.getD j false = true → dstAt ops j ≠ some t) → lookup t E = lookup t base

theorem drawOk_spec {ops : List Oper} (h : drawOk ops = true) {i : Nat} {o : Oper} (hi : ops[i]? = some o) :
    (∀ e ∈ waits o, e < i) ∧ ∀ (j : Nat) (p : Oper) (t : Nat), ops[j]? = some p → i ≠ j → p.dst = some t → o.dst ≠ some t ∧ (t ∈ readsOf ops o → j ∈ waits o ∨ i ∈ waits p) := by
  simp only [drawOk, List.all_eq_true] at h
  have h1 := h (o, i) (List.mem_zipIdx_iff_getElem?.2 (by simpa using hi))
  simp only [Bool.and_eq_true, List.all_eq_true, decide_eq_true_eq] at h1
  refine ⟨fun e he => h1.1 e he, fun j p t hj hij ht => ?_⟩
  have h2 := h1.2 (p, j) (List.mem_zipIdx_iff_getElem?.2 (by simpa using hj))
  simp only [ht, Bool.or_eq_true, beq_iff_eq, hij, false_or, Bool.and_eq_true, Bool.not_eq_true', beq_eq_false_iff_ne, ne_eq] at h2
  refine ⟨h2.1, fun hr => ?_⟩
  have h3 := h2.2
  simp only [List.contains_iff_mem] at h3
  rcases h3 with (h3 | h3) | h3
  · simp [hr] at h3
  · exact .inl h3
  · exact .inr h3

section
variable {P : Program} {σ0 : Store} {sz : Nat} {Q : Post} {ops : List Oper} {base : Env} {σ : Store}

/-- The values, and what each operation does. -/
theorem DrawSeq.spec : ∀ (r : List Oper) (acc : List T), DrawSeq P σ0 sz ops base σ Q r acc →
    ∃ V : List T, V.length = r.length ∧ Q .normal ⟨envEnd ops (acc ++ V) base, σ⟩ ∧
      ∀ (i : Nat) (o : Oper) (v : T), r[i]? = some o → V[i]? = some v → ∀ E : Env, AOps P σ0 sz ops.toArray (Only (St.put ⟨envAt ops (acc ++ V.take i) base o ++ E, σ⟩ o.dst v)) [o] ⟨envAt ops (acc ++ V.take i) base o ++ E, σ⟩
  | [], acc, h => ⟨[], rfl, by simpa [DrawSeq] using h, fun i o v hi => by simp at hi⟩
  | o :: r, acc, h => by
    obtain ⟨v, h1, h2⟩ := h
    obtain ⟨V, g1, g2, g3⟩ := DrawSeq.spec r (acc ++ [v]) h2
    refine ⟨v :: V, by simp [g1], by simpa using g2, fun i o' v' hi hv E => ?_⟩
    match i with
    | 0 => cases hi; cases hv; simpa using h1 E
    | i + 1 => simpa using g3 i o' v' (by simpa using hi) (by simpa using hv) E

theorem envAt_take {V : List T} {i : Nat} {o : Oper} (hw : ∀ e ∈ waits o, e < i) : envAt ops (V.take i) base o = envAt ops V base o := by
  unfold envAt
  congr 1
  funext t
  congr 1
  unfold slotAt
  cases hf : (waits o).find? (fun j => dstAt ops j == some t) with
  | none => rfl
  | some j => simp only [List.getElem?_take, if_pos (hw j (List.mem_of_find?_eq_some hf))]

theorem DInv.env {V : List T} {listed : Array Bool} {E : Env} (hI : DInv ops V base listed E) (hok : drawOk ops = true) {i : Nat} {o : Oper} (hi : ops[i]? = some o) (hn : listed.getD i false = false) (hw : ∀ e ∈ waits o, listed.getD e false = true) :
    ∀ t v, lookup t (envAt ops V base o ++ E) = some v → lookup t E = some v := by
  intro t v h
  rw [lookup_append] at h
  simp only [envAt] at h
  rw [lookup_filterMap] at h
  by_cases ht : t ∈ readsOf ops o
  · rw [if_pos ht] at h
    have key : ∀ x, slotAt ops V base o t = some x → lookup t E = some x := fun x hx => by
      unfold slotAt at hx
      cases hf : (waits o).find? (fun j => dstAt ops j == some t) with
      | some j =>
        rw [hf] at hx
        have hj := List.mem_of_find?_eq_some hf
        have hd : dstAt ops j = some t := by simpa using List.find?_some hf
        exact (hI.ran j t (hw j hj) hd).trans hx
      | none =>
        rw [hf] at hx
        rw [hI.rest t fun j hj hd => ?_]
        · exact hx
        · have hlt := hI.lt j hj
          obtain ⟨p, hp⟩ : ∃ p, ops[j]? = some p := ⟨_, List.getElem?_eq_getElem hlt⟩
          have hpd : p.dst = some t := by simpa [dstAt, hp] using hd
          have hij : i ≠ j := fun e => by subst e; rw [hn] at hj; cases hj
          rcases ((drawOk_spec hok hi).2 j p t hp hij hpd).2 ht with h1 | h1
          · have := List.find?_eq_none.1 hf j h1
            simp [hd] at this
          · have := hI.closed j p hp hj i h1
            rw [hn] at this; cases this
    cases hs : slotAt ops V base o t with
    | some x => rw [hs] at h; cases h; exact key _ hs
    | none => rw [hs] at h; exact h
  · rw [if_neg ht] at h
    exact h

theorem count_set : ∀ {l : List Bool} {i : Nat}, l[i]? = some false → (l.filter (fun b => b)).length + 1 ≤ ((l.set i true).filter (fun b => b)).length
  | [], i, h => by simp at h
  | b :: l, 0, h => by simp at h; subst h; simp
  | b :: l, i + 1, h => by
    have := count_set (l := l) (i := i) (by simpa using h)
    cases b <;> simp at this ⊢ <;> omega

theorem draw_any {V : List T} (hok : drawOk ops = true) (hV : V.length = ops.length)
    (each : ∀ (i : Nat) (o : Oper) (v : T), ops[i]? = some o → V[i]? = some v → ∀ E : Env, AOps P σ0 sz ops.toArray (Only (St.put ⟨envAt ops V base o ++ E, σ⟩ o.dst v)) [o] ⟨envAt ops V base o ++ E, σ⟩)
    {Γ : Cx} (hΓ : Γ.σ0 = σ0) (hend : ∀ E φ a w, (∀ j t, dstAt ops j = some t → lookup t E = V[j]?) → (∀ t, (∀ j, dstAt ops j ≠ some t) → lookup t E = lookup t base) → R Γ sz ⟨E, σ⟩ φ a w → lift Γ sz Q .normal a w) :
    ∀ (fuel : Nat) (listed : Array Bool) (E : Env) (φ : Phi) (a : Act) (w : World), listed.size = ops.length → DInv ops V base listed E → R Γ sz ⟨E, σ⟩ φ a w → (∀ j, j < ops.length → listed.getD j false = false → True) → (ops.length ≤ fuel + (listed.toList.filter (fun b => b)).length) →
      wpAny P .any ops.toArray (lift Γ sz Q) fuel listed a w := by
  have finish : ∀ (listed : Array Bool) (E : Env) (φ : Phi) (a : Act) (w : World), listed.size = ops.length → DInv ops V base listed E → R Γ sz ⟨E, σ⟩ φ a w → Region.ready .any ops.toArray listed = [] → lift Γ sz Q .normal a w := by
    intro listed E φ a w hsz hI hR hr
    -- all have run: the least that has not would be ready
    have all : ∀ n j, j < n → j < ops.length → listed.getD j false = true := by
      intro n
      induction n with
      | zero => intro j hj; omega
      | succ n ih =>
        intro j hj hjl
        by_cases hb : listed.getD j false = true
        · exact hb
        · have : j ∈ Region.ready .any ops.toArray listed := by
            rw [mem_ready]
            refine ⟨?_, ops[j], by simp [hjl], fun e he hbi => ?_⟩
            · have : j < listed.size := by omega
              simpa [this] using hb
            · have hw : e.on ∈ waits ops[j] := by
                simp only [waits, List.mem_map, List.mem_filter]
                exact ⟨e, ⟨by simpa using he, hbi⟩, rfl⟩
              have hlt := (drawOk_spec hok (List.getElem?_eq_getElem hjl)).1 _ hw
              exact ih e.on (by omega) (by omega)
          rw [hr] at this; cases this
    refine hend E φ a w (fun j t hd => ?_) (fun t ht => hI.rest t fun j hj => ht j) hR
    have hjl : j < ops.length := by
      unfold dstAt at hd
      cases ho : ops[j]? with
      | none => rw [ho] at hd; cases hd
      | some o => exact (List.getElem?_eq_some_iff.1 ho).1
    exact hI.ran j t (all (j + 1) j (by omega) hjl) hd
  intro fuel
  induction fuel with
  | zero =>
    intro listed E φ a w hsz hI hR _ hf
    have hr : Region.ready .any ops.toArray listed = [] := by
      rw [List.eq_nil_iff_forall_not_mem]
      intro j hj
      rw [mem_ready] at hj
      obtain ⟨h0, o, ho, _⟩ := hj
      have hjl : j < ops.length := by simpa using (Array.getElem?_eq_some_iff.1 ho).1
      have hlt : (listed.toList.filter (fun b => b)).length < listed.toList.length := by
        apply List.length_filter_lt_length_iff_exists.2
        refine ⟨false, ?_, by simp⟩
        have : j < listed.size := by omega
        simp [this] at h0
        rw [← h0]
        simp
      simp at hlt
      omega
    exact ⟨hr, finish listed E φ a w hsz hI hR hr⟩
  | succ fuel ih =>
    intro listed E φ a w hsz hI hR _ hf
    refine ⟨finish listed E φ a w hsz hI hR, fun i hi => ?_⟩
    rw [mem_ready] at hi
    obtain ⟨h0, o, ho, hw⟩ := hi
    have ho' : ops[i]? = some o := by simpa using ho
    have hil : i < ops.length := (List.getElem?_eq_some_iff.1 ho').1
    have hn : listed.getD i false = false := by
      have : i < listed.size := by omega
      simpa [this] using h0
    have hwl : ∀ e ∈ waits o, listed.getD e false = true := fun e he => by
      simp only [waits, List.mem_map, List.mem_filter] at he
      obtain ⟨ed, ⟨h1, h2⟩, rfl⟩ := he
      exact hw ed (by simpa using h1) h2
    have hvi : V[i]? = some V[i] := List.getElem?_eq_getElem (by omega)
    have hop := each i o _ ho' hvi E
    have hR' : R Γ sz ⟨envAt ops V base o ++ E, σ⟩ φ a w := { toRs := hR.toRs, defers := hR.defers, asize := hR.asize, env := fun t v ht => hR.env t v (hI.env hok ho' hn hwl t v ht) }
    have hrun := hop Γ φ a w hΓ hR'
    have next : ∀ a' w', lift Γ sz (Only (St.put ⟨envAt ops V base o ++ E, σ⟩ o.dst V[i])) .normal a' w' → wpAny P .any ops.toArray (lift Γ sz Q) fuel (listed.setIfInBounds i true) a' w' := by
      rintro a' w' ⟨s', φ', ⟨_, rfl⟩, hRn⟩
      have look : ∀ t, o.dst ≠ some t → ∀ v, lookup t (St.put ⟨envAt ops V base o ++ E, σ⟩ o.dst V[i]).env = some v → lookup t E = some v := fun t ht v hv => by
        cases hd : o.dst with
        | none => rw [hd] at hv; exact hI.env hok ho' hn hwl t v hv
        | some d =>
          rw [hd] at hv ht
          simp only [St.put, putE, lookup] at hv
          have : Nat.beq d t = false := beq_ne fun e : d = t => ht (by rw [e])
          rw [this] at hv
          exact hI.env hok ho' hn hwl t v hv
      -- an environment with exactly the lookups wanted
      have hRE : R Γ sz ⟨(St.put ⟨E, σ⟩ o.dst V[i]).env, σ⟩ φ' a' w' := by
        refine { toRs := ?_, defers := hRn.defers, asize := hRn.asize, env := fun t v ht => ?_ }
        · have := hRn.toRs
          cases hd : o.dst <;> simpa [hd, St.put, putE] using this
        · have hσ : (St.put ⟨envAt ops V base o ++ E, σ⟩ o.dst V[i]).σ = σ := by cases o.dst <;> rfl
          have := hRn.env t v (by
            cases hd : o.dst with
            | none =>
              rw [hd] at ht
              simp only [St.put, putE] at ht ⊢
              rw [lookup_append]
              cases hx : lookup t (envAt ops V base o) with
              | none => exact ht
              | some x =>
                have := hI.env hok ho' hn hwl t x (by rw [lookup_append, hx])
                rw [ht] at this
                exact this.symm
            | some d =>
              rw [hd] at ht
              simp only [St.put, putE, lookup] at ht ⊢
              split at ht
              · exact ht
              · rw [lookup_append]
                cases hx : lookup t (envAt ops V base o) with
                | none => exact ht
                | some x =>
                  have := hI.env hok ho' hn hwl t x (by rw [lookup_append, hx])
                  rw [ht] at this
                  exact this.symm)
          rw [hσ] at this
          exact this
      have lset : ∀ j, (listed.setIfInBounds i true).getD j false = true ↔ j = i ∨ listed.getD j false = true := fun j => by
        by_cases hj : i = j
        · subst hj
          have : i < listed.size := by omega
          simp [this]
        · simp [Array.getElem?_setIfInBounds_ne hj, Ne.symm hj]
      refine ih (listed.setIfInBounds i true) _ φ' a' w' (by simpa using hsz) ⟨fun j hj => ?_, fun j p hp hj e he => ?_, fun j t hj hd => ?_, fun t ht => ?_⟩ hRE (fun _ _ _ => trivial) ?_
      · rcases (lset j).1 hj with rfl | h
        · exact hil
        · exact hI.lt j h
      · rcases (lset j).1 hj with rfl | h
        · rw [ho'] at hp; cases hp
          exact (lset e).2 (.inr (hwl e he))
        · exact (lset e).2 (.inr (hI.closed j p hp h e he))
      · rcases (lset j).1 hj with rfl | h
        · have hd' : o.dst = some t := by simpa [dstAt, ho'] using hd
          simp [hd', St.put, putE, lookup, hvi]
        · have hne : o.dst ≠ some t := by
            have hlt := hI.lt j h
            obtain ⟨p, hp⟩ : ∃ p, ops[j]? = some p := ⟨_, List.getElem?_eq_getElem hlt⟩
            have hpd : p.dst = some t := by simpa [dstAt, hp] using hd
            by_cases hij : i = j
            · subst hij; rw [hn] at h; cases h
            · exact ((drawOk_spec hok ho').2 j p t hp hij hpd).1
          rw [← hI.ran j t h hd]
          cases hd2 : o.dst with
          | none => rfl
          | some d =>
            have : Nat.beq d t = false := beq_ne fun e : d = t => hne (by rw [hd2, e])
            simp [St.put, putE, lookup, this]
      · have hne : o.dst ≠ some t := by
          have := ht i ((lset i).2 (.inl rfl))
          simpa [dstAt, ho'] using this
        rw [← hI.rest t fun j hj => ht j ((lset j).2 (.inr hj))]
        cases hd2 : o.dst with
        | none => rfl
        | some d =>
          have : Nat.beq d t = false := beq_ne fun e : d = t => hne (by rw [hd2, e])
          simp [St.put, putE, lookup, this]
      · have hcount : (listed.toList.filter (fun b => b)).length + 1 ≤ ((listed.setIfInBounds i true).toList.filter (fun b => b)).length := by
          rw [Array.toList_setIfInBounds]
          refine count_set ?_
          have : i < listed.size := by omega
          simp [this] at hn
          simp [this, hn]
        omega
    unfold wpOp
    rw [ho]
    simp only
    unfold wpList at hrun
    by_cases hwt : Region.wanted o (yielded ops.toArray a.tmps) = true
    · rw [if_pos hwt] at hrun ⊢
      rcases hrun with hrun | ⟨_, a0, w0, s0, φ0, ⟨he, _⟩, _⟩
      · refine .inl ?_
        unfold Oper.wp at hrun ⊢
        refine upon_mono (fun a' w' h => next a' w' h) (fun e a' w' hne h => ?_) hrun
        obtain ⟨s0, φ0, ⟨he, _⟩, _⟩ := h
        exact absurd he hne
      · cases he
    · rw [if_neg hwt] at hrun ⊢
      exact next _ _ hrun


theorem envEnd_look : ∀ (ops : List Oper) (V : List T) (base : Env), V.length = ops.length → (∀ (i j : Nat) (o p : Oper) (t : Nat), ops[i]? = some o → ops[j]? = some p → i ≠ j → p.dst = some t → o.dst ≠ some t) →
    (∀ (j t : Nat), dstAt ops j = some t → lookup t (envEnd ops V base) = V[j]?) ∧ (∀ t, (∀ j, dstAt ops j ≠ some t) → lookup t (envEnd ops V base) = lookup t base)
  | [], V, base, hl, _ => ⟨fun j t h => by simp [dstAt] at h, fun t _ => by cases V <;> rfl⟩
  | o :: ops, [], base, hl, _ => by simp at hl
  | o :: ops, v :: V, base, hl, hd => by
    have hl' : V.length = ops.length := by simpa using hl
    have hd' : ∀ (i j : Nat) (o p : Oper) (t : Nat), ops[i]? = some o → ops[j]? = some p → i ≠ j → p.dst = some t → o.dst ≠ some t := fun i j o p t hi hj hij => hd (i + 1) (j + 1) o p t (by simpa using hi) (by simpa using hj) (by omega)
    have hfirst : ∀ t, o.dst = some t → ∀ j, dstAt ops j ≠ some t := fun t ht j hj => by
      unfold dstAt at hj
      cases hp : ops[j]? with
      | none => rw [hp] at hj; cases hj
      | some p =>
        rw [hp] at hj
        exact hd (j + 1) 0 p o t (by simpa using hp) rfl (by omega) ht (by simpa using hj)
    cases ho : o.dst with
    | none =>
      obtain ⟨h1, h2⟩ := envEnd_look ops V base hl' hd'
      simp only [envEnd, ho]
      refine ⟨fun j t h => ?_, fun t h => h2 t fun j hj => h (j + 1) (by simpa [dstAt] using hj)⟩
      cases j with
      | zero => simp [dstAt, ho] at h
      | succ j => simpa using h1 j t (by simpa [dstAt] using h)
    | some d =>
      obtain ⟨h1, h2⟩ := envEnd_look ops V ((d, v) :: base) hl' hd'
      simp only [envEnd, ho]
      refine ⟨fun j t h => ?_, fun t h => ?_⟩
      · cases j with
        | zero =>
          have : d = t := by simpa [dstAt, ho] using h
          subst this
          rw [h2 d (hfirst d ho)]
          simp [lookup]
        | succ j => simpa using h1 j t (by simpa [dstAt] using h)
      · rw [h2 t fun j hj => h (j + 1) (by simpa [dstAt] using hj)]
        have : Nat.beq d t = false := beq_ne fun e => h 0 (by simp [dstAt, ho, e])
        simp [lookup, this]

/-- A region that draws, whose operations leave the store. -/
theorem AWP.draw {id : Nat} {s : St} (hm : P.follows .mixedOrders = true) (hok : drawOk ops = true) (h : DrawSeq P σ0 sz ops s.env s.σ Q ops []) : AWP P σ0 sz (.region id ops.toArray true) Q s := fun Γ φ a w hΓ hR => by
  obtain ⟨V, hV, hQ, each⟩ := DrawSeq.spec ops [] h
  simp only [List.nil_append] at hQ each
  have hdist : ∀ (i j : Nat) (o p : Oper) (t : Nat), ops[i]? = some o → ops[j]? = some p → i ≠ j → p.dst = some t → o.dst ≠ some t := fun i j o p t hi hj hij ht => ((drawOk_spec hok hi).2 j p t hj hij ht).1
  obtain ⟨e1, e2⟩ := envEnd_look ops V s.env hV hdist
  refine wp_region_any hm ?_
  rw [List.size_toArray]
  refine draw_any (V := V) (base := s.env) (σ := s.σ) hok hV (fun i o v hi hv E => ?_) hΓ (fun E φ a w h1 h2 hR => ?_) ops.length (Array.replicate ops.length false) s.env φ a _ (by simp) ⟨fun j hj => ?_, fun j o _ hj => ?_, fun j t hj => ?_, fun t _ => rfl⟩ ?_ (fun _ _ _ => trivial) (by simp)
  · have := each i o v hi hv E
    rwa [envAt_take (drawOk_spec hok hi).1] at this
  · refine ⟨⟨envEnd ops V s.env, s.σ⟩, φ, hQ, { toRs := hR.toRs, defers := hR.defers, asize := hR.asize, env := fun t v ht => hR.env t v ?_ }⟩
    rw [← ht]
    by_cases hx : ∃ j, dstAt ops j = some t
    · obtain ⟨j, hj⟩ := hx
      exact (h1 j t hj).trans (e1 j t hj).symm
    · have hn : ∀ j, dstAt ops j ≠ some t := fun j hj => hx ⟨j, hj⟩
      exact (h2 t hn).trans (e2 t hn).symm
  · simp [Array.getElem?_replicate] at hj
    split at hj <;> simp at hj
  · simp [Array.getElem?_replicate] at hj
    split at hj <;> simp at hj
  · simp [Array.getElem?_replicate] at hj
    split at hj <;> simp at hj
  · exact { toRs := hR.toRs.drew, defers := hR.defers, asize := hR.asize, env := fun t v ht => let ⟨u, hu, hr⟩ := hR.env t v ht; ⟨u, hu, hr.mono (Kept.drew w φ s.σ _)⟩ }


theorem AWP.drawI {id : Nat} {env : Env} {σv : Store} (hm : P.follows .mixedOrders = true) (hok : drawOk ops = true) (h : DrawSeq P σ0 sz ops env σv Q ops []) : AWP P σ0 sz (.region id ops.toArray true) Q (St.mk env σv) := .draw hm hok h
theorem DrawSeq.cons {o : Oper} {r : List Oper} {env : Env} {σv : Store} {acc : List T} {v : T} (h1 : ∀ E : Env, AOps P σ0 sz ops.toArray (Only (St.put ⟨envAt ops acc env o ++ E, σv⟩ o.dst v)) [o] (St.mk (envAt ops acc env o ++ E) σv)) (h2 : DrawSeq P σ0 sz ops env σv Q r (acc ++ [v])) : DrawSeq P σ0 sz ops env σv Q (o :: r) acc := ⟨v, h1, h2⟩

def envFT (ops : List Oper) (V : List T) (base : Env) (o : Oper) : List Nat → Option Env
  | [] => some []
  | t :: ts => match slotAt ops V base o t with
    | some v => match envFT ops V base o ts with
      | some r => some ((t, v) :: r)
      | none => none
    | none => envFT ops V base o ts

def envF (ops : List Oper) (V : List T) (base : Env) (o : Oper) : Option Env := envFT ops V base o (readsOf ops o)

theorem envFT_eq {ops : List Oper} {V : List T} {base : Env} {o : Oper} : ∀ {ts : List Nat} {e : Env}, envFT ops V base o ts = some e → ts.filterMap (fun t => (slotAt ops V base o t).map fun v => (t, v)) = e
  | [], e, h => by cases h; rfl
  | t :: ts, e, h => by
    simp only [envFT] at h
    cases hs : slotAt ops V base o t with
    | none =>
      rw [hs] at h
      rw [List.filterMap_cons, hs]
      exact envFT_eq h
    | some v =>
      rw [hs] at h
      cases hr : envFT ops V base o ts with
      | none => simp only [hr] at h; cases h
      | some r =>
        simp only [hr] at h
        cases h
        rw [List.filterMap_cons, hs]
        simp only [Option.map_some]
        rw [envFT_eq hr]

theorem DrawSeq.consF {o : Oper} {r : List Oper} {env e : Env} {σv : Store} {acc acc' : List T} {v : T} (he : envF ops acc env o = some e) (h1 : ∀ E : Env, AOps P σ0 sz ops.toArray (Only (St.mk (putE (e ++ E) o.dst v) σv)) [o] (St.mk (e ++ E) σv)) (ha : snocF acc v = some acc') (h2 : DrawSeq P σ0 sz ops env σv Q r acc') : DrawSeq P σ0 sz ops env σv Q (o :: r) acc := by
  have e1 : envAt ops acc env o = e := envFT_eq he
  rw [snocF_eq ha] at h2
  exact ⟨v, fun E => by rw [e1]; exact h1 E, h2⟩

theorem DrawSeq.done {env : Env} {σv : Store} {acc : List T} (h : Q .normal (St.mk (envEnd ops acc env) σv)) : DrawSeq P σ0 sz ops env σv Q [] acc := h

end
end Ab
