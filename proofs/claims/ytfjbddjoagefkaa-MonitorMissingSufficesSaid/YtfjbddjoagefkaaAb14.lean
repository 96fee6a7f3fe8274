/-
  A REGION THAT DRAWS ITS ORDER AND WRITES: the operations that change the store stand in one forced order; the others are shown in each store that they may meet.
-/
import Derived.Test.YtfjbddjoagefkaaAb13
namespace Ab
open Go

def memN (n : Nat) : List Nat → Bool
  | [] => false
  | m :: r => match Nat.beq m n with
    | true => true
    | false => memN n r

/-- e must have run when i has. -/
def anc (ops : List Oper) : Nat → Nat → Nat → Bool
  | 0, _, _ => false
  | f + 1, e, i => match ops[i]? with
    | some o => (waits o).any fun x => Nat.beq x e || anc ops f e x
    | none => false

/-- Can operation i come up when k of the writing operations have run? -/
def feas (ops : List Oper) (effs : List Nat) (i k : Nat) : Bool :=
  (match k with
    | 0 => true
    | k + 1 => match effs[k]? with
      | some e => !anc ops ops.length i e
      | none => true) &&
  (match effs[k]? with
    | some e => !anc ops ops.length e i
    | none => true)

def effOk (ops : List Oper) (effs : List Nat) : Bool :=
  effs.zipIdx.all fun (e, m) => Nat.blt e ops.length && effs.zipIdx.all fun (e', m') => !(Nat.blt m' m) || anc ops ops.length e' e

/-- What remains to be shown: each operation that does not write, in the other stores that it may meet. -/
def RestK (P : Program) (σ0 : Store) (sz : Nat) (ops : List Oper) (base : Env) (V : List T) (σs : List Store) (effs : List Nat) (i : Nat) (o : Oper) (v : T) : List Nat → Prop
  | [] => True
  | k :: ks => (match feas ops effs i k with
    | true => match σs[k]? with
      | some σ => ∀ E : Env, AOps P σ0 sz ops.toArray (Only (St.put ⟨envAt ops V base o ++ E, σ⟩ o.dst v)) [o] ⟨envAt ops V base o ++ E, σ⟩
      | none => True
    | false => True) ∧ RestK P σ0 sz ops base V σs effs i o v ks

def RestI (P : Program) (σ0 : Store) (sz : Nat) (ops : List Oper) (base : Env) (V : List T) (σs : List Store) (effs : List Nat) (ks : List Nat) : List Oper → Nat → Prop
  | [], _ => True
  | o :: r, i => (match memN i effs with
    | true => True
    | false => match V[i]? with
      | some v => RestK P σ0 sz ops base V σs effs i o v ks
      | none => True) ∧ RestI P σ0 sz ops base V σs effs ks r (i + 1)

def DrawSeqE (P : Program) (σ0 : Store) (sz : Nat) (ops : List Oper) (effs : List Nat) (base : Env) (Q : Post) : List Oper → Nat → List T → List Store → Store → Prop
  | [], _, acc, σs, σ => RestI P σ0 sz ops base acc (σs ++ [σ]) effs (List.range (effs.length + 1)) ops 0 ∧ Q .normal ⟨envEnd ops acc base, σ⟩
  | o :: r, i, acc, σs, σ => match memN i effs with
    | true => ∃ v σ', (∀ E : Env, AOps P σ0 sz ops.toArray (Only (St.put ⟨envAt ops acc base o ++ E, σ'⟩ o.dst v)) [o] ⟨envAt ops acc base o ++ E, σ⟩) ∧ DrawSeqE P σ0 sz ops effs base Q r (i + 1) (acc ++ [v]) (σs ++ [σ]) σ'
    | false => ∃ v, (∀ E : Env, AOps P σ0 sz ops.toArray (Only (St.put ⟨envAt ops acc base o ++ E, σ⟩ o.dst v)) [o] ⟨envAt ops acc base o ++ E, σ⟩) ∧ DrawSeqE P σ0 sz ops effs base Q r (i + 1) (acc ++ [v]) σs σ


/-- k of the writing operations have run. -/
def Stage (effs : List Nat) (listed : Array Bool) (k : Nat) : Prop := k ≤ effs.length ∧ ∀ (m e : Nat), effs[m]? = some e → (listed.getD e false = true ↔ m < k)

theorem effOk_lt {ops : List Oper} {effs : List Nat} (h : effOk ops effs = true) {m e : Nat} (he : effs[m]? = some e) : e < ops.length := by
  simp only [effOk, List.all_eq_true] at h
  have h1 := h (e, m) (List.mem_zipIdx_iff_getElem?.2 (by simpa using he))
  simp only [Bool.and_eq_true, Nat.blt_eq] at h1
  exact h1.1

theorem effOk_anc {ops : List Oper} {effs : List Nat} (h : effOk ops effs = true) {m m' e e' : Nat} (he : effs[m]? = some e) (he' : effs[m']? = some e') (hlt : m' < m) : anc ops ops.length e' e = true := by
  simp only [effOk, List.all_eq_true] at h
  have h1 := h (e, m) (List.mem_zipIdx_iff_getElem?.2 (by simpa using he))
  simp only [Bool.and_eq_true, List.all_eq_true] at h1
  have h2 := h1.2 (e', m') (List.mem_zipIdx_iff_getElem?.2 (by simpa using he'))
  simp only [Bool.or_eq_true, Bool.not_eq_true'] at h2
  rcases h2 with h2 | h2
  · have : Nat.blt m' m = true := by simpa using hlt
    rw [this] at h2; cases h2
  · exact h2

theorem anc_lt {ops : List Oper} (hok : drawOk ops = true) : ∀ (f e i : Nat), anc ops f e i = true → e < i
  | 0, e, i, h => by simp [anc] at h
  | f + 1, e, i, h => by
    simp only [anc] at h
    split at h
    · rename_i o ho
      simp only [List.any_eq_true, Bool.or_eq_true] at h
      obtain ⟨x, hx, h | h⟩ := h
      · rw [← Nat.eq_of_beq_eq_true h]; exact (drawOk_spec hok ho).1 x hx
      · exact Nat.lt_trans (anc_lt hok f e x h) ((drawOk_spec hok ho).1 x hx)
    · cases h

/-- What must have run, has. -/
theorem anc_listed {ops : List Oper} {V : List T} {base : Env} {listed : Array Bool} {E : Env} (hI : DInv ops V base listed E) : ∀ (f e i : Nat) (o : Oper), ops[i]? = some o → (∀ x ∈ waits o, listed.getD x false = true) → anc ops f e i = true → listed.getD e false = true
  | 0, e, i, o, _, _, h => by simp [anc] at h
  | f + 1, e, i, o, ho, hw, h => by
    simp only [anc, ho, List.any_eq_true, Bool.or_eq_true] at h
    obtain ⟨x, hx, h | h⟩ := h
    · rw [← Nat.eq_of_beq_eq_true h]; exact hw x hx
    · have hl := hw x hx
      have hlt := hI.lt x hl
      exact anc_listed hI f e x _ (List.getElem?_eq_getElem hlt) (hI.closed x _ (List.getElem?_eq_getElem hlt) hl) h

theorem feas_of {ops : List Oper} {V : List T} {base : Env} {effs : List Nat} {listed : Array Bool} {E : Env} {k i : Nat} {o : Oper} (hst : Stage effs listed k) (hI : DInv ops V base listed E) (ho : ops[i]? = some o) (hn : listed.getD i false = false) (hw : ∀ x ∈ waits o, listed.getD x false = true) : feas ops effs i k = true := by
  have h1 : ∀ k', k' < k → ∀ e, effs[k']? = some e → anc ops ops.length i e = false := fun k' hk e he => by
    have hl := (hst.2 k' e he).2 hk
    have hlt := hI.lt e hl
    cases hb : anc ops ops.length i e with
    | false => rfl
    | true =>
      have := anc_listed hI _ i e _ (List.getElem?_eq_getElem hlt) (hI.closed e _ (List.getElem?_eq_getElem hlt) hl) hb
      rw [hn] at this; cases this
  have h2 : ∀ e, effs[k]? = some e → anc ops ops.length e i = false := fun e he => by
    cases hb : anc ops ops.length e i with
    | false => rfl
    | true =>
      have := (hst.2 k e he).1 (anc_listed hI _ e i o ho hw hb)
      omega
  unfold feas
  rw [Bool.and_eq_true]
  constructor
  · cases k with
    | zero => rfl
    | succ k =>
      show (match effs[k]? with | some e => !anc ops ops.length i e | none => true) = true
      split
      · rename_i e he; rw [h1 k (by omega) e he]; rfl
      · rfl
  · split
    · rename_i e he; rw [h2 e he]; rfl
    · rfl

theorem stage_next {ops : List Oper} {V : List T} {base : Env} {effs : List Nat} {listed : Array Bool} {E : Env} {k i : Nat} {o : Oper} (_hok : drawOk ops = true) (heff : effOk ops effs = true) (hst : Stage effs listed k) (hI : DInv ops V base listed E) (ho : ops[i]? = some o) (hn : listed.getD i false = false) (hw : ∀ x ∈ waits o, listed.getD x false = true) (hmem : i ∈ effs) : effs[k]? = some i := by
  obtain ⟨m, hm⟩ := List.getElem?_of_mem hmem
  have h1 : ¬ m < k := fun h => by
    have := (hst.2 m i hm).2 h
    rw [hn] at this; cases this
  rcases Nat.lt_or_ge k m with h2 | h2
  · have hlm := (List.getElem?_eq_some_iff.1 hm).1
    have hk : effs[k]? = some effs[k] := List.getElem?_eq_getElem (by omega)
    have := (hst.2 k _ hk).1 (anc_listed hI _ _ i o ho hw (effOk_anc heff hm hk h2))
    omega
  · rw [show k = m by omega]; exact hm

theorem stage_step {ops : List Oper} {effs : List Nat} {listed : Array Bool} {k i : Nat} (hok : drawOk ops = true) (heff : effOk ops effs = true) (hst : Stage effs listed k) (hik : effs[k]? = some i) (hi : i < listed.size) : Stage effs (listed.setIfInBounds i true) (k + 1) := by
  refine ⟨(List.getElem?_eq_some_iff.1 hik).1, fun m e he => ?_⟩
  by_cases hie : i = e
  · subst hie
    have hmk : m = k := by
      rcases Nat.lt_trichotomy m k with h | h | h
      · have := anc_lt hok _ _ _ (effOk_anc heff hik he h); omega
      · exact h
      · have := anc_lt hok _ _ _ (effOk_anc heff he hik h); omega
    subst hmk
    simp [hi]
  · rw [show (listed.setIfInBounds i true).getD e false = listed.getD e false by simp [Array.getElem?_setIfInBounds_ne hie]]
    rw [hst.2 m e he]
    constructor
    · omega
    · intro h
      rcases Nat.lt_or_ge m k with h' | h'
      · exact h'
      · have : m = k := by omega
        subst this
        rw [hik] at he; cases he; exact absurd rfl hie

theorem stage_keep {effs : List Nat} {listed : Array Bool} {k i : Nat} (hst : Stage effs listed k) (hmem : i ∉ effs) : Stage effs (listed.setIfInBounds i true) k := by
  refine ⟨hst.1, fun m e he => ?_⟩
  have hie : i ≠ e := fun h => hmem (by rw [h]; exact List.mem_of_getElem? he)
  rw [show (listed.setIfInBounds i true).getD e false = listed.getD e false by simp [Array.getElem?_setIfInBounds_ne hie]]
  exact hst.2 m e he

section
variable {P : Program} {σ0 : Store} {sz : Nat} {Q : Post} {ops : List Oper} {base : Env}

theorem draw_anyE {V : List T} {effs : List Nat} {σs : List Store} (hok : drawOk ops = true) (heff : effOk ops effs = true) (hV : V.length = ops.length)
    (each : ∀ (i : Nat) (o : Oper) (v : T) (k : Nat) (σ : Store), ops[i]? = some o → V[i]? = some v → σs[k]? = some σ → feas ops effs i k = true → k ≤ effs.length →
      (effs[k]? = some i → ∃ σ', σs[k + 1]? = some σ' ∧ ∀ E : Env, AOps P σ0 sz ops.toArray (Only (St.put ⟨envAt ops V base o ++ E, σ'⟩ o.dst v)) [o] ⟨envAt ops V base o ++ E, σ⟩) ∧
      (i ∉ effs → ∀ E : Env, AOps P σ0 sz ops.toArray (Only (St.put ⟨envAt ops V base o ++ E, σ⟩ o.dst v)) [o] ⟨envAt ops V base o ++ E, σ⟩))
    {Γ : Cx} (hΓ : Γ.σ0 = σ0) (hend : ∀ σ E φ a w, σs[effs.length]? = some σ → (∀ j t, dstAt ops j = some t → lookup t E = V[j]?) → (∀ t, (∀ j, dstAt ops j ≠ some t) → lookup t E = lookup t base) → R Γ sz ⟨E, σ⟩ φ a w → lift Γ sz Q .normal a w) :
    ∀ (fuel : Nat) (listed : Array Bool) (k : Nat) (σ : Store) (E : Env) (φ : Phi) (a : Act) (w : World), listed.size = ops.length → σs[k]? = some σ → Stage effs listed k → DInv ops V base listed E → R Γ sz ⟨E, σ⟩ φ a w → (ops.length ≤ fuel + (listed.toList.filter (fun b => b)).length) →
      wpAny P .any ops.toArray (lift Γ sz Q) fuel listed a w := by
  have finish : ∀ (listed : Array Bool) (k : Nat) (σ : Store) (E : Env) (φ : Phi) (a : Act) (w : World), listed.size = ops.length → σs[k]? = some σ → Stage effs listed k → DInv ops V base listed E → R Γ sz ⟨E, σ⟩ φ a w → Region.ready .any ops.toArray listed = [] → lift Γ sz Q .normal a w := by
    intro listed k σ E φ a w hsz hσk hst hI hR hr
    -- all have run: the least that has not would be ready
    have all : ∀ n j, j < n → j < ops.length → listed.getD j false = true := by
      intro n
      induction n with
      | zero => intro j hj; omega
      | succ n ih =>
        intro j hj hjl
        by_cases hb : listed.getD j false = true
        · exact hb
        · have : j ∈ Region.ready .any ops.toArray listed := by
            rw [mem_ready]
            refine ⟨?_, ops[j], by simp [hjl], fun e he hbi => ?_⟩
            · have : j < listed.size := by omega
              simpa [this] using hb
            · have hw : e.on ∈ waits ops[j] := by
                simp only [waits, List.mem_map, List.mem_filter]
                exact ⟨e, ⟨by simpa using he, hbi⟩, rfl⟩
              have hlt := (drawOk_spec hok (List.getElem?_eq_getElem hjl)).1 _ hw
              exact ih e.on (by omega) (by omega)
          rw [hr] at this; cases this
    have hk : k = effs.length := by
      rcases Nat.lt_or_ge k effs.length with hlt | hge
      · have he : effs[k]? = some effs[k] := List.getElem?_eq_getElem hlt
        have := effOk_lt heff he
        have h1 := (hst.2 k _ he).1 (all (effs[k] + 1) _ (by omega) this)
        omega
      · exact Nat.le_antisymm hst.1 hge
    subst hk
    refine hend σ E φ a w hσk (fun j t hd => ?_) (fun t ht => hI.rest t fun j hj => ht j) hR
    have hjl : j < ops.length := by
      unfold dstAt at hd
      cases ho : ops[j]? with
      | none => rw [ho] at hd; cases hd
      | some o => exact (List.getElem?_eq_some_iff.1 ho).1
    exact hI.ran j t (all (j + 1) j (by omega) hjl) hd
  intro fuel
  induction fuel with
  | zero =>
    intro listed k σ E φ a w hsz hσk hst hI hR hf
    have hr : Region.ready .any ops.toArray listed = [] := by
      rw [List.eq_nil_iff_forall_not_mem]
      intro j hj
      rw [mem_ready] at hj
      obtain ⟨h0, o, ho, _⟩ := hj
      have hjl : j < ops.length := by simpa using (Array.getElem?_eq_some_iff.1 ho).1
      have hlt : (listed.toList.filter (fun b => b)).length < listed.toList.length := by
        apply List.length_filter_lt_length_iff_exists.2
        refine ⟨false, ?_, by simp⟩
        have : j < listed.size := by omega
        simp [this] at h0
        rw [← h0]
        simp
      simp at hlt
      omega
    exact ⟨hr, finish listed k σ E φ a w hsz hσk hst hI hR hr⟩
  | succ fuel ih =>
    intro listed k σ E φ a w hsz hσk hst hI hR hf
    refine ⟨finish listed k σ E φ a w hsz hσk hst hI hR, fun i hi => ?_⟩
    rw [mem_ready] at hi
    obtain ⟨h0, o, ho, hw⟩ := hi
    have ho' : ops[i]? = some o := by simpa using ho
    have hil : i < ops.length := (List.getElem?_eq_some_iff.1 ho').1
    have hn : listed.getD i false = false := by
      have : i < listed.size := by omega
      simpa [this] using h0
    have hwl : ∀ e ∈ waits o, listed.getD e false = true := fun e he => by
      simp only [waits, List.mem_map, List.mem_filter] at he
      obtain ⟨ed, ⟨h1, h2⟩, rfl⟩ := he
      exact hw ed (by simpa using h1) h2
    have hvi : V[i]? = some V[i] := List.getElem?_eq_getElem (by omega)
    -- the store behind the operation, and how many have written
    have hfe : feas ops effs i k = true := feas_of hst hI ho' hn hwl
    obtain ⟨k', σ', hσ', hop, hst'⟩ : ∃ k' σ', σs[k']? = some σ' ∧ AOps P σ0 sz ops.toArray (Only (St.put ⟨envAt ops V base o ++ E, σ'⟩ o.dst V[i])) [o] ⟨envAt ops V base o ++ E, σ⟩ ∧ Stage effs (listed.setIfInBounds i true) k' := by
      obtain ⟨e1, e2⟩ := each i o _ k σ ho' hvi hσk hfe hst.1
      by_cases hmem : i ∈ effs
      · have hik : effs[k]? = some i := stage_next hok heff hst hI ho' hn hwl hmem
        obtain ⟨σ', h1, h2⟩ := e1 hik
        exact ⟨k + 1, σ', h1, h2 E, stage_step hok heff hst hik (by omega)⟩
      · exact ⟨k, σ, hσk, e2 hmem E, stage_keep hst hmem⟩
    have hR' : R Γ sz ⟨envAt ops V base o ++ E, σ⟩ φ a w := { toRs := hR.toRs, defers := hR.defers, asize := hR.asize, env := fun t v ht => hR.env t v (hI.env hok ho' hn hwl t v ht) }
    have hrun := hop Γ φ a w hΓ hR'
    have next : ∀ a' w', lift Γ sz (Only (St.put ⟨envAt ops V base o ++ E, σ'⟩ o.dst V[i])) .normal a' w' → wpAny P .any ops.toArray (lift Γ sz Q) fuel (listed.setIfInBounds i true) a' w' := by
      rintro a' w' ⟨s', φ', ⟨_, rfl⟩, hRn⟩
      have look : ∀ t, o.dst ≠ some t → ∀ v, lookup t (St.put ⟨envAt ops V base o ++ E, σ'⟩ o.dst V[i]).env = some v → lookup t E = some v := fun t ht v hv => by
        cases hd : o.dst with
        | none => rw [hd] at hv; exact hI.env hok ho' hn hwl t v hv
        | some d =>
          rw [hd] at hv ht
          simp only [St.put, putE, lookup] at hv
          have : Nat.beq d t = false := beq_ne fun e : d = t => ht (by rw [e])
          rw [this] at hv
          exact hI.env hok ho' hn hwl t v hv
      -- an environment with exactly the lookups wanted
      have hRE : R Γ sz ⟨(St.put ⟨E, σ'⟩ o.dst V[i]).env, σ'⟩ φ' a' w' := by
        refine { toRs := ?_, defers := hRn.defers, asize := hRn.asize, env := fun t v ht => ?_ }
        · have := hRn.toRs
          cases hd : o.dst <;> simpa [hd, St.put, putE] using this
        · have hσ : (St.put ⟨envAt ops V base o ++ E, σ'⟩ o.dst V[i]).σ = σ' := by cases o.dst <;> rfl
          have := hRn.env t v (by
            cases hd : o.dst with
            | none =>
              rw [hd] at ht
              simp only [St.put, putE] at ht ⊢
              rw [lookup_append]
              cases hx : lookup t (envAt ops V base o) with
              | none => exact ht
              | some x =>
                have := hI.env hok ho' hn hwl t x (by rw [lookup_append, hx])
                rw [ht] at this
                exact this.symm
            | some d =>
              rw [hd] at ht
              simp only [St.put, putE, lookup] at ht ⊢
              split at ht
              · exact ht
              · rw [lookup_append]
                cases hx : lookup t (envAt ops V base o) with
                | none => exact ht
                | some x =>
                  have := hI.env hok ho' hn hwl t x (by rw [lookup_append, hx])
                  rw [ht] at this
                  exact this.symm)
          rw [hσ] at this
          exact this
      have lset : ∀ j, (listed.setIfInBounds i true).getD j false = true ↔ j = i ∨ listed.getD j false = true := fun j => by
        by_cases hj : i = j
        · subst hj
          have : i < listed.size := by omega
          simp [this]
        · simp [Array.getElem?_setIfInBounds_ne hj, Ne.symm hj]
      refine ih (listed.setIfInBounds i true) k' σ' _ φ' a' w' (by simpa using hsz) hσ' hst' ⟨fun j hj => ?_, fun j p hp hj e he => ?_, fun j t hj hd => ?_, fun t ht => ?_⟩ hRE ?_
      · rcases (lset j).1 hj with rfl | h
        · exact hil
        · exact hI.lt j h
      · rcases (lset j).1 hj with rfl | h
        · rw [ho'] at hp; cases hp
          exact (lset e).2 (.inr (hwl e he))
        · exact (lset e).2 (.inr (hI.closed j p hp h e he))
      · rcases (lset j).1 hj with rfl | h
        · have hd' : o.dst = some t := by simpa [dstAt, ho'] using hd
          simp [hd', St.put, putE, lookup, hvi]
        · have hne : o.dst ≠ some t := by
            have hlt := hI.lt j h
            obtain ⟨p, hp⟩ : ∃ p, ops[j]? = some p := ⟨_, List.getElem?_eq_getElem hlt⟩
            have hpd : p.dst = some t := by simpa [dstAt, hp] using hd
            by_cases hij : i = j
            · subst hij; rw [hn] at h; cases h
            · exact ((drawOk_spec hok ho').2 j p t hp hij hpd).1
          rw [← hI.ran j t h hd]
          cases hd2 : o.dst with
          | none => rfl
          | some d =>
            have : Nat.beq d t = false := beq_ne fun e : d = t => hne (by rw [hd2, e])
            simp [St.put, putE, lookup, this]
      · have hne : o.dst ≠ some t := by
          have := ht i ((lset i).2 (.inl rfl))
          simpa [dstAt, ho'] using this
        rw [← hI.rest t fun j hj => ht j ((lset j).2 (.inr hj))]
        cases hd2 : o.dst with
        | none => rfl
        | some d =>
          have : Nat.beq d t = false := beq_ne fun e : d = t => hne (by rw [hd2, e])
          simp [St.put, putE, lookup, this]
      · have hcount : (listed.toList.filter (fun b => b)).length + 1 ≤ ((listed.setIfInBounds i true).toList.filter (fun b => b)).length := by
          rw [Array.toList_setIfInBounds]
          refine count_set ?_
          have : i < listed.size := by omega
          simp [this] at hn
          simp [this, hn]
        omega
    unfold wpOp
    rw [ho]
    simp only
    unfold wpList at hrun
    by_cases hwt : Region.wanted o (yielded ops.toArray a.tmps) = true
    · rw [if_pos hwt] at hrun ⊢
      rcases hrun with hrun | ⟨_, a0, w0, s0, φ0, ⟨he, _⟩, _⟩
      · refine .inl ?_
        unfold Oper.wp at hrun ⊢
        refine upon_mono (fun a' w' h => next a' w' h) (fun e a' w' hne h => ?_) hrun
        obtain ⟨s0, φ0, ⟨he, _⟩, _⟩ := h
        exact absurd he hne
      · cases he
    · rw [if_neg hwt] at hrun ⊢
      exact next _ _ hrun


theorem memN_iff (n : Nat) : ∀ l : List Nat, memN n l = true ↔ n ∈ l
  | [] => by simp [memN]
  | m :: r => by
    simp only [memN, List.mem_cons]
    split
    · rename_i h; simp [Nat.eq_of_beq_eq_true h]
    · rename_i h
      rw [memN_iff n r]
      have : n ≠ m := fun e => by subst e; simp at h
      simp [this]

/-- The values, the stores, and what each operation does in the order of the text. -/
theorem DrawSeqE.spec {effs : List Nat} : ∀ (r : List Oper) (i0 : Nat) (acc : List T) (σs : List Store) (σ : Store), DrawSeqE P σ0 sz ops effs base Q r i0 acc σs σ →
    ∃ (V : List T) (τs : List Store) (τ : Store), V.length = r.length ∧ τs ++ [τ] = [σ] ++ (τs ++ [τ]).drop 1 ∧ RestI P σ0 sz ops base (acc ++ V) (σs ++ (τs ++ [τ])) effs (List.range (effs.length + 1)) ops 0 ∧ Q .normal ⟨envEnd ops (acc ++ V) base, τ⟩ ∧
      τs.length = ((List.range' i0 r.length).filter fun i => memN i effs).length ∧
      ∀ (i : Nat) (o : Oper) (v : T), r[i]? = some o → V[i]? = some v → ∃ σ1 σ2, (τs ++ [τ])[((List.range' i0 i).filter fun i => memN i effs).length]? = some σ1 ∧ (τs ++ [τ])[((List.range' i0 (i + 1)).filter fun i => memN i effs).length]? = some σ2 ∧
        (memN (i0 + i) effs = false → σ1 = σ2) ∧ ∀ E : Env, AOps P σ0 sz ops.toArray (Only (St.put ⟨envAt ops (acc ++ V.take i) base o ++ E, σ2⟩ o.dst v)) [o] ⟨envAt ops (acc ++ V.take i) base o ++ E, σ1⟩
  | [], i0, acc, σs, σ, h => ⟨[], [], σ, rfl, rfl, by simpa [DrawSeqE] using h.1, by simpa [DrawSeqE] using h.2, rfl, fun i o v hi => by simp at hi⟩
  | o :: r, i0, acc, σs, σ, h => by
    simp only [DrawSeqE] at h
    split at h
    · rename_i hm
      obtain ⟨v, σ', h1, h2⟩ := h
      obtain ⟨V, τs, τ, g1, g2, g3, g4, g5, g6⟩ := DrawSeqE.spec r (i0 + 1) (acc ++ [v]) (σs ++ [σ]) σ' h2
      refine ⟨v :: V, σ :: τs, τ, by simp [g1], by simp, by simpa using g3, by simpa using g4, by simp [List.range'_succ, hm, g5], fun i o' v' hi hv => ?_⟩
      match i with
      | 0 =>
        cases hi; cases hv
        refine ⟨σ, σ', by simp, ?_, fun h => (by rw [Nat.add_zero, hm] at h; cases h), fun E => by simpa using h1 E⟩
        simp only [Nat.zero_add, List.range'_one, List.filter_cons, hm, if_true, List.filter_nil, List.length_cons, List.length_nil]
        rw [List.cons_append, List.getElem?_cons_succ, g2]
        rfl
      | i + 1 =>
        obtain ⟨σ1, σ2, k1, k2, k3, k4⟩ := g6 i o' v' (by simpa using hi) (by simpa using hv)
        refine ⟨σ1, σ2, ?_, ?_, fun h => k3 (by rw [show i0 + 1 + i = i0 + (i + 1) by omega]; exact h), fun E => by simpa using k4 E⟩
        · simpa [List.range'_succ, hm] using k1
        · rw [List.range'_succ, List.filter_cons, hm]
          simpa using k2
    · rename_i hm
      obtain ⟨v, h1, h2⟩ := h
      obtain ⟨V, τs, τ, g1, g2, g3, g4, g5, g6⟩ := DrawSeqE.spec r (i0 + 1) (acc ++ [v]) σs σ h2
      refine ⟨v :: V, τs, τ, by simp [g1], g2, by simpa using g3, by simpa using g4, by simp [List.range'_succ, hm, g5], fun i o' v' hi hv => ?_⟩
      match i with
      | 0 =>
        cases hi; cases hv
        refine ⟨σ, σ, by rw [g2]; rfl, ?_, fun _ => rfl, fun E => by simpa using h1 E⟩
        simp only [Nat.zero_add, List.range'_one, List.filter_cons, hm, Bool.false_eq_true, if_false, List.filter_nil, List.length_nil]
        rw [g2]; rfl
      | i + 1 =>
        obtain ⟨σ1, σ2, k1, k2, k3, k4⟩ := g6 i o' v' (by simpa using hi) (by simpa using hv)
        refine ⟨σ1, σ2, ?_, ?_, fun h => k3 (by rw [show i0 + 1 + i = i0 + (i + 1) by omega]; exact h), fun E => by simpa using k4 E⟩
        · simpa [List.range'_succ, hm] using k1
        · rw [List.range'_succ, List.filter_cons, hm]
          simpa using k2

theorem RestK.get {V : List T} {σs : List Store} {effs : List Nat} {i : Nat} {o : Oper} {v : T} : ∀ {ks : List Nat}, RestK P σ0 sz ops base V σs effs i o v ks → ∀ k ∈ ks, ∀ σ, feas ops effs i k = true → σs[k]? = some σ → ∀ E : Env, AOps P σ0 sz ops.toArray (Only (St.put ⟨envAt ops V base o ++ E, σ⟩ o.dst v)) [o] ⟨envAt ops V base o ++ E, σ⟩
  | [], _, k, hk => by simp at hk
  | k0 :: ks, h, k, hk => fun σ hf hσ => by
    rcases List.mem_cons.1 hk with rfl | hk
    · have := h.1
      rw [hf] at this
      simp only [hσ] at this
      exact this
    · exact RestK.get h.2 k hk σ hf hσ

theorem RestI.get {V : List T} {σs : List Store} {effs : List Nat} {ks : List Nat} : ∀ {r : List Oper} {i0 : Nat}, RestI P σ0 sz ops base V σs effs ks r i0 → ∀ (i : Nat) (o : Oper) (v : T), r[i]? = some o → V[i0 + i]? = some v → memN (i0 + i) effs = false → RestK P σ0 sz ops base V σs effs (i0 + i) o v ks
  | [], _, _, i, o, v, hi, _, _ => by simp at hi
  | o0 :: r, i0, h, i, o, v, hi, hv, hm => by
    match i with
    | 0 =>
      cases hi
      have := h.1
      rw [Nat.add_zero] at hm hv
      rw [hm] at this
      simp only [hv] at this
      simpa using this
    | i + 1 =>
      have := RestI.get h.2 i o v (by simpa using hi) (by rw [show i0 + 1 + i = i0 + (i + 1) by omega]; exact hv) (by rw [show i0 + 1 + i = i0 + (i + 1) by omega]; exact hm)
      rwa [show i0 + 1 + i = i0 + (i + 1) by omega] at this

/-- The writing operations, in the order of the text: their numbers rise. -/
def rising : List Nat → Bool
  | a :: b :: r => Nat.blt a b && rising (b :: r)
  | _ => true

theorem count_rising : ∀ (effs : List Nat) (n : Nat), rising effs = true → (∀ e ∈ effs, e < n) → ((List.range n).filter fun i => memN i effs).length = effs.length ∧ ∀ k e, effs[k]? = some e → ((List.range e).filter fun i => memN i effs).length = k := by
  intro effs
  have sorted : ∀ l : List Nat, rising l = true → l.Pairwise (· < ·) := by
    intro l
    induction l with
    | nil => intro _; exact .nil
    | cons a l ih =>
      intro h
      cases l with
      | nil => simp
      | cons b l =>
        simp only [rising, Bool.and_eq_true, Nat.blt_eq] at h
        have hp := ih h.2
        refine List.pairwise_cons.2 ⟨fun c hc => ?_, hp⟩
        rcases List.mem_cons.1 hc with rfl | hc
        · exact h.1
        · exact Nat.lt_trans h.1 ((List.pairwise_cons.1 hp).1 c hc)
  have key : ∀ (l : List Nat), l.Pairwise (· < ·) → ∀ m, ((List.range m).filter fun i => memN i l).length = (l.filter fun e => decide (e < m)).length := by
    intro l hl m
    induction m with
    | zero =>
      have : l.filter (fun e => decide (e < 0)) = [] := List.filter_eq_nil_iff.2 fun e _ => by simp
      rw [this]
      rfl
    | succ m ih =>
      rw [List.range_succ, List.filter_append, List.length_append, ih]
      clear ih
      induction l with
      | nil => simp [memN]
      | cons a l ihl =>
        have hl' := (List.pairwise_cons.1 hl)
        have := ihl hl'.2
        by_cases ham : a = m
        · subst ham
          have hn : memN a l = false := by
            cases hb : memN a l with
            | false => rfl
            | true => exact absurd (hl'.1 a ((memN_iff a l).1 hb)) (Nat.lt_irrefl a)
          have hn2 : memN a (a :: l) = true := (memN_iff a _).2 (by simp)
          simp only [List.filter_cons, List.filter_nil, hn, hn2, Nat.lt_irrefl, decide_false, Nat.lt_succ_self, decide_true, if_true, Bool.false_eq_true, if_false, List.length_nil, List.length_cons, Nat.add_zero] at this ⊢
          omega
        · have hn2 : memN m (a :: l) = memN m l := by
            cases hb : memN m l with
            | true => exact (memN_iff m _).2 (List.mem_cons_of_mem _ ((memN_iff m l).1 hb))
            | false =>
              cases hb2 : memN m (a :: l) with
              | false => rfl
              | true =>
                rcases List.mem_cons.1 ((memN_iff m _).1 hb2) with h | h
                · exact absurd h.symm ham
                · rw [(memN_iff m l).2 h] at hb; cases hb
          simp only [List.filter_cons, List.filter_nil, hn2] at this ⊢
          by_cases h1 : a < m
          · have h2 : a < m + 1 := by omega
            simp only [h1, h2, decide_true, if_true, List.length_cons]
            omega
          · have h2 : ¬ a < m + 1 := by omega
            simp only [h1, h2, decide_false, Bool.false_eq_true, if_false]
            exact this
  intro n hr hn
  have hp := sorted effs hr
  refine ⟨?_, fun k e he => ?_⟩
  · rw [key effs hp n, List.filter_eq_self.2 fun e he => by simpa using hn e he]
  · rw [key effs hp e]
    clear hn key sorted hr
    induction effs generalizing k with
    | nil => simp at he
    | cons a l ih =>
      have hp' := List.pairwise_cons.1 hp
      cases k with
      | zero =>
        simp only [List.getElem?_cons_zero, Option.some.injEq] at he
        subst he
        rw [List.length_eq_zero_iff, List.filter_eq_nil_iff]
        intro x hx
        rcases List.mem_cons.1 hx with rfl | hx
        · simp
        · have := hp'.1 x hx
          simp; omega
      | succ k =>
        simp only [List.getElem?_cons_succ] at he
        have := ih hp'.2 k he
        have hlt := hp'.1 e (List.mem_of_getElem? he)
        simp only [List.filter_cons, hlt, decide_true, if_true, List.length_cons, this]

/-- A region that draws and writes. -/
theorem AWP.drawE {id : Nat} {s : St} (effs : List Nat) (hm : P.follows .mixedOrders = true) (hok : drawOk ops = true) (heff : effOk ops effs = true) (hris : rising effs = true) (h : DrawSeqE P σ0 sz ops effs s.env Q ops 0 [] [] s.σ) : AWP P σ0 sz (.region id ops.toArray true) Q s := fun Γ φ a w hΓ hR => by
  obtain ⟨V, τs, τ, hV, g2, g3, hQ, g5, each⟩ := DrawSeqE.spec ops 0 [] [] s.σ h
  simp only [List.nil_append] at hQ each g3
  obtain ⟨c1, c2⟩ := count_rising effs ops.length hris (fun e he => by
    obtain ⟨m, hm⟩ := List.getElem?_of_mem he
    exact effOk_lt heff hm)
  rw [← List.range_eq_range', c1] at g5
  have hdist : ∀ (i j : Nat) (o p : Oper) (t : Nat), ops[i]? = some o → ops[j]? = some p → i ≠ j → p.dst = some t → o.dst ≠ some t := fun i j o p t hi hj hij ht => ((drawOk_spec hok hi).2 j p t hj hij ht).1
  obtain ⟨e1, e2⟩ := envEnd_look ops V s.env hV hdist
  refine wp_region_any hm ?_
  rw [List.size_toArray]
  refine draw_anyE (V := V) (base := s.env) (effs := effs) (σs := τs ++ [τ]) hok heff hV (fun i o v k σ hi hv hσ hf hk => ⟨fun hik => ?_, fun hni E => ?_⟩) hΓ (fun σ E φ a w hσ h1 h2 hR => ?_) ops.length (Array.replicate ops.length false) 0 s.σ s.env φ a _ (by simp) (by rw [g2]; rfl) ⟨Nat.zero_le _, fun m e he => ?_⟩ ⟨fun j hj => ?_, fun j o _ hj => ?_, fun j t hj => ?_, fun t _ => rfl⟩ ?_ (by simp)
  · obtain ⟨σ1, σ2, k1, k2, _, k4⟩ := each i o v hi hv
    rw [← List.range_eq_range', c2 k i hik, hσ] at k1
    cases k1
    have hmi : memN i effs = true := (memN_iff i effs).2 (List.mem_of_getElem? hik)
    rw [← List.range_eq_range', List.range_succ, List.filter_append, List.length_append, c2 k i hik] at k2
    simp only [List.filter_cons, hmi, if_true, List.filter_nil, List.length_cons, List.length_nil] at k2
    refine ⟨σ2, k2, fun E => ?_⟩
    have := k4 E
    rwa [envAt_take (drawOk_spec hok hi).1] at this
  · have hmi : memN i effs = false := by
      cases hb : memN i effs with
      | false => rfl
      | true => exact absurd ((memN_iff i effs).1 hb) hni
    have := RestI.get g3 i o v hi (by simpa using hv) (by simpa using hmi)
    rw [Nat.zero_add] at this
    exact this.get k (by simp; omega) σ hf hσ E
  · have : σ = τ := by
      rw [← g5] at hσ
      simpa using hσ.symm
    subst this
    refine ⟨⟨envEnd ops V s.env, σ⟩, φ, hQ, { toRs := hR.toRs, defers := hR.defers, asize := hR.asize, env := fun t v ht => hR.env t v ?_ }⟩
    rw [← ht]
    by_cases hx : ∃ j, dstAt ops j = some t
    · obtain ⟨j, hj⟩ := hx
      exact (h1 j t hj).trans (e1 j t hj).symm
    · have hn : ∀ j, dstAt ops j ≠ some t := fun j hj => hx ⟨j, hj⟩
      exact (h2 t hn).trans (e2 t hn).symm
  · have : e < ops.length := effOk_lt heff he
    simp [this]
  · simp [Array.getElem?_replicate] at hj
    split at hj <;> simp at hj
  · simp [Array.getElem?_replicate] at hj
    split at hj <;> simp at hj
  · simp [Array.getElem?_replicate] at hj
    split at hj <;> simp at hj
  · exact { toRs := hR.toRs.drew, defers := hR.defers, asize := hR.asize, env := fun t v ht => let ⟨u, hu, hr⟩ := hR.env t v ht; ⟨u, hu, hr.mono (Kept.drew w φ s.σ _)⟩ }


theorem AWP.drawEI {id : Nat} {env : Env} {σv : Store} (effs : List Nat) (hm : P.follows .mixedOrders = true) (hok : drawOk ops = true) (heff : effOk ops effs = true) (hris : rising effs = true) (h : DrawSeqE P σ0 sz ops effs env Q ops 0 [] [] σv) : AWP P σ0 sz (.region id ops.toArray true) Q (St.mk env σv) := .drawE effs hm hok heff hris h

theorem DrawSeqE.consN {effs : List Nat} {o : Oper} {r : List Oper} {i : Nat} {env e : Env} {acc acc' : List T} {σs : List Store} {σv : Store} {v : T} (hm : memN i effs = false) (he : envF ops acc env o = some e) (h1 : ∀ E : Env, AOps P σ0 sz ops.toArray (Only (St.mk (putE (e ++ E) o.dst v) σv)) [o] (St.mk (e ++ E) σv)) (ha : snocF acc v = some acc')
    (h2 : DrawSeqE P σ0 sz ops effs env Q r (i + 1) acc' σs σv) : DrawSeqE P σ0 sz ops effs env Q (o :: r) i acc σs σv := by
  have e1 : envAt ops acc env o = e := envFT_eq he
  rw [snocF_eq ha] at h2
  simp only [DrawSeqE, hm]
  exact ⟨v, fun E => by rw [e1]; exact h1 E, h2⟩

theorem DrawSeqE.consE {effs : List Nat} {o : Oper} {r : List Oper} {i : Nat} {env e : Env} {acc acc' : List T} {σs σs' : List Store} {σv σ' : Store} {v : T} (hm : memN i effs = true) (he : envF ops acc env o = some e) (h1 : ∀ E : Env, AOps P σ0 sz ops.toArray (Only (St.mk (putE (e ++ E) o.dst v) σ')) [o] (St.mk (e ++ E) σv)) (ha : snocF acc v = some acc') (hs : snocF σs σv = some σs')
    (h2 : DrawSeqE P σ0 sz ops effs env Q r (i + 1) acc' σs' σ') : DrawSeqE P σ0 sz ops effs env Q (o :: r) i acc σs σv := by
  have e1 : envAt ops acc env o = e := envFT_eq he
  rw [snocF_eq ha, snocF_eq hs] at h2
  simp only [DrawSeqE, hm]
  exact ⟨v, σ', fun E => by rw [e1]; exact h1 E, h2⟩

theorem DrawSeqE.done {effs : List Nat} {i : Nat} {env : Env} {acc : List T} {σs σs' : List Store} {σv : Store} (hs : snocF σs σv = some σs') (hr : RestI P σ0 sz ops env acc σs' effs (List.range (effs.length + 1)) ops 0) (h : Q .normal (St.mk (envEnd ops acc env) σv)) : DrawSeqE P σ0 sz ops effs env Q [] i acc σs σv := by
  rw [snocF_eq hs] at hr
  exact ⟨hr, h⟩

theorem RestI.nil {effs ks : List Nat} {env : Env} {V : List T} {σs : List Store} {i : Nat} : RestI P σ0 sz ops env V σs effs ks [] i := trivial
theorem RestI.skip {effs ks : List Nat} {env : Env} {V : List T} {σs : List Store} {i : Nat} {o : Oper} {r : List Oper} (hm : memN i effs = true) (h : RestI P σ0 sz ops env V σs effs ks r (i + 1)) : RestI P σ0 sz ops env V σs effs ks (o :: r) i := by
  simp only [RestI, hm]; exact ⟨trivial, h⟩
theorem RestI.cons {effs ks : List Nat} {env : Env} {V : List T} {σs : List Store} {i : Nat} {o : Oper} {r : List Oper} {v : T} (hm : memN i effs = false) (hv : V[i]? = some v) (h1 : RestK P σ0 sz ops env V σs effs i o v ks) (h : RestI P σ0 sz ops env V σs effs ks r (i + 1)) : RestI P σ0 sz ops env V σs effs ks (o :: r) i := by
  simp only [RestI, hm, hv]; exact ⟨h1, h⟩
theorem RestK.nil {effs : List Nat} {env : Env} {V : List T} {σs : List Store} {i : Nat} {o : Oper} {v : T} : RestK P σ0 sz ops env V σs effs i o v [] := trivial
theorem RestK.skip {effs : List Nat} {env : Env} {V : List T} {σs : List Store} {i : Nat} {o : Oper} {v : T} {k : Nat} {ks : List Nat} (hf : feas ops effs i k = false) (h : RestK P σ0 sz ops env V σs effs i o v ks) : RestK P σ0 sz ops env V σs effs i o v (k :: ks) := by
  simp only [RestK, hf]; exact ⟨trivial, h⟩
theorem RestK.go {effs : List Nat} {env e : Env} {V : List T} {σs : List Store} {i : Nat} {o : Oper} {v : T} {k : Nat} {ks : List Nat} {σv : Store} (hs : σs[k]? = some σv) (he : envF ops V env o = some e) (h1 : ∀ E : Env, AOps P σ0 sz ops.toArray (Only (St.mk (putE (e ++ E) o.dst v) σv)) [o] (St.mk (e ++ E) σv)) (h : RestK P σ0 sz ops env V σs effs i o v ks) : RestK P σ0 sz ops env V σs effs i o v (k :: ks) := by
  have e1 : envAt ops V env o = e := envFT_eq he
  simp only [RestK, hs]
  refine ⟨?_, h⟩
  split
  · exact fun E => by rw [e1]; exact h1 E
  · trivial
end
end Ab
