/-
  A REGION THAT DRAWS ITS ORDER AND WRITES IN MORE THAN ONE ORDER: which of the writing operations have run tells the store.
-/
import Derived.Test.YtfjbddjoagefkaaSl
namespace Ab
open Go
section
variable {P : Program} {σ0 : Store} {sz : Nat} {Q : Post} {ops : List Oper} {base : Env}

theorem anc_closed {listed : Array Bool} (hsz : listed.size = ops.length) (hc : ∀ j p, ops[j]? = some p → listed.getD j false = true → ∀ x ∈ waits p, listed.getD x false = true) : ∀ (f e i : Nat) (o : Oper), ops[i]? = some o → (∀ x ∈ waits o, listed.getD x false = true) → anc ops f e i = true → listed.getD e false = true
  | 0, e, i, o, _, _, h => by simp [anc] at h
  | f + 1, e, i, o, ho, hw, h => by
    simp only [anc, ho, List.any_eq_true, Bool.or_eq_true] at h
    obtain ⟨x, hx, h | h⟩ := h
    · rw [← Nat.eq_of_beq_eq_true h]; exact hw x hx
    · have hl := hw x hx
      have hlt : x < ops.length := by
        rw [← hsz]
        rcases Nat.lt_or_ge x listed.size with g | g
        · exact g
        · simp [Array.getD, Nat.not_lt.2 g] at hl
      exact anc_closed hsz hc f e x _ (List.getElem?_eq_getElem hlt) (hc x _ (List.getElem?_eq_getElem hlt) hl) h

/-- What an environment may hold when operation i comes up: what was there, and what operations that do not wait for i have made. -/
def EOk (ops : List Oper) (V : List T) (base : Env) (i : Nat) (E : Env) : Prop := ∀ t v, lookup t E = some v → lookup t base = some v ∨ ∃ j, j ≠ i ∧ anc ops ops.length i j = false ∧ V[j]? = some v

theorem draw_anyS {V : List T} {Sg : Array Bool → Store → Prop} (hok : drawOk ops = true) (hV : V.length = ops.length)
    (each : ∀ (listed : Array Bool) (σ : Store) (i : Nat) (o : Oper) (v : T), listed.size = ops.length → Sg listed σ → (∀ E : Env, DInv ops V base listed E → True) → ops[i]? = some o → V[i]? = some v → listed.getD i false = false → (∀ x ∈ waits o, listed.getD x false = true) →
      (∀ j p, ops[j]? = some p → listed.getD j false = true → ∀ x ∈ waits p, listed.getD x false = true) → ∃ σ', Sg (listed.setIfInBounds i true) σ' ∧ ∀ E : Env, EOk ops V base i E → AOps P σ0 sz ops.toArray (Only (St.put ⟨envAt ops V base o ++ E, σ'⟩ o.dst v)) [o] ⟨envAt ops V base o ++ E, σ⟩)
    {Γ : Cx} (hΓ : Γ.σ0 = σ0) (hend : ∀ listed σ E φ a w, Sg listed σ → (∀ j, j < ops.length → listed.getD j false = true) → (∀ j t, dstAt ops j = some t → lookup t E = V[j]?) → (∀ t, (∀ j, dstAt ops j ≠ some t) → lookup t E = lookup t base) → R Γ sz ⟨E, σ⟩ φ a w → lift Γ sz Q .normal a w) :
    ∀ (fuel : Nat) (listed : Array Bool) (σ : Store) (E : Env) (φ : Phi) (a : Act) (w : World), listed.size = ops.length → Sg listed σ → DInv ops V base listed E → R Γ sz ⟨E, σ⟩ φ a w → (ops.length ≤ fuel + (listed.toList.filter (fun b => b)).length) →
      wpAny P .any ops.toArray (lift Γ sz Q) fuel listed a w := by
  have finish : ∀ (listed : Array Bool) (σ : Store) (E : Env) (φ : Phi) (a : Act) (w : World), listed.size = ops.length → Sg listed σ → DInv ops V base listed E → R Γ sz ⟨E, σ⟩ φ a w → Region.ready .any ops.toArray listed = [] → lift Γ sz Q .normal a w := by
    intro listed σ E φ a w hsz hSg hI hR hr
    -- all have run: the least that has not would be ready
    have all : ∀ n j, j < n → j < ops.length → listed.getD j false = true := by
      intro n
      induction n with
      | zero => intro j hj; omega
      | succ n ih =>
        intro j hj hjl
        by_cases hb : listed.getD j false = true
        · exact hb
        · have : j ∈ Region.ready .any ops.toArray listed := by
            rw [mem_ready]
            refine ⟨?_, ops[j], by simp [hjl], fun e he hbi => ?_⟩
            · have : j < listed.size := by omega
              simpa [this] using hb
            · have hw : e.on ∈ waits ops[j] := by
                simp only [waits, List.mem_map, List.mem_filter]
                exact ⟨e, ⟨by simpa using he, hbi⟩, rfl⟩
              have hlt := (drawOk_spec hok (List.getElem?_eq_getElem hjl)).1 _ hw
              exact ih e.on (by omega) (by omega)
          rw [hr] at this; cases this
    refine hend listed σ E φ a w hSg (fun j hj => all (j + 1) j (by omega) hj) (fun j t hd => ?_) (fun t ht => hI.rest t fun j hj => ht j) hR
    have hjl : j < ops.length := by
      unfold dstAt at hd
      cases ho : ops[j]? with
      | none => rw [ho] at hd; cases hd
      | some o => exact (List.getElem?_eq_some_iff.1 ho).1
    exact hI.ran j t (all (j + 1) j (by omega) hjl) hd
  intro fuel
  induction fuel with
  | zero =>
    intro listed σ E φ a w hsz hSg hI hR hf
    have hr : Region.ready .any ops.toArray listed = [] := by
      rw [List.eq_nil_iff_forall_not_mem]
      intro j hj
      rw [mem_ready] at hj
      obtain ⟨h0, o, ho, _⟩ := hj
      have hjl : j < ops.length := by simpa using (Array.getElem?_eq_some_iff.1 ho).1
      have hlt : (listed.toList.filter (fun b => b)).length < listed.toList.length := by
        apply List.length_filter_lt_length_iff_exists.2
        refine ⟨false, ?_, by simp⟩
        have : j < listed.size := by omega
        simp [this] at h0
        rw [← h0]
        simp
      simp at hlt
      omega
    exact ⟨hr, finish listed σ E φ a w hsz hSg hI hR hr⟩
  | succ fuel ih =>
    intro listed σ E φ a w hsz hSg hI hR hf
    refine ⟨finish listed σ E φ a w hsz hSg hI hR, fun i hi => ?_⟩
    rw [mem_ready] at hi
    obtain ⟨h0, o, ho, hw⟩ := hi
    have ho' : ops[i]? = some o := by simpa using ho
    have hil : i < ops.length := (List.getElem?_eq_some_iff.1 ho').1
    have hn : listed.getD i false = false := by
      have : i < listed.size := by omega
      simpa [this] using h0
    have hwl : ∀ e ∈ waits o, listed.getD e false = true := fun e he => by
      simp only [waits, List.mem_map, List.mem_filter] at he
      obtain ⟨ed, ⟨h1, h2⟩, rfl⟩ := he
      exact hw ed (by simpa using h1) h2
    have hvi : V[i]? = some V[i] := List.getElem?_eq_getElem (by omega)
    obtain ⟨σ', hSg', hop⟩ := each listed σ i o _ hsz hSg (fun _ _ => trivial) ho' hvi hn hwl hI.closed
    have hop := hop E fun t v ht => by
      by_cases hx : ∃ j, listed.getD j false = true ∧ dstAt ops j = some t
      · obtain ⟨j, hj, hd⟩ := hx
        have hjl := hI.lt j hj
        refine .inr ⟨j, fun e => (by subst e; rw [hn] at hj; cases hj), ?_, by rw [← hI.ran j t hj hd]; exact ht⟩
        cases hb : anc ops ops.length i j with
        | false => rfl
        | true =>
          have := anc_closed hsz hI.closed _ i j _ (List.getElem?_eq_getElem hjl) (hI.closed j _ (List.getElem?_eq_getElem hjl) hj) hb
          rw [hn] at this; cases this
      · exact .inl (by rw [← hI.rest t fun j hj hd => hx ⟨j, hj, hd⟩]; exact ht)
    have hR' : R Γ sz ⟨envAt ops V base o ++ E, σ⟩ φ a w := { toRs := hR.toRs, defers := hR.defers, asize := hR.asize, env := fun t v ht => hR.env t v (hI.env hok ho' hn hwl t v ht) }
    have hrun := hop Γ φ a w hΓ hR'
    have next : ∀ a' w', lift Γ sz (Only (St.put ⟨envAt ops V base o ++ E, σ'⟩ o.dst V[i])) .normal a' w' → wpAny P .any ops.toArray (lift Γ sz Q) fuel (listed.setIfInBounds i true) a' w' := by
      rintro a' w' ⟨s', φ', ⟨_, rfl⟩, hRn⟩
      have look : ∀ t, o.dst ≠ some t → ∀ v, lookup t (St.put ⟨envAt ops V base o ++ E, σ'⟩ o.dst V[i]).env = some v → lookup t E = some v := fun t ht v hv => by
        cases hd : o.dst with
        | none => rw [hd] at hv; exact hI.env hok ho' hn hwl t v hv
        | some d =>
          rw [hd] at hv ht
          simp only [St.put, putE, lookup] at hv
          have : Nat.beq d t = false := beq_ne fun e : d = t => ht (by rw [e])
          rw [this] at hv
          exact hI.env hok ho' hn hwl t v hv
      -- an environment with exactly the lookups wanted
      have hRE : R Γ sz ⟨(St.put ⟨E, σ'⟩ o.dst V[i]).env, σ'⟩ φ' a' w' := by
        refine { toRs := ?_, defers := hRn.defers, asize := hRn.asize, env := fun t v ht => ?_ }
        · have := hRn.toRs
          cases hd : o.dst <;> simpa [hd, St.put, putE] using this
        · have hσ : (St.put ⟨envAt ops V base o ++ E, σ'⟩ o.dst V[i]).σ = σ' := by cases o.dst <;> rfl
          have := hRn.env t v (by
            cases hd : o.dst with
            | none =>
              rw [hd] at ht
              simp only [St.put, putE] at ht ⊢
              rw [lookup_append]
              cases hx : lookup t (envAt ops V base o) with
              | none => exact ht
              | some x =>
                have := hI.env hok ho' hn hwl t x (by rw [lookup_append, hx])
                rw [ht] at this
                exact this.symm
            | some d =>
              rw [hd] at ht
              simp only [St.put, putE, lookup] at ht ⊢
              split at ht
              · exact ht
              · rw [lookup_append]
                cases hx : lookup t (envAt ops V base o) with
                | none => exact ht
                | some x =>
                  have := hI.env hok ho' hn hwl t x (by rw [lookup_append, hx])
                  rw [ht] at this
                  exact this.symm)
          rw [hσ] at this
          exact this
      have lset : ∀ j, (listed.setIfInBounds i true).getD j false = true ↔ j = i ∨ listed.getD j false = true := fun j => by
        by_cases hj : i = j
        · subst hj
          have : i < listed.size := by omega
          simp [this]
        · simp [Array.getElem?_setIfInBounds_ne hj, Ne.symm hj]
      refine ih (listed.setIfInBounds i true) σ' _ φ' a' w' (by simpa using hsz) hSg' ⟨fun j hj => ?_, fun j p hp hj e he => ?_, fun j t hj hd => ?_, fun t ht => ?_⟩ hRE ?_
      · rcases (lset j).1 hj with rfl | h
        · exact hil
        · exact hI.lt j h
      · rcases (lset j).1 hj with rfl | h
        · rw [ho'] at hp; cases hp
          exact (lset e).2 (.inr (hwl e he))
        · exact (lset e).2 (.inr (hI.closed j p hp h e he))
      · rcases (lset j).1 hj with rfl | h
        · have hd' : o.dst = some t := by simpa [dstAt, ho'] using hd
          simp [hd', St.put, putE, lookup, hvi]
        · have hne : o.dst ≠ some t := by
            have hlt := hI.lt j h
            obtain ⟨p, hp⟩ : ∃ p, ops[j]? = some p := ⟨_, List.getElem?_eq_getElem hlt⟩
            have hpd : p.dst = some t := by simpa [dstAt, hp] using hd
            by_cases hij : i = j
            · subst hij; rw [hn] at h; cases h
            · exact ((drawOk_spec hok ho').2 j p t hp hij hpd).1
          rw [← hI.ran j t h hd]
          cases hd2 : o.dst with
          | none => rfl
          | some d =>
            have : Nat.beq d t = false := beq_ne fun e : d = t => hne (by rw [hd2, e])
            simp [St.put, putE, lookup, this]
      · have hne : o.dst ≠ some t := by
          have := ht i ((lset i).2 (.inl rfl))
          simpa [dstAt, ho'] using this
        rw [← hI.rest t fun j hj => ht j ((lset j).2 (.inr hj))]
        cases hd2 : o.dst with
        | none => rfl
        | some d =>
          have : Nat.beq d t = false := beq_ne fun e : d = t => hne (by rw [hd2, e])
          simp [St.put, putE, lookup, this]
      · have hcount : (listed.toList.filter (fun b => b)).length + 1 ≤ ((listed.setIfInBounds i true).toList.filter (fun b => b)).length := by
          rw [Array.toList_setIfInBounds]
          refine count_set ?_
          have : i < listed.size := by omega
          simp [this] at hn
          simp [this, hn]
        omega
    unfold wpOp
    rw [ho]
    simp only
    unfold wpList at hrun
    by_cases hwt : Region.wanted o (yielded ops.toArray a.tmps) = true
    · rw [if_pos hwt] at hrun ⊢
      rcases hrun with hrun | ⟨_, a0, w0, s0, φ0, ⟨he, _⟩, _⟩
      · refine .inl ?_
        unfold Oper.wp at hrun ⊢
        refine upon_mono (fun a' w' h => next a' w' h) (fun e a' w' hne h => ?_) hrun
        obtain ⟨s0, φ0, ⟨he, _⟩, _⟩ := h
        exact absurd he hne
      · cases he
    · rw [if_neg hwt] at hrun ⊢
      exact next _ _ hrun



/-- Can operation i come up when of the writing operations those in S have run? -/
def feasS (ops : List Oper) (effs S : List Nat) (i : Nat) : Bool :=
  !memN i S && (effs.all fun e => !anc ops ops.length e i || memN e S) && S.all fun e => !anc ops ops.length i e
/-- The store when those in S have run. -/
def tabAt (S : List Nat) : List (List Nat × Store) → Option Store
  | [] => none
  | (S', σ) :: r => match lbeq S' S with
    | true => some σ
    | false => tabAt S r
/-- What each operation does where those in S have run. -/
def EntOps (P : Program) (σ0 : Store) (sz : Nat) (ops : List Oper) (base : Env) (V : List T) (effs : List Nat) (tab : List (List Nat × Store)) (S : List Nat) (σ : Store) : List Oper → Nat → Prop
  | [], _ => True
  | o :: r, i => (feasS ops effs S i = true → ∀ v, V[i]? = some v → ∃ σ', (memN i effs = false → σ' = σ) ∧ (memN i effs = true → tabAt (effs.filter fun e => memN e S || Nat.beq e i) tab = some σ') ∧ ∀ E : Env, EOk ops V base i E → AOps P σ0 sz ops.toArray (Only (St.put ⟨envAt ops V base o ++ E, σ'⟩ o.dst v)) [o] ⟨envAt ops V base o ++ E, σ⟩) ∧
    EntOps P σ0 sz ops base V effs tab S σ r (i + 1)
def TabOk (P : Program) (σ0 : Store) (sz : Nat) (ops : List Oper) (base : Env) (V : List T) (effs : List Nat) (tab : List (List Nat × Store)) : List (List Nat × Store) → Prop
  | [] => True
  | (S, σ) :: r => EntOps P σ0 sz ops base V effs tab S σ ops 0 ∧ TabOk P σ0 sz ops base V effs tab r

theorem EntOps.get {V : List T} {effs : List Nat} {tab : List (List Nat × Store)} {S : List Nat} {σ : Store} : ∀ {r : List Oper} {i0 : Nat}, EntOps P σ0 sz ops base V effs tab S σ r i0 → ∀ i o, r[i]? = some o → feasS ops effs S (i0 + i) = true → ∀ v, V[i0 + i]? = some v →
    ∃ σ', (memN (i0 + i) effs = false → σ' = σ) ∧ (memN (i0 + i) effs = true → tabAt (effs.filter fun e => memN e S || Nat.beq e (i0 + i)) tab = some σ') ∧ ∀ E : Env, EOk ops V base (i0 + i) E → AOps P σ0 sz ops.toArray (Only (St.put ⟨envAt ops V base o ++ E, σ'⟩ o.dst v)) [o] ⟨envAt ops V base o ++ E, σ⟩
  | [], _, _, i, o, h => by simp at h
  | _ :: _, i0, h, 0, o, ho => by cases ho; exact h.1
  | _ :: r, i0, h, i + 1, o, ho => by
    have := EntOps.get h.2 i o (by simpa using ho)
    rwa [show i0 + 1 + i = i0 + (i + 1) by omega] at this
theorem lbeq_eq {a b : List Nat} (h : lbeq a b = true) : a = b := by
  have := @idb_iff (0, a) (0, b)
  have h2 : idb (0, a) (0, b) = true := by simp [idb, h]
  exact (Prod.mk.inj (this.1 h2)).2
theorem TabOk.get {V : List T} {effs : List Nat} {tab : List (List Nat × Store)} : ∀ {r : List (List Nat × Store)}, TabOk P σ0 sz ops base V effs tab r → ∀ S σ, tabAt S r = some σ → EntOps P σ0 sz ops base V effs tab S σ ops 0
  | [], _, S, σ, h => by cases h
  | (S', σ') :: r, h, S, σ, hS => by
    simp only [tabAt] at hS
    split at hS
    · rename_i he
      cases hS
      rw [← lbeq_eq he]; exact h.1
    · exact TabOk.get h.2 S σ hS

theorem memN_false {n : Nat} {l : List Nat} (h : n ∉ l) : memN n l = false := by
  cases hb : memN n l with
  | false => rfl
  | true => exact absurd ((memN_iff n l).1 hb) h

/-- A region that draws and writes, by a table of its stores. -/
theorem AWP.drawT {id : Nat} {s : St} (V : List T) (effs : List Nat) (tab : List (List Nat × Store)) (σe : Store) (hm : P.follows .mixedOrders = true) (hok : drawOk ops = true) (hV : V.length = ops.length) (heff : (effs.all fun e => Nat.blt e ops.length) = true)
    (htab : TabOk P σ0 sz ops s.env V effs tab tab) (h0 : tabAt [] tab = some s.σ) (he : tabAt effs tab = some σe) (hQ : Q .normal ⟨envEnd ops V s.env, σe⟩) : AWP P σ0 sz (.region id ops.toArray true) Q s := fun Γ φ a w hΓ hR => by
  have hdist : ∀ (i j : Nat) (o p : Oper) (t : Nat), ops[i]? = some o → ops[j]? = some p → i ≠ j → p.dst = some t → o.dst ≠ some t := fun i j o p t hi hj hij ht => ((drawOk_spec hok hi).2 j p t hj hij ht).1
  obtain ⟨e1, e2⟩ := envEnd_look ops V s.env hV hdist
  refine wp_region_any hm ?_
  rw [List.size_toArray]
  refine draw_anyS (V := V) (base := s.env) (Sg := fun listed σ => tabAt (effs.filter fun e => listed.getD e false) tab = some σ) hok hV (fun listed σ i o v hsz hSg _ ho hv hn hw hc => ?_) hΓ (fun listed σ E φ a w hSg hall h1 h2 hR => ?_) ops.length (Array.replicate ops.length false) s.σ s.env φ a _ (by simp) ?_ ⟨fun j hj => ?_, fun j p hp hj => ?_, fun j t hj => ?_, fun t _ => rfl⟩ ?_ (by simp)
  · have hil : i < listed.size := by rw [hsz]; exact (List.getElem?_eq_some_iff.1 ho).1
    have hmem : ∀ e, e ∈ effs → memN e (effs.filter fun e => listed.getD e false) = listed.getD e false := fun e hee => by
      cases hb : listed.getD e false with
      | true => exact (memN_iff e _).2 (List.mem_filter.2 ⟨hee, hb⟩)
      | false => exact memN_false fun h => by rw [(List.mem_filter.1 h).2] at hb; cases hb
    have hfe : feasS ops effs (effs.filter fun e => listed.getD e false) i = true := by
      unfold feasS
      simp only [Bool.and_eq_true, List.all_eq_true, Bool.not_eq_true', Bool.or_eq_true]
      refine ⟨⟨memN_false (fun h => by rw [(List.mem_filter.1 h).2] at hn; cases hn), fun e hee => ?_⟩, fun e hee => ?_⟩
      · cases hb : anc ops ops.length e i with
        | false => exact .inl rfl
        | true => right; rw [hmem e hee]; exact anc_closed hsz hc _ e i o ho hw hb
      · cases hb : anc ops ops.length i e with
        | false => rfl
        | true =>
          have hel := (List.mem_filter.1 hee).2
          have hlt : e < ops.length := by
            have := List.all_eq_true.1 heff e (List.mem_filter.1 hee).1
            simpa using this
          have := anc_closed hsz hc _ i e _ (List.getElem?_eq_getElem hlt) (hc e _ (List.getElem?_eq_getElem hlt) hel) hb
          rw [hn] at this; cases this
    obtain ⟨σ', k1, k2, k3⟩ := (htab.get _ σ hSg).get i o ho (by rw [Nat.zero_add]; exact hfe) v (by rw [Nat.zero_add]; exact hv)
    rw [Nat.zero_add] at k1 k2 k3
    refine ⟨σ', ?_, k3⟩
    have lset : ∀ e, (listed.setIfInBounds i true).getD e false = (listed.getD e false || Nat.beq e i) := fun e => by
      by_cases hj : i = e
      · subst hj; simp [hil]
      · have hb : Nat.beq e i = false := beq_ne fun h => hj h.symm
        rw [hb, Bool.or_false]
        simp [Array.getElem?_setIfInBounds_ne hj]
    cases hmi : memN i effs with
    | true =>
      have := k2 hmi
      rw [← this]
      congr 1
      refine List.filter_congr fun e hee => ?_
      rw [lset, hmem e hee]
    | false =>
      rw [k1 hmi, ← hSg]
      congr 1
      refine List.filter_congr fun e hee => ?_
      rw [lset]
      have : Nat.beq e i = false := beq_ne fun h => by subst h; rw [(memN_iff e effs).2 hee] at hmi; cases hmi
      rw [this, Bool.or_false]
  · have hfull : (effs.filter fun e => listed.getD e false) = effs := List.filter_eq_self.2 fun e hee => hall e (by have := List.all_eq_true.1 heff e hee; simpa using this)
    rw [hfull, he] at hSg
    cases hSg
    refine ⟨⟨envEnd ops V s.env, σe⟩, φ, hQ, { toRs := hR.toRs, defers := hR.defers, asize := hR.asize, env := fun t v ht => hR.env t v ?_ }⟩
    rw [← ht]
    by_cases hx : ∃ j, dstAt ops j = some t
    · obtain ⟨j, hj⟩ := hx
      exact (h1 j t hj).trans (e1 j t hj).symm
    · have hn : ∀ j, dstAt ops j ≠ some t := fun j hj => hx ⟨j, hj⟩
      exact (h2 t hn).trans (e2 t hn).symm
  · have : (effs.filter fun e => (Array.replicate ops.length false).getD e false) = [] := List.filter_eq_nil_iff.2 fun e _ => by
      simp [Array.getElem?_replicate]
      split <;> rfl
    rw [this]; exact h0
  · simp [Array.getElem?_replicate] at hj
    split at hj <;> simp at hj
  · simp [Array.getElem?_replicate] at hj
    split at hj <;> simp at hj
  · simp [Array.getElem?_replicate] at hj
    split at hj <;> simp at hj
  · exact { toRs := hR.toRs.drew, defers := hR.defers, asize := hR.asize, env := fun t v ht => let ⟨u, hu, hr⟩ := hR.env t v ht; ⟨u, hu, hr.mono (Kept.drew w φ s.σ _)⟩ }


theorem AWP.drawTI {id : Nat} {env : Env} {σv : Store} (V : List T) (effs : List Nat) (tab : List (List Nat × Store)) (σe : Store) (hm : P.follows .mixedOrders = true) (hok : drawOk ops = true) (hV : V.length = ops.length) (heff : (effs.all fun e => Nat.blt e ops.length) = true)
    (h0 : tabAt [] tab = some σv) (he : tabAt effs tab = some σe) (htab : TabOk P σ0 sz ops env V effs tab tab) (hQ : Q .normal (St.mk (envEnd ops V env) σe)) : AWP P σ0 sz (.region id ops.toArray true) Q (St.mk env σv) := .drawT V effs tab σe hm hok hV heff htab h0 he hQ

theorem TabOk.nil {V : List T} {effs : List Nat} {tab : List (List Nat × Store)} : TabOk P σ0 sz ops base V effs tab [] := trivial
theorem TabOk.cons {V : List T} {effs : List Nat} {tab r : List (List Nat × Store)} {S : List Nat} {σ : Store} (h1 : EntOps P σ0 sz ops base V effs tab S σ ops 0) (h2 : TabOk P σ0 sz ops base V effs tab r) : TabOk P σ0 sz ops base V effs tab ((S, σ) :: r) := ⟨h1, h2⟩
theorem EntOps.nil {V : List T} {effs : List Nat} {tab : List (List Nat × Store)} {S : List Nat} {σ : Store} {i : Nat} : EntOps P σ0 sz ops base V effs tab S σ [] i := trivial
theorem EntOps.no {V : List T} {effs : List Nat} {tab : List (List Nat × Store)} {S : List Nat} {σ : Store} {i : Nat} {o : Oper} {r : List Oper} (hf : feasS ops effs S i = false) (h : EntOps P σ0 sz ops base V effs tab S σ r (i + 1)) : EntOps P σ0 sz ops base V effs tab S σ (o :: r) i :=
  ⟨fun h' => (by rw [hf] at h'; cases h'), h⟩
theorem EntOps.go {V : List T} {effs : List Nat} {tab : List (List Nat × Store)} {S : List Nat} {σ : Store} {i : Nat} {o : Oper} {r : List Oper} {v : T} {e : Env} (hm : memN i effs = false) (hv : V[i]? = some v) (he : envF ops V base o = some e)
    (h1 : ∀ E : Env, EOk ops V base i E → AOps P σ0 sz ops.toArray (Only (St.mk (putE (e ++ E) o.dst v) σ)) [o] (St.mk (e ++ E) σ)) (h : EntOps P σ0 sz ops base V effs tab S σ r (i + 1)) : EntOps P σ0 sz ops base V effs tab S σ (o :: r) i := by
  have e1 : envAt ops V base o = e := envFT_eq he
  refine ⟨fun _ v' hv' => ?_, h⟩
  rw [hv] at hv'; cases hv'
  refine ⟨σ, fun _ => rfl, fun h' => (by rw [hm] at h'; cases h'), fun E hE => ?_⟩
  rw [e1]; exact h1 E hE
theorem EntOps.eff {V : List T} {effs : List Nat} {tab : List (List Nat × Store)} {S : List Nat} {σ σ' : Store} {i : Nat} {o : Oper} {r : List Oper} {v : T} {e : Env} (hm : memN i effs = true) (hv : V[i]? = some v) (ht : tabAt (effs.filter fun e => memN e S || Nat.beq e i) tab = some σ') (he : envF ops V base o = some e)
    (h1 : ∀ E : Env, EOk ops V base i E → AOps P σ0 sz ops.toArray (Only (St.mk (putE (e ++ E) o.dst v) σ')) [o] (St.mk (e ++ E) σ)) (h : EntOps P σ0 sz ops base V effs tab S σ r (i + 1)) : EntOps P σ0 sz ops base V effs tab S σ (o :: r) i := by
  have e1 : envAt ops V base o = e := envFT_eq he
  refine ⟨fun _ v' hv' => ?_, h⟩
  rw [hv] at hv'; cases hv'
  refine ⟨σ', fun h' => (by rw [hm] at h'; cases h'), fun _ => ht, fun E hE => ?_⟩
  rw [e1]; exact h1 E hE

/-- No value that may lie about names block id. -/
def vNo (id : Id) (ops : List Oper) (i : Nat) : List T → Nat → Bool
  | [], _ => true
  | v :: r, j => (Nat.beq j i || anc ops ops.length i j || v.no id) && vNo id ops i r (j + 1)
theorem vNo_get {id : Id} {i : Nat} : ∀ {V : List T} {j : Nat}, vNo id ops i V j = true → ∀ k v, V[k]? = some v → j + k ≠ i → anc ops ops.length i (j + k) = false → v.no id = true
  | [], _, _, k, v, h => by simp at h
  | x :: r, j, h, k, v, hv => fun h1 h2 => by
    simp only [vNo, Bool.and_eq_true, Bool.or_eq_true] at h
    match k with
    | 0 =>
      cases hv
      rcases h.1 with (h3 | h3) | h3
      · exact absurd (Nat.eq_of_beq_eq_true h3) h1
      · rw [Nat.add_zero] at h2; rw [h2] at h3; cases h3
      · exact h3
    | k + 1 => exact vNo_get h.2 k v (by simpa using hv) (by rw [show j + 1 + k = j + (k + 1) by omega]; exact h1) (by rw [show j + 1 + k = j + (k + 1) by omega]; exact h2)

/-- No block names root n. -/
inductive NoE (n : Nat) : Ent → Prop
  | dead : NoE n .dead
  | one {b : Blk} (h : b.no (n, []) = true) : NoE n (.one b)
  | vec {β : Type} {k : Nat} {g : β → List I} {l : List β} : NoE n (.one (vec k g l))
  | mat {β : Type} {k r : Nat} {g : β → List I} {l : List (List β)} (h : Nat.beq n r = false) : NoE n (mat (r, []) k g l)
def NoL (n : Nat) : List Ent → Prop
  | [] => True
  | e :: r => NoE n e ∧ NoL n r
theorem NoL.get {n : Nat} : ∀ {l : List Ent}, NoL n l → ∀ (j : Nat) (e : Ent), l[j]? = some e → NoE n e
  | _ :: _, h, 0, e, he => by simp only [List.getElem?_cons_zero, Option.some.injEq] at he; subst he; exact h.1
  | _ :: l, h, j + 1, e, he => NoL.get h.2 j e (by simpa using he)
theorem NoL.all {n : Nat} {σ : Store} (h : NoL n σ) (i : Id) (b : Blk) (hb : σ[i]? = some (some b)) : b.no (n, []) = true := by
  obtain ⟨j, q⟩ := i
  rw [Store.at_eq] at hb
  simp only [Store.at] at hb
  cases he : σ[j]? with
  | none => simp [he] at hb
  | some e =>
    rw [he] at hb; simp only [Option.some.injEq] at hb
    have g := NoL.get h j e he
    cases g with
    | dead => cases q <;> cases hb
    | one h1 => cases q with
      | nil => cases hb; exact h1
      | cons => cases hb
    | vec => cases q with
      | nil => cases hb; exact Blk.im_no _ _ _
      | cons => cases hb
    | mat h1 =>
      rcases mat_sub hb with ⟨rfl, rfl⟩ | ⟨q', row, rfl, _, rfl⟩
      · exact hdr_no (fun e => by simp at e; rw [e] at h1; simp at h1)
      · exact Blk.im_no _ _ _

/-- A new block that takes a number kept for it. -/
theorem AOps.allocAt {ops' : Array Oper} {rest : List Oper} {dst : Option Nat} {ty : TypeId} {pos : String} {after : Array Edge} {V : List T} {e E : Env} {i : Nat} {σv σ' : Store} {t : TypeId} {cs : List C} {k : Nat} (n : Nat) [hz : TyZ P t cs] (hE : EOk ops V base i E) (hb : envNo (n, []) base = true) (hV : vNo (n, []) ops i V 0 = true) (he : envNo (n, []) e = true)
    (hk : idF cs = some k) (hσ : setF σv n (.one (.cells k [cs])) = some σ') (hi : C.okL 0 cs = true) (h0 : Nat.ble σ0.length n = true) (hs : NoL n σv) (hd : dstOk sz dst = true)
    (h : AOps P σ0 sz ops' Q rest (St.mk (putE (e ++ E) dst (.c (.ptr (n, []) 0 0))) σ')) : AOps P σ0 sz ops' Q (⟨dst, .alloc t, ty, pos, after, none⟩ :: rest) (St.mk (e ++ E) σv) := fun Γ φ a w hΓ hR => by
  have h1 := idF_eq hk; have h3 := setF_eq hσ
  subst h1
  obtain ⟨rfl, hlt⟩ := h3
  obtain ⟨size, bytes, z, v, hs', g1, g2⟩ := hz.h
  refine AOps.alloc (hs := hs') g1 g2 hd (AOps.sub (s' := St.mk (putE (e ++ E) dst (.c (.ptr (n, []) 0 0))) (σv.set n (.one (.cells cs.length [cs])))) ?_ h) Γ φ a w hΓ hR
  have h0' := Nat.le_of_ble_eq_true h0
  have hblk : (Blk.cells cs.length [cs]).ok 0 = true := by simp [Blk.ok, hi]
  have hok0 : ∀ (t : Nat) (v : T), lookup t (e ++ E) = some v → v.ok σv.length = true := fun t v ht => by
    obtain ⟨u, _, hr⟩ := hR.env t v ht
    exact hr.ok
  have hno0 : ∀ (t : Nat) (v : T), lookup t (e ++ E) = some v → v.no (n, []) = true := fun t v ht => by
    rw [lookup_append] at ht
    cases hx : lookup t e with
    | some x =>
      rw [hx] at ht; cases ht
      exact envNo_get he t v hx
    | none =>
      rw [hx] at ht
      rcases hE t v ht with g | ⟨j, g1, g2, g3⟩
      · exact envNo_get hb t v g
      · exact vNo_get hV j v g3 (by rw [Nat.zero_add]; exact g1) (by rw [Nat.zero_add]; exact g2)
  have mve : mv (n, []) (σv.length, []) (n, []) = (σv.length, []) := by simp [mv, idb_iff.2 rfl]
  have mvn : ∀ i : Id, i ≠ (n, []) → mv (n, []) (σv.length, []) i = i := fun i h => by simp [mv, idb_ne h]
  have hlt' : ∀ (i : Id) (b : Blk), (σv.set n (.one (.cells cs.length [cs])))[i]? = some (some b) → i.1 < σv.length := fun i b hi => by
    have := Store.lt_of hi
    simpa using this
  refine Sub.mk (mv (n, []) (σv.length, [])) (fun i hi => mvn i (fun e => by subst e; simp at hi; omega)) (by simp; omega) (fun i j b b' hi hj h => ?_) (fun i b hi => ?_) (fun t v ht => ?_)
  · have l1 := hlt' i b hi
    have l2 := hlt' j b' hj
    by_cases g1 : i = (n, []) <;> by_cases g2 : j = (n, [])
    · rw [g1, g2]
    · rw [g1, mve, mvn j g2] at h
      rw [← h] at l2; simp at l2
    · rw [g2, mve, mvn i g1] at h
      rw [h] at l1; simp at l1
    · rwa [mvn i g1, mvn j g2] at h
  · have hin := hlt' i b hi
    obtain ⟨j, q⟩ := i
    by_cases hj : j = n
    · subst hj
      have hb' : (Ent.one (.cells cs.length [cs])).sub q = some b := by
        rw [Store.at_eq] at hi
        simp only [Store.at, List.getElem?_set_self hlt, Option.some.injEq] at hi
        exact hi
      cases q with
      | cons => cases hb'
      | nil =>
        cases hb'
        refine ⟨Blk.ok_mono (Nat.zero_le _) _ hblk, ?_⟩
        rw [mve, Blk.ren_ok (m := 0) (fun i hi => by omega) _ hblk]
        exact Store.get_last σv _
    · have hi' : σv[((j, q) : Id)]? = some (some b) := by
        rw [Store.at_eq] at hi ⊢
        simp only [Store.at] at hi ⊢
        rwa [List.getElem?_set_ne (fun e => hj e.symm)] at hi
      refine ⟨Blk.ok_mono (by simp) _ (hR.st.okB hi'), ?_⟩
      rw [mvn (j, q) (fun e => hj (by cases e; rfl)), Blk.ren_no _ (hs.all _ _ hi')]
      show (σv ++ _)[_]? = _
      rw [Store.get_left hin]; exact hi'
  · have rest : ∀ v, lookup t (e ++ E) = some v → v.ok (σv.set n (Ent.one (.cells cs.length [cs]))).length = true ∧ lookup t (e ++ E) = some (v.ren (mv (n, []) (σv.length, []))) := fun v hv =>
      ⟨by simpa using hok0 t v hv, by rw [T.ren_no v (hno0 t v hv)]; exact hv⟩
    cases hdst : dst with
    | none => rw [hdst] at ht; exact rest v ht
    | some d =>
      rw [hdst] at ht
      simp only [putE, lookup] at ht ⊢
      split at ht
      · cases ht
        refine ⟨by simp [T.ok, C.ok, hlt], ?_⟩
        simp only [T.ren, C.ren, mve]
      · exact rest v ht

end
end Ab
