/-
  FUNCTIONS AS PLAIN TEXTS: the words in which the generator writes what a function computes, and the rules that show it.
-/
import Derived.Test.YtfjbddjoagefkaaAb19
namespace Ab
open Go

/-! ## Words -/

def w64 (n : Int) : Int := IntKind.i64.wrap n
theorem w64_eq {n : Int} (h : -9223372036854775808 ≤ n ∧ n ≤ 9223372036854775807) : w64 n = n := wrap_i64 h

/-- The element at a place. -/
def ix {α : Type} (l : List α) (i : Int) : Option α := if 0 ≤ i then l[i.toNat]? else none
/-- An element replaced. -/
def setIx {α : Type} (l : List α) (i : Int) (x : α) : Option (List α) := if 0 ≤ i ∧ i < l.length then some (l.set i.toNat x) else none
/-- Appended; b: the bytes of an element. -/
def app {α : Type} (b : Nat) (l new : List α) : Option (List α) := if (l.length + new.length) * b ≤ 140737488355328 then some (l ++ new) else none
/-- Made; b: the bytes of an element. -/
def mkL {α : Type} (b : Nat) (n : Int) (z : α) : Option (List α) := if 0 ≤ n ∧ n ≤ 9223372036854775807 ∧ (b : Int) * n ≤ 281474976710656 then some (List.replicate n.toNat z) else none
def subL {α : Type} (l : List α) (lo hi : Int) : Option (List α) := if 0 ≤ lo ∧ lo ≤ hi ∧ hi ≤ l.length then some ((l.take hi.toNat).drop lo.toNat) else none
/-- Go's / and %. -/
def quo (a b : Int) : Option Int := if b = 0 then none else some (w64 (a.tdiv b))
def rem (a b : Int) : Option Int := if b = 0 then none else some (a.tmod b)

theorem bind_some {α β : Type} {m : Option α} {K : α → Option β} {r : β} (h : m.bind K = some r) : ∃ x, m = some x ∧ K x = some r := by
  cases m with
  | none => cases h
  | some x => exact ⟨x, rfl, h⟩

def LoopN {S O : Type} (body : S → Option (S ⊕ O)) : Nat → S → Option O
  | 0, _ => none
  | n + 1, s => match body s with
    | none => none
    | some (.inl s') => LoopN body n s'
    | some (.inr o) => some o

theorem LoopN_mono {S O : Type} {body : S → Option (S ⊕ O)} {o : O} : ∀ {n m : Nat} {s : S}, n ≤ m → LoopN body n s = some o → LoopN body m s = some o
  | 0, m, s, _, h => by cases h
  | n + 1, 0, s, hl, h => by omega
  | n + 1, m + 1, s, hl, h => by
    simp only [LoopN] at h ⊢
    cases hb : body s with
    | none => rw [hb] at h; cases h
    | some x =>
      rw [hb] at h
      cases x with
      | inl s' => exact LoopN_mono (by omega) h
      | inr o' => exact h

theorem LoopN_det {S O : Type} {body : S → Option (S ⊕ O)} {o o' : O} {n m : Nat} {s : S} (h : LoopN body n s = some o) (h' : LoopN body m s = some o') : o = o' := by
  rcases Nat.le_total n m with hl | hl
  · rw [LoopN_mono hl h] at h'; exact Option.some.inj h'
  · rw [LoopN_mono hl h'] at h; exact (Option.some.inj h).symm

/-- A loop: rounds till one ends it. -/
noncomputable def Loop {S O : Type} (body : S → Option (S ⊕ O)) (s : S) : Option O := open Classical in
  if h : ∃ o n, LoopN body n s = some o then some h.choose else none

theorem Loop_iff {S O : Type} {body : S → Option (S ⊕ O)} {s : S} {o : O} : Loop body s = some o ↔ ∃ n, LoopN body n s = some o := by
  unfold Loop
  constructor
  · intro h
    split at h
    · rename_i hx
      cases h
      exact hx.choose_spec
    · cases h
  · rintro ⟨n, hn⟩
    have hx : ∃ o n, LoopN body n s = some o := ⟨o, n, hn⟩
    rw [dif_pos hx]
    obtain ⟨m, hm⟩ := hx.choose_spec
    rw [LoopN_det hm hn]

/-- One round. -/
theorem Loop_eq {S O : Type} (body : S → Option (S ⊕ O)) (s : S) : Loop body s = match body s with
    | none => none
    | some (.inl s') => Loop body s'
    | some (.inr o) => some o := by
  apply Option.ext
  intro o
  rw [Loop_iff]
  constructor
  · rintro ⟨n, hn⟩
    cases n with
    | zero => cases hn
    | succ n =>
      simp only [LoopN] at hn
      cases hb : body s with
      | none => rw [hb] at hn; cases hn
      | some x =>
        rw [hb] at hn
        cases x with
        | inl s' => exact Loop_iff.2 ⟨n, hn⟩
        | inr o' => exact hn
  · intro h
    cases hb : body s with
    | none => rw [hb] at h; cases h
    | some x =>
      rw [hb] at h
      cases x with
      | inl s' =>
        obtain ⟨n, hn⟩ := Loop_iff.1 h
        exact ⟨n + 1, by simp only [LoopN, hb]; exact hn⟩
      | inr o' => exact ⟨1, by simp only [LoopN, hb]; exact h⟩

/-- A loop over numbers, with ways out. -/
def rngN {S O : Type} (body : Int → S → Option (S ⊕ O)) : Nat → Int → S → Option (S ⊕ O)
  | 0, _, s => some (.inl s)
  | n + 1, i, s => match body i s with
    | none => none
    | some (.inl s') => rngN body n (i + 1) s'
    | some (.inr o) => some (.inr o)
def rngX {S O : Type} (lo n : Int) (body : Int → S → Option (S ⊕ O)) (s : S) : Option (S ⊕ O) := rngN body (n - lo).toNat lo s

/-- A loop over numbers. -/
def forN {S : Type} (body : Int → S → Option S) : Nat → Int → S → Option S
  | 0, _, s => some s
  | n + 1, i, s => match body i s with
    | none => none
    | some s' => forN body n (i + 1) s'
def forR {S : Type} (lo n : Int) (body : Int → S → Option S) (s : S) : Option S := forN body (n - lo).toNat lo s

/-! ## Rules for code -/
section
variable {P : Program} {σ0 : Store} {sz : Nat} {Q : Post} {env : Env} {σv : Store} {ops : Array Oper} {rest : List Oper} {dst : Option Nat} {ty : TypeId} {pos : String} {after : Array Edge}

theorem AWP.ite {ρ : Type} {x : Operand} {c d : Code} {p : Prop} [Decidable p] {A B : Option ρ} {r : ρ} (hx : ev env x = some (.c (bool (decide p)))) (h : (if p then A else B) = some r)
    (ht : p → A = some r → AWP P σ0 sz c Q (St.mk env σv)) (hf : ¬ p → B = some r → AWP P σ0 sz d Q (St.mk env σv)) : AWP P σ0 sz (.cond x c d) Q (St.mk env σv) :=
  .condD hx (fun hp => ht hp (by rwa [if_pos hp] at h)) (fun hp => hf hp (by rwa [if_neg hp] at h))
theorem AWP.iteN {ρ : Type} {x : Operand} {c d : Code} {p : Prop} [Decidable p] {A B : Option ρ} {r : ρ} (hx : ev env x = some (.c (bool (!decide p)))) (h : (if p then A else B) = some r)
    (ht : ¬ p → B = some r → AWP P σ0 sz c Q (St.mk env σv)) (hf : p → A = some r → AWP P σ0 sz d Q (St.mk env σv)) : AWP P σ0 sz (.cond x c d) Q (St.mk env σv) :=
  .condN hx (fun hp => ht hp (by rwa [if_neg hp] at h)) (fun hp => hf hp (by rwa [if_pos hp] at h))
theorem AWP.iteB {ρ : Type} {x : Operand} {c d : Code} {b : Bool} {A B : Option ρ} {r : ρ} (hx : ev env x = some (.c (bool b))) (h : (if b = true then A else B) = some r)
    (ht : b = true → A = some r → AWP P σ0 sz c Q (St.mk env σv)) (hf : b = false → B = some r → AWP P σ0 sz d Q (St.mk env σv)) : AWP P σ0 sz (.cond x c d) Q (St.mk env σv) :=
  .cond hx (fun hp => ht hp (by rwa [if_pos hp] at h)) (fun hp => hf hp (by rwa [if_neg (by simp [hp])] at h))

/-- A state that says less may be handed on. -/
theorem AWP.weak {c : Code} {s : St} (h : AWP P σ0 sz c (fun e st => ∃ J, Sub σ0 st J ∧ Q e J) s) : AWP P σ0 sz c Q s := fun Γ φ a w hΓ hR =>
  wp_mono (h Γ φ a w hΓ hR) fun e a' w' ⟨s', φ', ⟨J, hs, hq⟩, hR'⟩ => by
    obtain ⟨φ'', hR''⟩ := hs Γ sz φ' a' w' hΓ hR'
    exact ⟨J, φ'', hq, hR''⟩

theorem AWP.condP {x : Operand} {c d : Code} {p : Prop} [Decidable p] (hx : ev env x = some (.c (bool (decide p)))) (hp : p) (h : AWP P σ0 sz c Q (St.mk env σv)) : AWP P σ0 sz (.cond x c d) Q (St.mk env σv) := .condD hx (fun _ => h) (fun hn => absurd hp hn)
theorem AWP.condNP {x : Operand} {c d : Code} {p : Prop} [Decidable p] (hx : ev env x = some (.c (bool (decide p)))) (hp : ¬ p) (h : AWP P σ0 sz d Q (St.mk env σv)) : AWP P σ0 sz (.cond x c d) Q (St.mk env σv) := .condD hx (fun hn => absurd hn hp) (fun _ => h)

/-- The last blocks are forgotten. -/
def EntOk (n : Nat) : Ent → Prop
  | .dead => True
  | .one b => b.ok n = true
  | .node m s => ∀ (p : List Nat) (b : Blk), (Ent.node m s).sub p = some b → b.ok n = true
def StOk (n : Nat) : Store → Prop
  | [] => True
  | e :: r => EntOk n e ∧ StOk n r
theorem EntOk.get {n : Nat} {e : Ent} (h : EntOk n e) {p : List Nat} {b : Blk} (hb : e.sub p = some b) : b.ok n = true := by
  cases e with
  | dead => cases p <;> cases hb
  | one c => cases p with
    | nil => cases hb; exact h
    | cons => cases hb
  | node m s => exact h p b hb
theorem StOk.get {n : Nat} : ∀ {σ : Store}, StOk n σ → ∀ (i : Id) (b : Blk), σ[i]? = some (some b) → b.ok n = true
  | [], _, i, b, h => by simp at h
  | e :: r, h, (0, p), b, hb => by
    rw [Store.at_eq] at hb
    simp only [Store.at, List.getElem?_cons_zero, Option.some.injEq] at hb
    exact h.1.get hb
  | e :: r, h, (i + 1, p), b, hb => StOk.get (σ := r) h.2 (i, p) b (by
    rw [Store.at_eq] at hb ⊢
    simpa [Store.at] using hb)
theorem Sub.tail {env env' : Env} {s σ : Store} (hs : ∃ τ, s = σ ++ τ) (h : SubEnv env env') (hl : Nat.ble σ0.length σ.length = true) (hb : StOk σ.length σ) (he : envOk σ.length env' = true) : Sub σ0 ⟨env, s⟩ ⟨env', σ⟩ := by
  obtain ⟨τ, rfl⟩ := hs
  refine Sub.mk (fun i => i) (fun i _ => rfl) (Nat.le_of_ble_eq_true hl) (fun i j b b' _ _ h => h) (fun i b hi => ⟨hb.get i b hi, ?_⟩) (fun t v ht => ⟨envOk_get he t v ht, ?_⟩)
  · rw [Blk.ren_id, Store.get_left (Store.lt_of hi)]
    exact hi
  · rw [T.ren_id]
    exact h.get t v ht

/-- Ways that part come together. -/
theorem AWP.seqJ {c d : Code} (J : St) (hc : AWP P σ0 sz c (thn (fun s => Sub σ0 s J) Q) (St.mk env σv)) (hd : AWP P σ0 sz d Q J) : AWP P σ0 sz (.seq c d) Q (St.mk env σv) :=
  .seq (hc.mono fun e s h => by
    cases e with
    | normal => exact AWP.sub h hd
    | _ => exact h)

theorem AWP.seqF {X ρ : Type} {c d : Code} (j : X → Option ρ) (r : ρ) (J : X → St) (hd : ∀ x, j x = some r → AWP P σ0 sz d Q (J x)) (hc : AWP P σ0 sz c (thn (fun s => ∃ x, j x = some r ∧ Sub σ0 s (J x)) Q) (St.mk env σv)) : AWP P σ0 sz (.seq c d) Q (St.mk env σv) :=
  .seq (hc.mono fun e s h => by
    cases e with
    | normal => obtain ⟨x, h1, h2⟩ := h; exact AWP.sub h2 (hd x h1)
    | _ => exact h)

/-- A loop. -/
theorem AWP.loopS {S O : Type} {c : Code} {body : S → Option (S ⊕ O)} {s0 : S} {o : O} (h : Loop body s0 = some o) (F : S → St) (Qo : O → Post) (hs : Sub σ0 (St.mk env σv) (F s0))
    (hround : ∀ s o', body s = some o' → AWP P σ0 sz c (thn (fun st => ∃ s', o' = .inl s' ∧ Sub σ0 st (F s')) (fun e st => ∃ o, o' = .inr o ∧ Qo o e st)) (F s))
    (hpost : ∀ e s, Qo o e s → ∃ J, Sub σ0 s J ∧ Q e J) : AWP P σ0 sz (.loop c) Q (St.mk env σv) := by
  obtain ⟨n, hn⟩ := Loop_iff.1 h
  refine AWP.weak ?_
  refine AWP.loop (X := S × Nat) (fun x => F x.1) (fun x => LoopN body x.2 x.1 = some o) (fun x => x.2) (s0, n) hs hn ?_
  rintro ⟨s, n⟩ hi
  dsimp only at hi ⊢
  cases n with
  | zero => cases hi
  | succ n =>
    simp only [LoopN] at hi
    cases hb : body s with
    | none => rw [hb] at hi; cases hi
    | some x =>
      rw [hb] at hi
      refine (hround s x hb).mono fun e st hq => ?_
      cases x with
      | inl s' =>
        cases e with
        | normal =>
          obtain ⟨s'', e1, hsub⟩ := hq
          cases e1
          exact ⟨(s', n), hsub, hi, Nat.lt_succ_self n⟩
        | _ => obtain ⟨o', e1, _⟩ := hq; cases e1
      | inr o' =>
        cases hi
        cases e with
        | normal => obtain ⟨s'', e1, _⟩ := hq; cases e1
        | _ => obtain ⟨o', e1, hq⟩ := hq; cases e1; exact hpost _ _ hq

theorem AWP.rngS {S O : Type} {c : Code} {body : Int → S → Option (S ⊕ O)} {lo n : Int} {s0 : S} {o : S ⊕ O} (h : rngX lo n body s0 = some o) (F : Int → S → St) (Qo : S ⊕ O → Post) (hs : Sub σ0 (St.mk env σv) (F lo s0))
    (hend : ∀ i s, lo ≤ i → ¬ i < n → o = .inl s → AWP P σ0 sz c (thn (fun _ => False) (Qo (.inl s))) (F i s))
    (hround : ∀ i s o', lo ≤ i → i < n → body i s = some o' → AWP P σ0 sz c (thn (fun st => ∃ s', o' = .inl s' ∧ Sub σ0 st (F (i + 1) s')) (fun e st => ∃ o, o' = .inr o ∧ Qo (.inr o) e st)) (F i s))
    (hpost : ∀ e s, Qo o e s → ∃ J, Sub σ0 s J ∧ Q e J) : AWP P σ0 sz (.loop c) Q (St.mk env σv) := by
  refine AWP.weak ?_
  refine AWP.loop (X := S × Int) (fun x => F x.2 x.1) (fun x => lo ≤ x.2 ∧ rngN body (n - x.2).toNat x.2 x.1 = some o) (fun x => (n - x.2).toNat) (s0, lo) hs ⟨Int.le_refl _, h⟩ ?_
  rintro ⟨s, i⟩ ⟨hlo, hi⟩
  dsimp only at hi hlo ⊢
  by_cases hlt : i < n
  · obtain ⟨k, hk⟩ : ∃ k, (n - i).toNat = k + 1 := ⟨(n - i).toNat - 1, by omega⟩
    have hk' : (n - (i + 1)).toNat = k := by omega
    rw [hk] at hi
    simp only [rngN] at hi
    cases hb : body i s with
    | none => rw [hb] at hi; cases hi
    | some x =>
      rw [hb] at hi
      refine (hround i s x hlo hlt hb).mono fun e st hq => ?_
      cases x with
      | inl s' =>
        cases e with
        | normal =>
          obtain ⟨s'', e1, hsub⟩ := hq
          cases e1
          refine ⟨(s', i + 1), hsub, ⟨by dsimp only; omega, ?_⟩, by dsimp only; omega⟩
          dsimp only
          rw [hk']; exact hi
        | _ => obtain ⟨o', e1, _⟩ := hq; cases e1
      | inr o' =>
        cases hi
        cases e with
        | normal => obtain ⟨s'', e1, _⟩ := hq; cases e1
        | _ => obtain ⟨o', e1, hq⟩ := hq; cases e1; exact hpost _ _ hq
  · have : (n - i).toNat = 0 := by omega
    rw [this] at hi
    simp only [rngN] at hi
    cases hi
    refine (hend i s hlo hlt rfl).mono fun e st hq => ?_
    cases e with
    | normal => exact hq.elim
    | _ => exact hpost _ _ hq

theorem forN_rng {S : Type} {body : Int → S → Option S} {s' : S} : ∀ {n : Nat} {i : Int} {s : S}, forN body n i s = some s' → rngN (O := Empty) (fun i s => (body i s).map .inl) n i s = some (.inl s')
  | 0, i, s, h => by cases h; rfl
  | n + 1, i, s, h => by
    simp only [forN] at h
    simp only [rngN]
    cases hb : body i s with
    | none => rw [hb] at h; cases h
    | some x =>
      rw [hb] at h
      exact forN_rng h

theorem AWP.forS {S : Type} {c : Code} {body : Int → S → Option S} {lo n : Int} {s0 o : S} (h : forR lo n body s0 = some o) (F : Int → S → St) (Qo : S → Post) (hs : Sub σ0 (St.mk env σv) (F lo s0))
    (hend : ∀ i s, lo ≤ i → ¬ i < n → o = s → AWP P σ0 sz c (thn (fun _ => False) (Qo s)) (F i s))
    (hround : ∀ i s o', lo ≤ i → i < n → body i s = some o' → AWP P σ0 sz c (thn (fun st => Sub σ0 st (F (i + 1) o')) (fun _ _ => False)) (F i s))
    (hpost : ∀ e s, Qo o e s → ∃ J, Sub σ0 s J ∧ Q e J) : AWP P σ0 sz (.loop c) Q (St.mk env σv) := by
  refine AWP.rngS (O := Empty) (forN_rng h) F (fun | .inl s => Qo s | .inr e => e.elim) hs (fun i s h1 h2 h3 => hend i s h1 h2 (by cases h3; rfl)) (fun i s o' h1 h2 h3 => ?_) hpost
  cases hb : body i s with
  | none => rw [hb] at h3; cases h3
  | some x =>
    rw [hb] at h3
    cases h3
    refine (hround i s x h1 h2 hb).mono fun e st hq => ?_
    cases e with
    | normal => exact ⟨x, rfl, hq⟩
    | _ => exact hq.elim

/-! ## Rules for operations -/

/-- A row of data. -/
abbrev row {α : Type} (k : Nat) (f : α → List I) (l : List α) : C := .imm (.sl k (l.map f))
/-- A block of data. -/
abbrev vec {α : Type} (k : Nat) (f : α → List I) (l : List α) : Blk := Blk.im k (l.map f)

theorem ix_get {α : Type} {l : List α} {i : Int} {x : α} (h : ix l i = some x) : 0 ≤ i ∧ l[i.toNat]? = some x := by
  unfold ix at h
  split at h
  · exact ⟨‹_›, h⟩
  · cases h

theorem S.idx {α : Type} {f : α → List I} {l : List α} {x y : Operand} {t e : TypeId} {k bytes : Nat} {z : Value} {kk : IntKind} {i : Int} {a : α} {el : List I} [ht : TyD P t (.slice e)] [hs : TyS P e k bytes z]
    (he : ix l i = some a) (hx : ev env x = some (.c (row k f l))) (hy : ev env y = some (.c (.imm (.val (.int kk i))))) (hf : f a = el) (hd : dstOk sz dst = true)
    (h : AOps P σ0 sz ops Q rest (St.mk (putE env dst (.c (.imm (.ipt el)))) σv)) : AOps P σ0 sz ops Q (⟨dst, .indexAddr t x y, ty, pos, after, none⟩ :: rest) (St.mk env σv) :=
  .indexAddr hx hy (ix_get he).1 (by rw [List.getElem?_map, (ix_get he).2, ← hf]; rfl) hd h

theorem S.len {α : Type} {f : α → List I} {l : List α} {x : Operand} {t e : TypeId} {k : Nat} [ht : TyD P t (.slice e)]
    (hx : ev env x = some (.c (row k f l))) (hd : dstOk sz dst = true) (h : l.length ≤ 9223372036854775807 → AOps P σ0 sz ops Q rest (St.mk (putE env dst (.c (int l.length))) σv)) : AOps P σ0 sz ops Q (⟨dst, .call ⟨.builtin .len, #[x], #[t]⟩, ty, pos, after, none⟩ :: rest) (St.mk env σv) :=
  .lenB hx hd h

theorem S.add {t t' : TypeId} {x y : Operand} {a b : Int} (hx : ev env x = some (.c (int a))) (hy : ev env y = some (.c (int b))) (hd : dstOk sz dst = true) (h : AOps P σ0 sz ops Q rest (St.mk (putE env dst (.c (int (w64 (a + b))))) σv)) : AOps P σ0 sz ops Q (⟨dst, .binOp .add t x y t', ty, pos, after, none⟩ :: rest) (St.mk env σv) := .addW hx hy hd h
theorem S.sub {t t' : TypeId} {x y : Operand} {a b : Int} (hx : ev env x = some (.c (int a))) (hy : ev env y = some (.c (int b))) (hd : dstOk sz dst = true) (h : AOps P σ0 sz ops Q rest (St.mk (putE env dst (.c (int (w64 (a - b))))) σv)) : AOps P σ0 sz ops Q (⟨dst, .binOp .sub t x y t', ty, pos, after, none⟩ :: rest) (St.mk env σv) := .subW hx hy hd h
theorem S.mul {t t' : TypeId} {x y : Operand} {a b : Int} (hx : ev env x = some (.c (int a))) (hy : ev env y = some (.c (int b))) (hd : dstOk sz dst = true) (h : AOps P σ0 sz ops Q rest (St.mk (putE env dst (.c (int (w64 (a * b))))) σv)) : AOps P σ0 sz ops Q (⟨dst, .binOp .mul t x y t', ty, pos, after, none⟩ :: rest) (St.mk env σv) := .mulW hx hy hd h
theorem S.neg {x : Operand} {a : Int} {t : TypeId} (hx : ev env x = some (.c (int a))) (hd : dstOk sz dst = true) (h : AOps P σ0 sz ops Q rest (St.mk (putE env dst (.c (int (w64 (0 - a))))) σv)) : AOps P σ0 sz ops Q (⟨dst, .unOp .neg t x, ty, pos, after, none⟩ :: rest) (St.mk env σv) := .neg hx hd h

end

theorem rv {P : Program} {t n b : Nat} {z : Value} {d : TypeDesc} (a : Nat) [h : TyD P t d] [k : TyS P t n b z] (ha : isAggD d = true) : RV.ok P (.cell a t n) := by
  obtain ⟨i, h1, h2, _⟩ := k.h
  exact ⟨d, i, h.h, ha, h1, h2⟩
theorem ite_none {p : Prop} [Decidable p] {α : Type} {m : Option α} {r : α} (h : (if p then m else none) = some r) : p ∧ m = some r := by
  by_cases hp : p
  · exact ⟨hp, by rwa [if_pos hp] at h⟩
  · rw [if_neg hp] at h; cases h
theorem iteDT {p : Prop} [Decidable p] {α : Type} {m k : Option α} {r : α} (hb : decide p = true) (h : (if p then m else k) = some r) : m = some r := by rwa [if_pos (of_decide_eq_true hb)] at h
theorem iteDF {p : Prop} [Decidable p] {α : Type} {m k : Option α} {r : α} (hb : decide p = false) (h : (if p then m else k) = some r) : k = some r := by rwa [if_neg (of_decide_eq_false hb)] at h
theorem iteBT {b : Bool} {α : Type} {m k : Option α} {r : α} (hb : b = true) (h : (if b = true then m else k) = some r) : m = some r := by rwa [if_pos hb] at h
theorem iteBF {b : Bool} {α : Type} {m k : Option α} {r : α} (hb : b = false) (h : (if b = true then m else k) = some r) : k = some r := by rwa [if_neg (by simp [hb])] at h
theorem and_t {a b : Bool} (h : a = true) : (a && b) = b := by rw [h]; rfl
theorem and_f {a b : Bool} (h : a = false) : (a && b) = false := by rw [h]; rfl
theorem or_t {a b : Bool} (h : a = true) : (a || b) = true := by rw [h]; rfl
theorem or_f {a b : Bool} (h : a = false) : (a || b) = b := by rw [h]; rfl
end Ab
