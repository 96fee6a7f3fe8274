/-
  THE RULES AS A WALK TAKES THEM: what they leave is written out.
-/
import Derived.Test.YtfjbddjoagefkaaAb16
namespace Ab
open Go

def idF {α : Type} : List α → Option Nat
  | [] => some 0
  | _ :: l => match idF l with
    | some 0 => some 1
    | some 1 => some 2
    | some 2 => some 3
    | some 3 => some 4
    | some 4 => some 5
    | some 5 => some 6
    | some 6 => some 7
    | some 7 => some 8
    | some 8 => some 9
    | some 9 => some 10
    | some 10 => some 11
    | some 11 => some 12
    | some 12 => some 13
    | some 13 => some 14
    | some 14 => some 15
    | some 15 => some 16
    | some 16 => some 17
    | some 17 => some 18
    | some 18 => some 19
    | some 19 => some 20
    | some 20 => some 21
    | some 21 => some 22
    | some 22 => some 23
    | some 23 => some 24
    | _ => none
theorem idF_eq {α : Type} : ∀ {l : List α} {n : Nat}, idF l = some n → n = l.length
  | [], n, h => by cases h; rfl
  | a :: l, n, h => by
    simp only [idF] at h
    split at h <;> first
      | (cases h; done)
      | (rename_i hl; have := idF_eq hl; cases h; simp only [List.length_cons]; omega)

def setF {α : Type} : List α → Nat → α → Option (List α)
  | [], _, _ => none
  | _ :: l, 0, x => some (x :: l)
  | a :: l, n + 1, x => match setF l n x with
    | some r => some (a :: r)
    | none => none
theorem setF_eq {α : Type} : ∀ {l : List α} {n : Nat} {x : α} {r : List α}, setF l n x = some r → r = l.set n x ∧ n < l.length
  | [], n, x, r, h => by cases h
  | a :: l, 0, x, r, h => by cases h; exact ⟨rfl, by simp⟩
  | a :: l, n + 1, x, r, h => by
    simp only [setF] at h
    split at h <;> cases h
    rename_i hl
    have := setF_eq hl
    exact ⟨by rw [this.1]; rfl, by simp [this.2]⟩

/-- A new root's name, written out. -/
def newF (σ : Store) : Option Id := match idF σ with
  | some n => some (n, [])
  | none => none
theorem newF_eq {σ : Store} {id : Id} (h : newF σ = some id) : id = (σ.length, []) := by
  unfold newF at h
  split at h
  · rename_i n hn
    cases h
    rw [idF_eq hn]
  · cases h
def putEnt : Ent → List Nat → Option Blk → Option Ent
  | .one _, [], some b => some (.one b)
  | .one _, [], none => some .dead
  | .node _ s, [], b => some (.node b s)
  | _, _, _ => none
theorem putEnt_eq {e e' : Ent} {p : List Nat} {b : Option Blk} (h : putEnt e p b = some e') : e' = e.put p b := by
  unfold putEnt at h
  split at h <;> first | (cases h; rfl) | (cases h)
def putFn : Store → Nat → List Nat → Option Blk → Option Store
  | [], _, _, _ => none
  | e :: l, 0, p, b => match putEnt e p b with
    | some e' => some (e' :: l)
    | none => none
  | e :: l, n + 1, p, b => match putFn l n p b with
    | some r => some (e :: r)
    | none => none
/-- A block replaced, written out. -/
def putF (σ : Store) (i : Id) (b : Option Blk) : Option Store := putFn σ i.1 i.2 b
theorem putFn_eq : ∀ {σ r : Store} {n : Nat} {p : List Nat} {b : Option Blk}, putFn σ n p b = some r → r = σ.put (n, p) b
  | [], r, n, p, b, h => by cases h
  | e :: l, r, 0, p, b, h => by
    simp only [putFn] at h
    split at h
    · rename_i e' he
      cases h
      rw [putEnt_eq he]; simp [Store.put]
    · cases h
  | e :: l, r, n + 1, p, b, h => by
    simp only [putFn] at h
    split at h
    · rename_i r' hr
      cases h
      rw [putFn_eq hr]; simp [Store.put]
    · cases h
theorem putF_eq {σ r : Store} {i : Id} {b : Option Blk} (h : putF σ i b = some r) : r = σ.put i b := putFn_eq h

def dropF {α : Type} : Nat → List α → Option (List α)
  | 0, l => some l
  | n + 1, _ :: l => dropF n l
  | _ + 1, [] => none
theorem dropF_eq {α : Type} : ∀ {n : Nat} {l r : List α}, dropF n l = some r → r = l.drop n ∧ n ≤ l.length
  | 0, l, r, h => by cases h; exact ⟨rfl, Nat.zero_le _⟩
  | n + 1, a :: l, r, h => by
    have := dropF_eq (n := n) (l := l) h
    exact ⟨this.1, by simp; exact this.2⟩
  | n + 1, [], r, h => by cases h

def takeF {α : Type} : Nat → List α → Option (List α)
  | 0, _ => some []
  | n + 1, a :: l => match takeF n l with
    | some r => some (a :: r)
    | none => none
  | _ + 1, [] => none
theorem takeF_eq {α : Type} : ∀ {n : Nat} {l r : List α}, takeF n l = some r → r = l.take n ∧ n ≤ l.length
  | 0, l, r, h => by cases h; exact ⟨rfl, Nat.zero_le _⟩
  | n + 1, a :: l, r, h => by
    simp only [takeF] at h
    split at h <;> cases h
    rename_i hl
    have := takeF_eq hl
    exact ⟨by rw [this.1]; rfl, by simp; exact this.2⟩
  | n + 1, [], r, h => by cases h

def immF : List I → Option (List C)
  | [] => some []
  | x :: l => match immF l with
    | some r => some (.imm x :: r)
    | none => none
theorem immF_eq : ∀ {l : List I} {r : List C}, immF l = some r → r = l.map .imm
  | [], r, h => by cases h; rfl
  | x :: l, r, h => by
    simp only [immF] at h
    split at h <;> cases h
    rename_i hl
    rw [immF_eq hl]; rfl

def spliceF {α : Type} (e : List α) (o : Nat) (cs : List α) : Option (List α) := match e, o, cs with
  | e, _, [] => some e
  | [], _, _ :: _ => none
  | _ :: e, 0, c :: cs => match spliceF e 0 cs with
    | some r => some (c :: r)
    | none => none
  | a :: e, o + 1, c :: cs => match spliceF e o (c :: cs) with
    | some r => some (a :: r)
    | none => none
theorem spliceF_eq {α : Type} : ∀ {e : List α} {o : Nat} {cs r : List α}, cs ≠ [] → spliceF e o cs = some r → r = e.take o ++ cs ++ e.drop (o + cs.length) ∧ o + cs.length ≤ e.length := by
  have zero : ∀ (e cs r : List α), spliceF e 0 cs = some r → r = cs ++ e.drop cs.length ∧ cs.length ≤ e.length := by
    intro e
    induction e with
    | nil => intro cs r h; cases cs with | nil => cases h; exact ⟨rfl, by simp⟩ | cons => simp [spliceF] at h
    | cons a e ih =>
      intro cs r h
      cases cs with
      | nil => simp [spliceF] at h; subst h; exact ⟨rfl, by simp⟩
      | cons c cs =>
        simp only [spliceF] at h
        split at h <;> cases h
        rename_i r' hr
        obtain ⟨h1, h2⟩ := ih cs r' hr
        exact ⟨by rw [h1]; rfl, by simp; exact h2⟩
  intro e
  induction e with
  | nil => intro o cs r hne h; cases cs with | nil => exact absurd rfl hne | cons => simp [spliceF] at h
  | cons a e ih =>
    intro o cs r hne h
    cases cs with
    | nil => exact absurd rfl hne
    | cons c cs =>
      cases o with
      | zero =>
        obtain ⟨h1, h2⟩ := zero _ _ _ h
        exact ⟨by rw [h1]; simp, by simpa using h2⟩
      | succ o =>
        simp only [spliceF] at h
        split at h <;> cases h
        rename_i r' hr
        obtain ⟨h1, h2⟩ := ih (by simp) hr
        refine ⟨?_, ?_⟩
        · rw [h1]
          simp only [List.take_succ_cons, List.cons_append, List.length_cons]
          rw [show o + 1 + (cs.length + 1) = (o + (cs.length + 1)) + 1 by omega, List.drop_succ_cons]
        · simp only [List.length_cons] at h2 ⊢; omega

/-- A type's zero, cell by cell. -/
class TyZ (P : Program) (t : TypeId) (zc : outParam (List C)) : Prop where
  h : ∃ size bytes z v, TyS P t size bytes z ∧ constT z = some v ∧ cellsT v = some zc
theorem TyZ.of {P : Program} {t size bytes : Nat} {z : Value} {zc : List C} [h : TyS P t size bytes z] (hc : (constT z).bind cellsT = some zc) : TyZ P t zc := by
  cases hz : constT z with
  | none => rw [hz] at hc; cases hc
  | some v => rw [hz] at hc; exact ⟨size, bytes, z, v, h, hz, hc⟩

/-- A struct's field: its place and its type. -/
class FieldC (P : Program) (t f : Nat) (off ft : outParam Nat) : Prop where
  h : ∃ (fs : Array Field) (fd : Field), P.underlying t = some (.struct fs) ∧ fs[f]? = some fd ∧ fd.offset = off ∧ fd.type = ft
theorem FieldC.of {P : Program} {t f off ft : Nat} {fs : Array Field} [ht : TyD P t (.struct fs)] {fd : Field} (h1 : fs[f]? = some fd) (h2 : fd.offset = off) (h3 : fd.type = ft) : FieldC P t f off ft := ⟨fs, fd, ht.h, h1, h2, h3⟩

/-- A struct each of whose fields takes one cell. -/
class FlatC (P : Program) (t n : Nat) : Prop where
  h : ∃ (fs : Array Field), P.underlying t = some (.struct fs) ∧ fs.size = n ∧ ∀ (i : Nat) (f : Field), fs[i]? = some f → f.offset = i ∧ ∃ j, P.info? f.type = some j ∧ j.size = 1
def ones (l : List (Nat × Nat)) (i : Nat) : Bool := match l with
  | [] => true
  | (o, n) :: r => Nat.beq o i && Nat.beq n 1 && ones r (i + 1)
theorem ones_get : ∀ {l : List (Nat × Nat)} {i : Nat}, ones l i = true → ∀ (j : Nat) (p : Nat × Nat), l[j]? = some p → p = (i + j, 1)
  | [], _, _, j, p, h => by simp at h
  | (o, n) :: r, i, ho, j, p, h => by
    simp only [ones, Bool.and_eq_true] at ho
    match j with
    | 0 => cases h; rw [Nat.eq_of_beq_eq_true ho.1.1, Nat.eq_of_beq_eq_true ho.1.2]; rfl
    | j + 1 =>
      have := ones_get ho.2 j p (by simpa using h)
      rw [this]
      congr 1
      omega
theorem FlatC.of {P : Program} {t n : Nat} {fs : Array Field} {places : List (Nat × Nat)} [ht : TyD P t (.struct fs)] [hp : PlacesC P fs.toList places] (hn : fs.size = n) (ho : ones places 0 = true) : FlatC P t n :=
  ⟨fs, ht.h, hn, fun i f hf => by
    obtain ⟨m, j, h1, h2, h3⟩ := hp.h i f (by simpa using hf)
    have := ones_get ho i _ h1
    simp only [Nat.zero_add, Prod.mk.injEq] at this
    exact ⟨this.1, j, h2, by rw [h3]; exact this.2⟩⟩

def fillF : List C → List (Nat × T) → Option (List C)
  | cs, [] => some cs
  | cs, (i, .c c) :: r => match setF cs i c with
    | some cs' => fillF cs' r
    | none => none
  | _, _ => none

theorem fillF_eq {places : Nat → Option (Nat × Nat)} {n : Nat} (hp : ∀ i, i < n → places i = some (i, 1)) : ∀ {cs : List C} {ps : List (Nat × T)} {cs' : List C}, cs.length = n → fillF cs ps = some cs' → fillC places cs ps = some cs'
  | cs, [], cs', _, h => h
  | cs, (i, .c c) :: r, cs', hl, h => by
    simp only [fillF] at h
    split at h <;> try cases h
    rename_i cs2 hs
    obtain ⟨h1, h2⟩ := setF_eq hs
    simp only [fillC, hp i (by omega), cellsT]
    rw [show (Nat.beq [c].length 1 && Nat.ble (i + [c].length) cs.length) = true by
      simp only [List.length_cons, List.length_nil, Bool.and_eq_true]
      exact ⟨rfl, Nat.ble_eq_true_of_le (by omega)⟩]
    have e : cs.take i ++ [c] ++ cs.drop (i + [c].length) = cs2 := by
      rw [h1, List.set_eq_take_append_cons_drop, if_pos h2, List.append_assoc]
      rfl
    simp only [e]
    exact fillF_eq hp (by rw [h1]; simpa using hl) h
  | _, (_, .agg _) :: _, _, _, h => by cases h
  | _, (_, .tup _) :: _, _, _, h => by cases h
  | _, (_, .undef) :: _, _, _, h => by cases h

section
variable {P : Program} {σ0 : Store} {sz : Nat} {Q : Post} {env : Env} {σv σ' : Store} {ops : Array Oper} {rest : List Oper} {dst : Option Nat} {ty : TypeId} {pos : String} {after : Array Edge}

theorem W.box {x : Operand} {t : TypeId} {v : T} {cs : List C} {id : Id} {k : Nat} (hx : ev env x = some v) (hc : cellsT v = some cs) (hk : idF cs = some k) (hid : newF σv = some id) (hσ : snocF σv (.one (.cells k [cs])) = some σ') (hd : dstOk sz dst = true)
    (h : AOps P σ0 sz ops Q rest ⟨putE env dst (.c (.ptr id 0 0)), σ'⟩) : AOps P σ0 sz ops Q (⟨dst, .box t x, ty, pos, after, none⟩ :: rest) ⟨env, σv⟩ := by
  have h1 := idF_eq hk; have h2 := newF_eq hid; have h3 := snocF_eq hσ
  subst h1 h2 h3
  exact .box hx hc hd h

theorem W.alloc {t : TypeId} {cs : List C} {id : Id} {k : Nat} [hz : TyZ P t cs] (hk : idF cs = some k) (hid : newF σv = some id) (hσ : snocF σv (.one (.cells k [cs])) = some σ') (hd : dstOk sz dst = true)
    (h : AOps P σ0 sz ops Q rest ⟨putE env dst (.c (.ptr id 0 0)), σ'⟩) : AOps P σ0 sz ops Q (⟨dst, .alloc t, ty, pos, after, none⟩ :: rest) ⟨env, σv⟩ := by
  have h1 := idF_eq hk; have h2 := newF_eq hid; have h3 := snocF_eq hσ
  subst h1 h2 h3
  obtain ⟨size, bytes, z, v, hs, g1, g2⟩ := hz.h
  exact AOps.alloc (hs := hs) g1 g2 hd h

theorem W.store {x y : Operand} {t : TypeId} {bytes : Nat} {z : Value} {id : Id} {o k : Nat} {e e' : List C} {c : C} [hs : TyS P t 1 bytes z] (hx : ev env x = some (.c (.ptr id 0 o))) (hy : ev env y = some (.c c)) (hσ : σv[id]? = some (some (.cells k [e]))) (he : setF e o c = some e') (hσ' : putF σv id (some (.cells k [e'])) = some σ')
    (h : AOps P σ0 sz ops Q rest ⟨env, σ'⟩) : AOps P σ0 sz ops Q (⟨none, .store t x y, ty, pos, after, none⟩ :: rest) ⟨env, σv⟩ := by
  have h1 := setF_eq he; have h2 := putF_eq hσ'
  obtain ⟨h1, h3⟩ := h1
  subst h1 h2
  exact .store hx hy hσ rfl h3 h

theorem W.storeAgg {x y : Operand} {t : TypeId} {size bytes : Nat} {z : Value} {id : Id} {o k : Nat} {e e' cs : List C} [hs : TyS P t size bytes z] (hx : ev env x = some (.c (.ptr id 0 o))) (hy : ev env y = some (.agg cs)) (hσ : σv[id]? = some (some (.cells k [e]))) (hl : idF cs = some size) (hz : Nat.blt 0 size = true) (he : spliceF e o cs = some e') (hσ' : putF σv id (some (.cells k [e'])) = some σ')
    (h : AOps P σ0 sz ops Q rest ⟨env, σ'⟩) : AOps P σ0 sz ops Q (⟨none, .store t x y, ty, pos, after, none⟩ :: rest) ⟨env, σv⟩ := by
  have h0 := idF_eq hl
  have hne : cs ≠ [] := fun e0 => by subst e0; simp at h0; subst h0; cases hz
  obtain ⟨h1, h3⟩ := spliceF_eq hne he
  have h2 := putF_eq hσ'
  subst h1 h2
  exact .storeAgg hx hy hσ rfl (by omega) h0.symm h

theorem W.loadAgg {x : Operand} {t : TypeId} {d : TypeDesc} {size bytes : Nat} {z : Value} {id : Id} {j o k : Nat} {es : List (List C)} {e e1 cs : List C} [ht : TyD P t d] [hs : TyS P t size bytes z] (ha : isAggD d = true) (hx : ev env x = some (.c (.ptr id j o))) (hσ : σv[id]? = some (some (.cells k es)))
    (he : es[j]? = some e) (h1 : dropF o e = some e1) (h2 : takeF size e1 = some cs) (hd : dstOk sz dst = true)
    (h : AOps P σ0 sz ops Q rest ⟨putE env dst (.agg cs), σv⟩) : AOps P σ0 sz ops Q (⟨dst, .load t x, ty, pos, after, none⟩ :: rest) ⟨env, σv⟩ := by
  obtain ⟨h1, g1⟩ := dropF_eq h1
  obtain ⟨h2, g2⟩ := takeF_eq h2
  subst h1 h2
  exact .loadAgg ha hx hσ he (by simp at g2; omega) hd h

theorem W.loadIAgg {x : Operand} {t : TypeId} {d : TypeDesc} {size bytes : Nat} {z : Value} {cs cs1 : List I} {cc : List C} [ht : TyD P t d] [hs : TyS P t size bytes z] (ha : isAggD d = true) (hx : ev env x = some (.c (.imm (.ipt cs)))) (h1 : takeF size cs = some cs1) (h2 : immF cs1 = some cc) (hd : dstOk sz dst = true)
    (h : AOps P σ0 sz ops Q rest ⟨putE env dst (.agg cc), σv⟩) : AOps P σ0 sz ops Q (⟨dst, .load t x, ty, pos, after, none⟩ :: rest) ⟨env, σv⟩ := by
  obtain ⟨h1, g1⟩ := takeF_eq h1
  have h2 := immF_eq h2
  subst h1 h2
  exact .loadIAgg ha hx g1 hd h

theorem W.fieldAddr {x : Operand} {t : TypeId} {id : Id} {f j k off ft size bytes : Nat} {z : Value} {es : List (List C)} [hf : FieldC P t f off ft] [hs : TyS P ft size bytes z] (hz : Nat.beq size 0 = false)
    (hx : ev env x = some (.c (.ptr id j 0))) (hσ : σv[id]? = some (some (.cells k es))) (hd : dstOk sz dst = true)
    (h : AOps P σ0 sz ops Q rest ⟨putE env dst (.c (.ptr id j off)), σv⟩) : AOps P σ0 sz ops Q (⟨dst, .fieldAddr t x f, ty, pos, after, none⟩ :: rest) ⟨env, σv⟩ := by
  obtain ⟨fs, fd, h1, h2, h3, h4⟩ := hf.h
  subst h3 h4
  exact AOps.fieldAddr (ht := ⟨h1⟩) h2 (by cases size with | zero => cases hz | succ n => rfl) hx hσ hd (by rw [Nat.zero_add]; exact h)

theorem W.fieldAddrI {x : Operand} {t : TypeId} {f off ft size bytes : Nat} {z : Value} {cs cs' : List I} [hf : FieldC P t f off ft] [hs : TyS P ft size bytes z] (hz : Nat.beq size 0 = false)
    (hx : ev env x = some (.c (.imm (.ipt cs)))) (hdr : dropF off cs = some cs') (hd : dstOk sz dst = true)
    (h : AOps P σ0 sz ops Q rest ⟨putE env dst (.c (.imm (.ipt cs'))), σv⟩) : AOps P σ0 sz ops Q (⟨dst, .fieldAddr t x f, ty, pos, after, none⟩ :: rest) ⟨env, σv⟩ := by
  obtain ⟨fs, fd, h1, h2, h3, h4⟩ := hf.h
  obtain ⟨g1, g2⟩ := dropF_eq hdr
  subst h3 h4 g1
  exact AOps.fieldAddrI (ht := ⟨h1⟩) h2 (by cases size with | zero => cases hz | succ n => rfl) hx hd h

theorem W.field {x : Operand} {t : TypeId} {f off ft : Nat} {d : TypeDesc} {cs : List C} {c : C} [hf : FieldC P t f off ft] [hfd : TyD P ft d] (ha : isAggD d = false)
    (hx : ev env x = some (.agg cs)) (hc : cs[off]? = some c) (hd : dstOk sz dst = true)
    (h : AOps P σ0 sz ops Q rest ⟨putE env dst (.c c), σv⟩) : AOps P σ0 sz ops Q (⟨dst, .field t x f, ty, pos, after, none⟩ :: rest) ⟨env, σv⟩ := by
  obtain ⟨fs, fd, h1, h2, h3, h4⟩ := hf.h
  subst h3 h4
  exact AOps.field (ht := ⟨h1⟩) h2 ha hx hc hd h

def natF : Int → Option Nat
  | .ofNat n => some n
  | _ => none
theorem natF_eq {z : Int} {n : Nat} (h : natF z = some n) : z = (n : Int) := by
  cases z with
  | ofNat m => cases h; rfl
  | negSucc m => cases h

theorem W.idxArr {x y : Operand} {t e : TypeId} {len kb bytes : Nat} {z : Value} {zi : Int} {i : Nat} {id : Id} {j : Nat} {es : List (List C)} [ht : TyD P t (.array len e)] [hs : TyS P e 1 bytes z]
    (hx : ev env x = some (.c (.ptr id j 0))) (hσ : σv[id]? = some (some (.cells kb es))) (hy : ev env y = some (.c (int zi))) (hz : natF zi = some i) (hi : i < len) (hd : dstOk sz dst = true)
    (h : AOps P σ0 sz ops Q rest ⟨putE env dst (.c (.ptr id j i)), σv⟩) : AOps P σ0 sz ops Q (⟨dst, .indexAddr t x y, ty, pos, after, none⟩ :: rest) ⟨env, σv⟩ :=
  by
  have e := natF_eq hz
  subst e
  exact .indexAddrArr hx hσ hy (by omega) hd (by rw [Int.toNat_natCast, Nat.zero_add, Nat.mul_one]; exact h)

theorem W.idxArrI {x y : Operand} {t e : TypeId} {len bytes : Nat} {z : Value} {zi : Int} {i : Nat} {cs cs' : List I} [ht : TyD P t (.array len e)] [hs : TyS P e 1 bytes z]
    (hx : ev env x = some (.c (.imm (.ipt cs)))) (hy : ev env y = some (.c (int zi))) (hz : natF zi = some i) (hi : i < len) (hdr : dropF i cs = some cs') (hd : dstOk sz dst = true)
    (h : AOps P σ0 sz ops Q rest ⟨putE env dst (.c (.imm (.ipt cs'))), σv⟩) : AOps P σ0 sz ops Q (⟨dst, .indexAddr t x y, ty, pos, after, none⟩ :: rest) ⟨env, σv⟩ :=
  by
  have e := natF_eq hz
  subst e
  exact .indexAddrArrI hx hy (by omega) hd (by rw [Int.toNat_natCast, Nat.mul_one, ← (dropF_eq hdr).1]; exact h)

theorem W.build {t n : TypeId} {parts : List (Nat × Operand)} {ps : List (Nat × T)} {zc cs : List C} [hf : FlatC P t n] [hz : TyZ P t zc] (hl : idF zc = some n)
    (hps : evP env parts = some ps) (hfl : fillF zc ps = some cs) (hd : dstOk sz dst = true)
    (h : AOps P σ0 sz ops Q rest ⟨putE env dst (.agg cs), σv⟩) : AOps P σ0 sz ops Q (⟨dst, .build t parts.toArray, ty, pos, after, none⟩ :: rest) ⟨env, σv⟩ := by
  obtain ⟨fs, h1, h2, h3⟩ := hf.h
  obtain ⟨size, bytes, z, v, hs, g1, g2⟩ := hz.h
  have hlen := idF_eq hl
  have hpl : PlacesC P fs.toList ((List.range n).map fun i => (i, 1)) := ⟨fun i f hi => by
    have hi' : fs[i]? = some f := by simpa using hi
    obtain ⟨k1, j, k2, k3⟩ := h3 i f hi'
    have : i < n := by rw [← h2]; exact (Array.getElem?_eq_some_iff.1 hi').1
    exact ⟨1, j, by simp [this, k1], k2, k3⟩, by simp [h2]⟩
  have hv : v = .agg zc ∨ (∃ x, v = .c x ∧ zc = [x]) := by
    cases v with
    | c x => cases g2; exact .inr ⟨x, rfl, rfl⟩
    | agg cs => cases g2; exact .inl rfl
    | tup _ => cases g2
    | undef => cases g2
  have hsz : isAggD (.struct fs) = true := rfl
  rcases hv with rfl | ⟨x, rfl, rfl⟩
  · exact AOps.build (ht := ⟨h1⟩) (hs := hs) (hp := hpl) g1 hps (fillF_eq (fun i hi => by simp [hi]) hlen.symm hfl) hd h
  · -- a struct whose zero is one cell: read as a list of one cell all the same
    refine AOps.value rfl hd _ (fun Γ φ a w hR => ?_) h
    obtain ⟨k1, k2⟩ := evP_rel hR hps
    have hzr : RelL w φ σv (Al Γ.N φ σv) [x] z.cells := by
      have := cellsT_rel (constT_rel (w := w) (φ := φ) (σ := σv) (A := Al Γ.N φ σv) g1) g2
      exact ⟨this.1, this.2⟩
    obtain ⟨arr', e1, e2⟩ := fill_rel (w := w) (place := fun i => ((List.range n).map fun i => (i, 1))[i]?) k1 k2 hzr (fillF_eq (fun i hi => by simp [hi]) hlen.symm hfl)
    refine ⟨.agg arr', ?_, relL_agg e2⟩
    have hm : ∀ (l : List Field) (pl : List (Nat × Nat)), pl.length = l.length → (∀ (i : Nat) (f : Field), l[i]? = some f → ∃ n j, pl[i]? = some (f.offset, n) ∧ P.info? f.type = some j ∧ j.size = n) →
        (l.mapM (fun f => Functor.map (Prod.mk f.offset) (Go.sizeOf f.type) : Field → Sem (Nat × Nat))).run P w = .ok pl w := by
      intro l
      induction l with
      | nil => intro pl hl _; cases pl with | nil => rfl | cons => simp at hl
      | cons f l ih =>
        intro pl hl hh
        cases pl with
        | nil => simp at hl
        | cons p pl =>
          obtain ⟨n, j, h1, h2, h3⟩ := hh 0 f rfl
          cases h1
          have := ih pl (by simpa using hl) (fun i f hi => by simpa using hh (i + 1) f (by simpa using hi))
          simp [List.mapM_cons, Go.sizeOf, typeInfo, h2, h3] at this ⊢
          simp [this]
    have hm' := hm fs.toList _ hpl.len hpl.h
    obtain ⟨fl⟩ := fs
    have e3 : (execOp a.eval ⟨dst, .build t parts.toArray, ty, pos, after, none⟩).run P w = ((Instr.build t (parts.map fun p => (p.1, a.eval p.2)).toArray).run P w).andThen fun v w => .ok (.value v) w := by
      simp [execOp]
    rw [e3]
    simp only [Instr.build]
    rw [Sem.run_bind, run_zero (t := t)]
    simp only [Result.andThen, Sem.run_bind, run_underlying h1, List.mapM_toArray]
    simp at hm' e1
    simp [hm', e1]

theorem W.lit1 {x : Operand} {t e : TypeId} {id : Id} {k bytes : Nat} {z : Value} {v : T} {cs : List C} [ht : TyD P t (.slice e)] [hs : TyS P e k bytes z] (hzk : (z.cells.size == k) = true) (hks : Nat.ble k 16777216 = true) (hkp : Nat.blt 0 k = true) (hx : ev env x = some v) (hc : cellsT v = some cs) (hl : idF cs = some k) (hid : newF σv = some id) (hσ : snocF σv (.one (.cells k [cs])) = some σ') (hd : dstOk sz dst = true)
    (h : AOps P σ0 sz ops Q rest ⟨putE env dst (.c (.own id 0 1)), σ'⟩) : AOps P σ0 sz ops Q (⟨dst, .buildSlice t 1 #[(0, x)], ty, pos, after, none⟩ :: rest) ⟨env, σv⟩ := by
  have h1 := idF_eq hl; have h2 := newF_eq hid; have h3 := snocF_eq hσ
  subst h2 h3
  exact .lit1 hzk hks hkp hx hc h1.symm hd h

theorem W.make {x y : Operand} {t e : TypeId} {id : Id} {k bytes : Nat} {z : Value} {n : Nat} {cs : List C} [ht : TyD P t (.slice e)] [hz : TyZ P e cs] [hs : TyS P e k bytes z] (hk : idF cs = some k)
    (hx : ev env x = some (.c (int (n : Int)))) (hy : ev env y = some (.c (int (n : Int)))) (hmax : n ≤ 9223372036854775807) (hb : bytes * n ≤ 281474976710656) (hid : newF σv = some id) (hσ : snocF σv (.one (.cells k (List.replicate n cs))) = some σ') (hd : dstOk sz dst = true)
    (h : AOps P σ0 sz ops Q rest ⟨putE env dst (.c (.own id 0 n)), σ'⟩) : AOps P σ0 sz ops Q (⟨dst, .makeSlice t x y, ty, pos, after, none⟩ :: rest) ⟨env, σv⟩ := by
  have h1 := idF_eq hk; have h2 := newF_eq hid; have h3 := snocF_eq hσ
  subst h2 h3
  obtain ⟨size', bytes', z', v, hs', g1, g2⟩ := hz.h
  obtain ⟨i, e1, e2, e3, e4⟩ := hs.h
  obtain ⟨i', e1', e2', e3', e4'⟩ := hs'.h
  rw [e1] at e1'; cases e1'
  rw [e4] at e4'; cases e4'
  refine AOps.make (hs := hs) g1 g2 (by rw [h1]; simp) hx hy (Int.natCast_nonneg n) (by omega) (by
    have : ((bytes * n : Nat) : Int) ≤ 281474976710656 := by omega
    rwa [Int.natCast_mul] at this) hd ?_
  rw [Int.toNat_natCast]
  exact h
end
end Ab
