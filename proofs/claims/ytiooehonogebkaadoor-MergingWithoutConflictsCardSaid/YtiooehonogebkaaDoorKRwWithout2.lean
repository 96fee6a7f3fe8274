/-
  Texts that the proof stands on.
-/
import Derived.Test.YtiooehonogebkaaDoorKRwWithout1
import Derived.ProofKit
import Derived.Below
import Derived.ChangeSame
import Derived.OpenShut
import Derived.Test.YtiooehonogebkaaDoorChecked
import Derived.KernelRfl
import Derived.MapKept
import Derived.Lib.AppendStr
import Derived.Laws.BytesArg
import Derived.Sort.Grow
import Derived.Shelf.Slices.CompactI
import Derived.Laws.Cover3
set_option linter.all false
section
namespace Ab
open Go
def idF {α : Type} : List α → Option Nat
  | [] => some 0
  | _ :: l => match idF l with
    | some 0 => some 1
    | some 1 => some 2
    | some 2 => some 3
    | some 3 => some 4
    | some 4 => some 5
    | some 5 => some 6
    | some 6 => some 7
    | some 7 => some 8
    | some 8 => some 9
    | some 9 => some 10
    | some 10 => some 11
    | some 11 => some 12
    | some 12 => some 13
    | some 13 => some 14
    | some 14 => some 15
    | some 15 => some 16
    | some 16 => some 17
    | some 17 => some 18
    | some 18 => some 19
    | some 19 => some 20
    | some 20 => some 21
    | some 21 => some 22
    | some 22 => some 23
    | some 23 => some 24
    | _ => none
theorem idF_eq {α : Type} : ∀ {l : List α} {n : Nat}, idF l = some n → n = l.length
  | [], n, h => by cases h; rfl
  | a :: l, n, h => by
    simp only [idF] at h
    split at h <;> first
      | (cases h; done)
      | (rename_i hl; have := idF_eq hl; cases h; simp only [List.length_cons]; omega)
def setF {α : Type} : List α → Nat → α → Option (List α)
  | [], _, _ => none
  | _ :: l, 0, x => some (x :: l)
  | a :: l, n + 1, x => match setF l n x with
    | some r => some (a :: r)
    | none => none
theorem setF_eq {α : Type} : ∀ {l : List α} {n : Nat} {x : α} {r : List α}, setF l n x = some r → r = l.set n x ∧ n < l.length
  | [], n, x, r, h => by cases h
  | a :: l, 0, x, r, h => by cases h; exact ⟨rfl, by simp⟩
  | a :: l, n + 1, x, r, h => by
    simp only [setF] at h
    split at h <;> cases h
    rename_i hl
    have := setF_eq hl
    exact ⟨by rw [this.1]; rfl, by simp [this.2]⟩
/-- A new root's name, written out. -/
def newF (σ : Store) : Option Id := match idF σ with
  | some n => some (n, [])
  | none => none
theorem newF_eq {σ : Store} {id : Id} (h : newF σ = some id) : id = (σ.length, []) := by
  unfold newF at h
  split at h
  · rename_i n hn
    cases h
    rw [idF_eq hn]
  · cases h
def putEnt : Ent → List Nat → Option Blk → Option Ent
  | .one _, [], some b => some (.one b)
  | .one _, [], none => some .dead
  | .node _ s, [], b => some (.node b s)
  | _, _, _ => none
theorem putEnt_eq {e e' : Ent} {p : List Nat} {b : Option Blk} (h : putEnt e p b = some e') : e' = e.put p b := by
  unfold putEnt at h
  split at h <;> first | (cases h; rfl) | (cases h)
def putFn : Store → Nat → List Nat → Option Blk → Option Store
  | [], _, _, _ => none
  | e :: l, 0, p, b => match putEnt e p b with
    | some e' => some (e' :: l)
    | none => none
  | e :: l, n + 1, p, b => match putFn l n p b with
    | some r => some (e :: r)
    | none => none
/-- A block replaced, written out. -/
def putF (σ : Store) (i : Id) (b : Option Blk) : Option Store := putFn σ i.1 i.2 b
theorem putFn_eq : ∀ {σ r : Store} {n : Nat} {p : List Nat} {b : Option Blk}, putFn σ n p b = some r → r = σ.put (n, p) b
  | [], r, n, p, b, h => by cases h
  | e :: l, r, 0, p, b, h => by
    simp only [putFn] at h
    split at h
    · rename_i e' he
      cases h
      rw [putEnt_eq he]; simp [Store.put]
    · cases h
  | e :: l, r, n + 1, p, b, h => by
    simp only [putFn] at h
    split at h
    · rename_i r' hr
      cases h
      rw [putFn_eq hr]; simp [Store.put]
    · cases h
theorem putF_eq {σ r : Store} {i : Id} {b : Option Blk} (h : putF σ i b = some r) : r = σ.put i b := putFn_eq h
def dropF {α : Type} : Nat → List α → Option (List α)
  | 0, l => some l
  | n + 1, _ :: l => dropF n l
  | _ + 1, [] => none
theorem dropF_eq {α : Type} : ∀ {n : Nat} {l r : List α}, dropF n l = some r → r = l.drop n ∧ n ≤ l.length
  | 0, l, r, h => by cases h; exact ⟨rfl, Nat.zero_le _⟩
  | n + 1, a :: l, r, h => by
    have := dropF_eq (n := n) (l := l) h
    exact ⟨this.1, by simp; exact this.2⟩
  | n + 1, [], r, h => by cases h
def takeF {α : Type} : Nat → List α → Option (List α)
  | 0, _ => some []
  | n + 1, a :: l => match takeF n l with
    | some r => some (a :: r)
    | none => none
  | _ + 1, [] => none
theorem takeF_eq {α : Type} : ∀ {n : Nat} {l r : List α}, takeF n l = some r → r = l.take n ∧ n ≤ l.length
  | 0, l, r, h => by cases h; exact ⟨rfl, Nat.zero_le _⟩
  | n + 1, a :: l, r, h => by
    simp only [takeF] at h
    split at h <;> cases h
    rename_i hl
    have := takeF_eq hl
    exact ⟨by rw [this.1]; rfl, by simp; exact this.2⟩
  | n + 1, [], r, h => by cases h
def immF : List I → Option (List C)
  | [] => some []
  | x :: l => match immF l with
    | some r => some (.imm x :: r)
    | none => none
theorem immF_eq : ∀ {l : List I} {r : List C}, immF l = some r → r = l.map .imm
  | [], r, h => by cases h; rfl
  | x :: l, r, h => by
    simp only [immF] at h
    split at h <;> cases h
    rename_i hl
    rw [immF_eq hl]; rfl
def spliceF {α : Type} (e : List α) (o : Nat) (cs : List α) : Option (List α) := match e, o, cs with
  | e, _, [] => some e
  | [], _, _ :: _ => none
  | _ :: e, 0, c :: cs => match spliceF e 0 cs with
    | some r => some (c :: r)
    | none => none
  | a :: e, o + 1, c :: cs => match spliceF e o (c :: cs) with
    | some r => some (a :: r)
    | none => none
theorem spliceF_eq {α : Type} : ∀ {e : List α} {o : Nat} {cs r : List α}, cs ≠ [] → spliceF e o cs = some r → r = e.take o ++ cs ++ e.drop (o + cs.length) ∧ o + cs.length ≤ e.length := by
  have zero : ∀ (e cs r : List α), spliceF e 0 cs = some r → r = cs ++ e.drop cs.length ∧ cs.length ≤ e.length := by
    intro e
    induction e with
    | nil => intro cs r h; cases cs with | nil => cases h; exact ⟨rfl, by simp⟩ | cons => simp [spliceF] at h
    | cons a e ih =>
      intro cs r h
      cases cs with
      | nil => simp [spliceF] at h; subst h; exact ⟨rfl, by simp⟩
      | cons c cs =>
        simp only [spliceF] at h
        split at h <;> cases h
        rename_i r' hr
        obtain ⟨h1, h2⟩ := ih cs r' hr
        exact ⟨by rw [h1]; rfl, by simp; exact h2⟩
  intro e
  induction e with
  | nil => intro o cs r hne h; cases cs with | nil => exact absurd rfl hne | cons => simp [spliceF] at h
  | cons a e ih =>
    intro o cs r hne h
    cases cs with
    | nil => exact absurd rfl hne
    | cons c cs =>
      cases o with
      | zero =>
        obtain ⟨h1, h2⟩ := zero _ _ _ h
        exact ⟨by rw [h1]; simp, by simpa using h2⟩
      | succ o =>
        simp only [spliceF] at h
        split at h <;> cases h
        rename_i r' hr
        obtain ⟨h1, h2⟩ := ih (by simp) hr
        refine ⟨?_, ?_⟩
        · rw [h1]
          simp only [List.take_succ_cons, List.cons_append, List.length_cons]
          rw [show o + 1 + (cs.length + 1) = (o + (cs.length + 1)) + 1 by omega, List.drop_succ_cons]
        · simp only [List.length_cons] at h2 ⊢; omega
/-- A type's zero, cell by cell. -/
class TyZ (P : Program) (t : TypeId) (zc : outParam (List C)) : Prop where
  h : ∃ size bytes z v, TyS P t size bytes z ∧ constT z = some v ∧ cellsT v = some zc
theorem TyZ.of {P : Program} {t size bytes : Nat} {z : Value} {zc : List C} [h : TyS P t size bytes z] (hc : (constT z).bind cellsT = some zc) : TyZ P t zc := by
  cases hz : constT z with
  | none => rw [hz] at hc; cases hc
  | some v => rw [hz] at hc; exact ⟨size, bytes, z, v, h, hz, hc⟩
/-- A struct's field: its place and its type. -/
class FieldC (P : Program) (t f : Nat) (off ft : outParam Nat) : Prop where
  h : ∃ (fs : Array Field) (fd : Field), P.underlying t = some (.struct fs) ∧ fs[f]? = some fd ∧ fd.offset = off ∧ fd.type = ft
theorem FieldC.of {P : Program} {t f off ft : Nat} {fs : Array Field} [ht : TyD P t (.struct fs)] {fd : Field} (h1 : fs[f]? = some fd) (h2 : fd.offset = off) (h3 : fd.type = ft) : FieldC P t f off ft := ⟨fs, fd, ht.h, h1, h2, h3⟩
/-- A struct each of whose fields takes one cell. -/
class FlatC (P : Program) (t n : Nat) : Prop where
  h : ∃ (fs : Array Field), P.underlying t = some (.struct fs) ∧ fs.size = n ∧ ∀ (i : Nat) (f : Field), fs[i]? = some f → f.offset = i ∧ ∃ j, P.info? f.type = some j ∧ j.size = 1
def ones (l : List (Nat × Nat)) (i : Nat) : Bool := match l with
  | [] => true
  | (o, n) :: r => Nat.beq o i && Nat.beq n 1 && ones r (i + 1)
theorem ones_get : ∀ {l : List (Nat × Nat)} {i : Nat}, ones l i = true → ∀ (j : Nat) (p : Nat × Nat), l[j]? = some p → p = (i + j, 1)
  | [], _, _, j, p, h => by simp at h
  | (o, n) :: r, i, ho, j, p, h => by
    simp only [ones, Bool.and_eq_true] at ho
    match j with
    | 0 => cases h; rw [Nat.eq_of_beq_eq_true ho.1.1, Nat.eq_of_beq_eq_true ho.1.2]; rfl
    | j + 1 =>
      have := ones_get ho.2 j p (by simpa using h)
      rw [this]
      congr 1
      omega
theorem FlatC.of {P : Program} {t n : Nat} {fs : Array Field} {places : List (Nat × Nat)} [ht : TyD P t (.struct fs)] [hp : PlacesC P fs.toList places] (hn : fs.size = n) (ho : ones places 0 = true) : FlatC P t n :=
  ⟨fs, ht.h, hn, fun i f hf => by
    obtain ⟨m, j, h1, h2, h3⟩ := hp.h i f (by simpa using hf)
    have := ones_get ho i _ h1
    simp only [Nat.zero_add, Prod.mk.injEq] at this
    exact ⟨this.1, j, h2, by rw [h3]; exact this.2⟩⟩
def fillF : List C → List (Nat × T) → Option (List C)
  | cs, [] => some cs
  | cs, (i, .c c) :: r => match setF cs i c with
    | some cs' => fillF cs' r
    | none => none
  | _, _ => none
theorem fillF_eq {places : Nat → Option (Nat × Nat)} {n : Nat} (hp : ∀ i, i < n → places i = some (i, 1)) : ∀ {cs : List C} {ps : List (Nat × T)} {cs' : List C}, cs.length = n → fillF cs ps = some cs' → fillC places cs ps = some cs'
  | cs, [], cs', _, h => h
  | cs, (i, .c c) :: r, cs', hl, h => by
    simp only [fillF] at h
    split at h <;> try cases h
    rename_i cs2 hs
    obtain ⟨h1, h2⟩ := setF_eq hs
    simp only [fillC, hp i (by omega), cellsT]
    rw [show (Nat.beq [c].length 1 && Nat.ble (i + [c].length) cs.length) = true by
      simp only [List.length_cons, List.length_nil, Bool.and_eq_true]
      exact ⟨rfl, Nat.ble_eq_true_of_le (by omega)⟩]
    have e : cs.take i ++ [c] ++ cs.drop (i + [c].length) = cs2 := by
      rw [h1, List.set_eq_take_append_cons_drop, if_pos h2, List.append_assoc]
      rfl
    simp only [e]
    exact fillF_eq hp (by rw [h1]; simpa using hl) h
  | _, (_, .agg _) :: _, _, _, h => by cases h
  | _, (_, .tup _) :: _, _, _, h => by cases h
  | _, (_, .undef) :: _, _, _, h => by cases h
section
variable {P : Program} {σ0 : Store} {sz : Nat} {Q : Post} {env : Env} {σv σ' : Store} {ops : Array Oper} {rest : List Oper} {dst : Option Nat} {ty : TypeId} {pos : String} {after : Array Edge}
theorem W.box {x : Operand} {t : TypeId} {v : T} {cs : List C} {id : Id} {k : Nat} (hx : ev env x = some v) (hc : cellsT v = some cs) (hk : idF cs = some k) (hid : newF σv = some id) (hσ : snocF σv (.one (.cells k [cs])) = some σ') (hd : dstOk sz dst = true)
    (h : AOps P σ0 sz ops Q rest ⟨putE env dst (.c (.ptr id 0 0)), σ'⟩) : AOps P σ0 sz ops Q (⟨dst, .box t x, ty, pos, after, none⟩ :: rest) ⟨env, σv⟩ := by
  have h1 := idF_eq hk; have h2 := newF_eq hid; have h3 := snocF_eq hσ
  subst h1 h2 h3
  exact .box hx hc hd h
theorem W.alloc {t : TypeId} {cs : List C} {id : Id} {k : Nat} [hz : TyZ P t cs] (hk : idF cs = some k) (hid : newF σv = some id) (hσ : snocF σv (.one (.cells k [cs])) = some σ') (hd : dstOk sz dst = true)
    (h : AOps P σ0 sz ops Q rest ⟨putE env dst (.c (.ptr id 0 0)), σ'⟩) : AOps P σ0 sz ops Q (⟨dst, .alloc t, ty, pos, after, none⟩ :: rest) ⟨env, σv⟩ := by
  have h1 := idF_eq hk; have h2 := newF_eq hid; have h3 := snocF_eq hσ
  subst h1 h2 h3
  obtain ⟨size, bytes, z, v, hs, g1, g2⟩ := hz.h
  exact AOps.alloc (hs := hs) g1 g2 hd h
theorem W.store {x y : Operand} {t : TypeId} {bytes : Nat} {z : Value} {id : Id} {o k : Nat} {e e' : List C} {c : C} [hs : TyS P t 1 bytes z] (hx : ev env x = some (.c (.ptr id 0 o))) (hy : ev env y = some (.c c)) (hσ : σv[id]? = some (some (.cells k [e]))) (he : setF e o c = some e') (hσ' : putF σv id (some (.cells k [e'])) = some σ')
    (h : AOps P σ0 sz ops Q rest ⟨env, σ'⟩) : AOps P σ0 sz ops Q (⟨none, .store t x y, ty, pos, after, none⟩ :: rest) ⟨env, σv⟩ := by
  have h1 := setF_eq he; have h2 := putF_eq hσ'
  obtain ⟨h1, h3⟩ := h1
  subst h1 h2
  exact .store hx hy hσ rfl h3 h
theorem W.storeAgg {x y : Operand} {t : TypeId} {size bytes : Nat} {z : Value} {id : Id} {o k : Nat} {e e' cs : List C} [hs : TyS P t size bytes z] (hx : ev env x = some (.c (.ptr id 0 o))) (hy : ev env y = some (.agg cs)) (hσ : σv[id]? = some (some (.cells k [e]))) (hl : idF cs = some size) (hz : Nat.blt 0 size = true) (he : spliceF e o cs = some e') (hσ' : putF σv id (some (.cells k [e'])) = some σ')
    (h : AOps P σ0 sz ops Q rest ⟨env, σ'⟩) : AOps P σ0 sz ops Q (⟨none, .store t x y, ty, pos, after, none⟩ :: rest) ⟨env, σv⟩ := by
  have h0 := idF_eq hl
  have hne : cs ≠ [] := fun e0 => by subst e0; simp at h0; subst h0; cases hz
  obtain ⟨h1, h3⟩ := spliceF_eq hne he
  have h2 := putF_eq hσ'
  subst h1 h2
  exact .storeAgg hx hy hσ rfl (by omega) h0.symm h
theorem W.loadAgg {x : Operand} {t : TypeId} {d : TypeDesc} {size bytes : Nat} {z : Value} {id : Id} {j o k : Nat} {es : List (List C)} {e e1 cs : List C} [ht : TyD P t d] [hs : TyS P t size bytes z] (ha : isAggD d = true) (hx : ev env x = some (.c (.ptr id j o))) (hσ : σv[id]? = some (some (.cells k es)))
    (he : es[j]? = some e) (h1 : dropF o e = some e1) (h2 : takeF size e1 = some cs) (hd : dstOk sz dst = true)
    (h : AOps P σ0 sz ops Q rest ⟨putE env dst (.agg cs), σv⟩) : AOps P σ0 sz ops Q (⟨dst, .load t x, ty, pos, after, none⟩ :: rest) ⟨env, σv⟩ := by
  obtain ⟨h1, g1⟩ := dropF_eq h1
  obtain ⟨h2, g2⟩ := takeF_eq h2
  subst h1 h2
  exact .loadAgg ha hx hσ he (by simp at g2; omega) hd h
theorem W.loadIAgg {x : Operand} {t : TypeId} {d : TypeDesc} {size bytes : Nat} {z : Value} {cs cs1 : List I} {cc : List C} [ht : TyD P t d] [hs : TyS P t size bytes z] (ha : isAggD d = true) (hx : ev env x = some (.c (.imm (.ipt cs)))) (h1 : takeF size cs = some cs1) (h2 : immF cs1 = some cc) (hd : dstOk sz dst = true)
    (h : AOps P σ0 sz ops Q rest ⟨putE env dst (.agg cc), σv⟩) : AOps P σ0 sz ops Q (⟨dst, .load t x, ty, pos, after, none⟩ :: rest) ⟨env, σv⟩ := by
  obtain ⟨h1, g1⟩ := takeF_eq h1
  have h2 := immF_eq h2
  subst h1 h2
  exact .loadIAgg ha hx g1 hd h
theorem W.fieldAddr {x : Operand} {t : TypeId} {id : Id} {f j k off ft size bytes : Nat} {z : Value} {es : List (List C)} [hf : FieldC P t f off ft] [hs : TyS P ft size bytes z] (hz : Nat.beq size 0 = false)
    (hx : ev env x = some (.c (.ptr id j 0))) (hσ : σv[id]? = some (some (.cells k es))) (hd : dstOk sz dst = true)
    (h : AOps P σ0 sz ops Q rest ⟨putE env dst (.c (.ptr id j off)), σv⟩) : AOps P σ0 sz ops Q (⟨dst, .fieldAddr t x f, ty, pos, after, none⟩ :: rest) ⟨env, σv⟩ := by
  obtain ⟨fs, fd, h1, h2, h3, h4⟩ := hf.h
  subst h3 h4
  exact AOps.fieldAddr (ht := ⟨h1⟩) h2 (by cases size with | zero => cases hz | succ n => rfl) hx hσ hd (by rw [Nat.zero_add]; exact h)
theorem W.fieldAddrI {x : Operand} {t : TypeId} {f off ft size bytes : Nat} {z : Value} {cs cs' : List I} [hf : FieldC P t f off ft] [hs : TyS P ft size bytes z] (hz : Nat.beq size 0 = false)
    (hx : ev env x = some (.c (.imm (.ipt cs)))) (hdr : dropF off cs = some cs') (hd : dstOk sz dst = true)
    (h : AOps P σ0 sz ops Q rest ⟨putE env dst (.c (.imm (.ipt cs'))), σv⟩) : AOps P σ0 sz ops Q (⟨dst, .fieldAddr t x f, ty, pos, after, none⟩ :: rest) ⟨env, σv⟩ := by
  obtain ⟨fs, fd, h1, h2, h3, h4⟩ := hf.h
  obtain ⟨g1, g2⟩ := dropF_eq hdr
  subst h3 h4 g1
  exact AOps.fieldAddrI (ht := ⟨h1⟩) h2 (by cases size with | zero => cases hz | succ n => rfl) hx hd h
theorem W.build {t n : TypeId} {parts : List (Nat × Operand)} {ps : List (Nat × T)} {zc cs : List C} [hf : FlatC P t n] [hz : TyZ P t zc] (hl : idF zc = some n)
    (hps : evP env parts = some ps) (hfl : fillF zc ps = some cs) (hd : dstOk sz dst = true)
    (h : AOps P σ0 sz ops Q rest ⟨putE env dst (.agg cs), σv⟩) : AOps P σ0 sz ops Q (⟨dst, .build t parts.toArray, ty, pos, after, none⟩ :: rest) ⟨env, σv⟩ := by
  obtain ⟨fs, h1, h2, h3⟩ := hf.h
  obtain ⟨size, bytes, z, v, hs, g1, g2⟩ := hz.h
  have hlen := idF_eq hl
  have hpl : PlacesC P fs.toList ((List.range n).map fun i => (i, 1)) := ⟨fun i f hi => by
    have hi' : fs[i]? = some f := by simpa using hi
    obtain ⟨k1, j, k2, k3⟩ := h3 i f hi'
    have : i < n := by rw [← h2]; exact (Array.getElem?_eq_some_iff.1 hi').1
    exact ⟨1, j, by simp [this, k1], k2, k3⟩, by simp [h2]⟩
  have hv : v = .agg zc ∨ (∃ x, v = .c x ∧ zc = [x]) := by
    cases v with
    | c x => cases g2; exact .inr ⟨x, rfl, rfl⟩
    | agg cs => cases g2; exact .inl rfl
    | tup _ => cases g2
    | undef => cases g2
  have hsz : isAggD (.struct fs) = true := rfl
  rcases hv with rfl | ⟨x, rfl, rfl⟩
  · exact AOps.build (ht := ⟨h1⟩) (hs := hs) (hp := hpl) g1 hps (fillF_eq (fun i hi => by simp [hi]) hlen.symm hfl) hd h
  · -- a struct whose zero is one cell: read as' a list of one cell all the same
    refine AOps.value rfl hd _ (fun Γ φ a w hR => ?_) h
    obtain ⟨k1, k2⟩ := evP_rel hR hps
    have hzr : RelL w φ σv (Al Γ.N φ σv) [x] z.cells := by
      have := cellsT_rel (constT_rel (w := w) (φ := φ) (σ := σv) (A := Al Γ.N φ σv) g1) g2
      exact ⟨this.1, this.2⟩
    obtain ⟨arr', e1, e2⟩ := fill_rel (w := w) (place := fun i => ((List.range n).map fun i => (i, 1))[i]?) k1 k2 hzr (fillF_eq (fun i hi => by simp [hi]) hlen.symm hfl)
    refine ⟨.agg arr', ?_, relL_agg e2⟩
    have hm : ∀ (l : List Field) (pl : List (Nat × Nat)), pl.length = l.length → (∀ (i : Nat) (f : Field), l[i]? = some f → ∃ n j, pl[i]? = some (f.offset, n) ∧ P.info? f.type = some j ∧ j.size = n) →
        (l.mapM (fun f => Functor.map (Prod.mk f.offset) (Go.sizeOf f.type) : Field → Sem (Nat × Nat))).run P w = .ok pl w := by
      intro l
      induction l with
      | nil => intro pl hl _; cases pl with | nil => rfl | cons => simp at hl
      | cons f l ih =>
        intro pl hl hh
        cases pl with
        | nil => simp at hl
        | cons p pl =>
          obtain ⟨n, j, h1, h2, h3⟩ := hh 0 f rfl
          cases h1
          have := ih pl (by simpa using hl) (fun i f hi => by simpa using hh (i + 1) f (by simpa using hi))
          simp [List.mapM_cons, Go.sizeOf, typeInfo, h2, h3] at this ⊢
          simp [this]
    have hm' := hm fs.toList _ hpl.len hpl.h
    obtain ⟨fl⟩ := fs
    have e3 : (execOp a.eval ⟨dst, .build t parts.toArray, ty, pos, after, none⟩).run P w = ((Instr.build t (parts.map fun p => (p.1, a.eval p.2)).toArray).run P w).andThen fun v w => .ok (.value v) w := by
      simp [execOp]
    rw [e3]
    simp only [Instr.build]
    rw [Sem.run_bind, run_zero (t := t)]
    simp only [Result.andThen, Sem.run_bind, run_underlying h1, List.mapM_toArray]
    simp at hm' e1
    simp [hm', e1]
end
end Ab
end
section
namespace Ab
open Go Go.RowKit Go.WideShapes Go.ChangeShapes
/-- What a cell may hold. -/
inductive Sh where
  | int
  | bool
  | sl (l : List Sh) (b : Nat)
  deriving Inhabited
def shFields (P : Program) (g : TypeId → Option (List Sh)) : Nat → List Field → Option (List Sh)
  | _, [] => some []
  | off, f :: fs => (g f.type).bind fun L => if Nat.beq f.offset off && Nat.beq (P.cellsOf f.type) L.length then (shFields P g (off + L.length) fs).map (L ++ ·) else none
def shRep (L : List Sh) : Nat → List Sh
  | 0 => []
  | n + 1 => L ++ shRep L n
/-- The cells of a type. -/
def shapes (P : Program) : Nat → TypeId → Option (List Sh)
  | 0, _ => none
  | n + 1, t => match P.underlying t with
    | some .bool => some [.bool]
    | some (.int .i64) => some [.int]
    | some (.slice e) => (shapes P n e).bind fun L => if Nat.beq (P.cellsOf e) L.length then some [.sl L (P.bytesOf e)] else none
    | some (.struct fs) => (shFields P (shapes P n) 0 fs.toList).bind fun L => if Nat.beq (P.cellsOf t) L.length then some L else none
    | some (.array m e) => (shapes P n e).bind fun L => if Nat.beq (P.cellsOf e) L.length && Nat.beq (P.cellsOf t) (shRep L m).length then some (shRep L m) else none
    | _ => none
/-- A row of cells that fits. -/
inductive DecL : List Sh → List I → Prop
  | nil : DecL [] []
  | int {n : Int} {L is} (h1 : -9223372036854775808 ≤ n) (h2 : n ≤ 9223372036854775807) (h : DecL L is) : DecL (.int :: L) (.val (.int .i64 n) :: is)
  | bool {b : Bool} {L is} (h : DecL L is) : DecL (.bool :: L) (.val (.bool b) :: is)
  | sl {L0 b es L is} (he : ∀ e ∈ es, DecL L0 e) (hw : es.length * b ≤ 140737488355328) (h : DecL L is) : DecL (.sl L0 b :: L) (.sl L0.length es :: is)
theorem DecL.length {L : List Sh} {is : List I} (h : DecL L is) : is.length = L.length := by
  induction h with
  | nil => rfl
  | int _ _ _ ih => simp [ih]
  | bool _ ih => simp [ih]
  | sl _ _ _ _ ih => simp [ih]
theorem DecL.append {L L' : List Sh} {is is' : List I} (h : DecL L is) (h' : DecL L' is') : DecL (L ++ L') (is ++ is') := by
  induction h with
  | nil => exact h'
  | int h1 h2 _ ih => exact .int h1 h2 ih
  | bool _ ih => exact .bool ih
  | sl he hw _ _ ih => exact .sl he hw ih
/-- What the cells of a value show. -/
def Shown (w : World) (A : Nat → Prop) (is : List I) (cs : List Value) : Prop := is.length = cs.length ∧ ∀ (i : Nat) (x : I) (v : Value), is[i]? = some x → cs[i]? = some v → RelI w A x v
theorem Shown.append {w : World} {A : Nat → Prop} {is is' : List I} {cs cs' : List Value} (h : Shown w A is cs) (h' : Shown w A is' cs') : Shown w A (is ++ is') (cs ++ cs') := by
  refine ⟨by simp [h.1, h'.1], fun i x v hi hv => ?_⟩
  rcases Nat.lt_or_ge i is.length with hl | hl
  · rw [List.getElem?_append_left hl] at hi
    rw [List.getElem?_append_left (by rw [← h.1]; exact hl)] at hv
    exact h.2 i x v hi hv
  · rw [List.getElem?_append_right hl] at hi
    rw [List.getElem?_append_right (by rw [← h.1]; exact hl), ← h.1] at hv
    exact h'.2 _ x v hi hv
theorem Shown.one {w : World} {A : Nat → Prop} {x : I} {v : Value} (h : RelI w A x v) : Shown w A [x] [v] := by
  refine ⟨rfl, fun i y u hi hu => ?_⟩
  match i with
  | 0 => cases hi; cases hu; exact h
  | i + 1 => simp at hi
theorem ex_list {α : Type} {p : Nat → α → Prop} : ∀ n : Nat, (∀ i, i < n → ∃ a, p i a) → ∃ l : List α, l.length = n ∧ ∀ i a, l[i]? = some a → p i a
  | 0, _ => ⟨[], rfl, fun i a h => by simp at h⟩
  | n + 1, h => by
    obtain ⟨l, h1, h2⟩ := ex_list n fun i hi => h i (by omega)
    obtain ⟨a, ha⟩ := h n (by omega)
    refine ⟨l ++ [a], by simp [h1], fun i b hb => ?_⟩
    rcases Nat.lt_or_ge i n with hi | hi
    · rw [List.getElem?_append_left (by omega)] at hb; exact h2 i b hb
    · rw [List.getElem?_append_right (by omega)] at hb
      have : i = n := by
        have := (List.getElem?_eq_some_iff.1 hb).1
        simp at this; omega
      subst this
      simp [h1] at hb; subst hb; exact ha
section
variable {H : Type} {enc : TypeId × Value → H} {P : Program} {w : World} {base : Nat} {spare : Nat → Bool} {held : Bool} {A : Nat → Prop}
/-- Nothing that is read is too large for a machine. -/
def Fits (l : List Nat) : Prop := l.all (· ≤ reachBytes) = true
theorem Fits.app {l m : List Nat} (h : Fits (l ++ m)) : Fits l ∧ Fits m := by
  unfold Fits at h
  rw [List.all_append, Bool.and_eq_true] at h
  exact h
theorem fits_all {e : TypeId} : ∀ {ds : List (DataW H)}, Fits (DataW.weightsAll P e ds) → ∀ d ∈ ds, Fits (d.weights P e)
  | [], _, d, hd => by cases hd
  | x :: r, h, d, hd => by
    unfold DataW.weightsAll at h
    obtain ⟨h1, h2⟩ := h.app
    rcases List.mem_cons.1 hd with rfl | hd
    · exact h1
    · exact fits_all h2 d hd
theorem fits_each : ∀ {ts : List TypeId} {ds : List (DataW H)}, Fits (DataW.weightsEach P ts ds) → ∀ (i : Nat) (t : TypeId) (d : DataW H), ts[i]? = some t → ds[i]? = some d → Fits (d.weights P t)
  | [], _, _, i, t, d, h1, _ => by simp at h1
  | _ :: _, [], _, i, t, d, _, h2 => by simp at h2
  | t0 :: ts, d0 :: ds, h, i, t, d, h1, h2 => by
    unfold DataW.weightsEach at h
    obtain ⟨g1, g2⟩ := h.app
    match i with
    | 0 => cases h1; cases h2; exact g1
    | i + 1 => exact fits_each g2 i t d (by simpa using h1) (by simpa using h2)
/-- What 'trod' has read, shown. -/
def Reads (enc : TypeId × Value → H) (P : Program) (w : World) (base : Nat) (spare : Nat → Bool) (held : Bool) (A : Nat → Prop) (g : TypeId → Option (List Sh)) : Prop :=
  ∀ (t : TypeId) (L : List Sh) (fuel : Nat) (cs : List Value) (x : DataW H × List MemPlace), g t = some L → DataW.trod enc P w base spare held fuel t cs = some x → Fits (x.1.weights P t) → ∃ is, DecL L is ∧ Shown w A is cs
theorem reads_fields {g : TypeId → Option (List Sh)} (hg : Reads enc P w base spare held A g) : ∀ (fs : List Field) (off : Nat) (L : List Sh) (cs : List Value), shFields P g off fs = some L →
    (∀ f ∈ fs, ∃ (fuel : Nat) (x : DataW H × List MemPlace), DataW.trod enc P w base spare held fuel f.type ((cs.drop f.offset).take (P.cellsOf f.type)) = some x ∧ Fits (x.1.weights P f.type)) →
    ∃ is, DecL L is ∧ Shown w A is ((cs.drop off).take L.length)
  | [], off, L, cs, h, _ => by
    simp only [shFields, Option.some.injEq] at h
    subst h
    exact ⟨[], .nil, rfl, fun i x v hi => by simp at hi⟩
  | f :: fs, off, L, cs, h, hf => by
    simp only [shFields, Option.bind_eq_some_iff] at h
    obtain ⟨L1, h1, h2⟩ := h
    split at h2
    · rename_i hb
      simp only [Bool.and_eq_true] at hb
      have b1 := Nat.eq_of_beq_eq_true hb.1
      have b2 := Nat.eq_of_beq_eq_true hb.2
      rw [Option.map_eq_some_iff] at h2
      obtain ⟨L2, h2, rfl⟩ := h2
      obtain ⟨fuel, x, hx, hfit⟩ := hf f (by simp)
      obtain ⟨i1, g1, g2⟩ := hg _ _ _ _ _ h1 hx hfit
      obtain ⟨i2, g3, g4⟩ := reads_fields hg fs _ L2 cs h2 fun f' hf' => hf f' (by simp [hf'])
      refine ⟨i1 ++ i2, g1.append g3, ?_⟩
      rw [b1, b2] at g2
      have e : (cs.drop off).take (L1 ++ L2).length = (cs.drop off).take L1.length ++ (cs.drop (off + L1.length)).take L2.length := by
        rw [List.length_append, List.take_add, List.drop_drop]
      rw [e]
      exact g2.append g4
    · cases h2
theorem reads_rep {g : TypeId → Option (List Sh)} (hg : Reads enc P w base spare held A g) {e : TypeId} {L : List Sh} (hL : g e = some L) : ∀ (m off : Nat) (cs : List Value),
    (∀ i, i < m → ∃ (fuel : Nat) (x : DataW H × List MemPlace), DataW.trod enc P w base spare held fuel e ((cs.drop (off + i * L.length)).take L.length) = some x ∧ Fits (x.1.weights P e)) →
    ∃ is, DecL (shRep L m) is ∧ Shown w A is ((cs.drop off).take (shRep L m).length)
  | 0, off, cs, _ => ⟨[], .nil, rfl, fun i x v hi => by simp at hi⟩
  | m + 1, off, cs, hf => by
    obtain ⟨fuel, x, hx, hfit⟩ := hf 0 (by omega)
    rw [Nat.zero_mul, Nat.add_zero] at hx
    obtain ⟨i1, g1, g2⟩ := hg _ _ _ _ _ hL hx hfit
    obtain ⟨i2, g3, g4⟩ := reads_rep hg hL m (off + L.length) cs fun i hi => by
      have := hf (i + 1) (by omega)
      rwa [show off + (i + 1) * L.length = off + L.length + i * L.length by rw [Nat.add_mul]; omega] at this
    refine ⟨i1 ++ i2, g1.append g3, ?_⟩
    have e : (cs.drop off).take (shRep L (m + 1)).length = (cs.drop off).take L.length ++ (cs.drop (off + L.length)).take (shRep L m).length := by
      rw [shRep, List.length_append, List.take_add, List.drop_drop]
    rw [e]
    exact g2.append g4
theorem reads_shapes (hA : ∀ b, A b) : ∀ n : Nat, Reads enc P w base spare held A (shapes P n)
  | 0 => fun t L fuel cs x h => by simp [shapes] at h
  | n + 1 => fun t L fuel cs x h hx hfit => by
    have ih := reads_shapes hA n
    unfold shapes at h
    split at h
    · rename_i ht
      cases h
      obtain ⟨b, rfl, _⟩ := DataW.trod_bool ht hx
      exact ⟨[.val (.bool b)], .bool .nil, .one (.val rfl)⟩
    · rename_i ht
      cases h
      obtain ⟨m, rfl, _, hw⟩ := DataW.trod_int ht hx
      have hb : -9223372036854775808 ≤ m ∧ m ≤ 9223372036854775807 := by
        simp only [Lit.wf, Bool.and_eq_true, decide_eq_true_eq] at hw
        simpa [IntKind.min, IntKind.max, IntKind.signed, IntKind.bits] using hw
      exact ⟨[.val (.int .i64 m)], .int hb.1 hb.2 .nil, .one (.val rfl)⟩
    · rename_i e ht
      rw [Option.bind_eq_some_iff] at h
      obtain ⟨L0, h0, h⟩ := h
      split at h
      · rename_i hb
        have hb := Nat.eq_of_beq_eq_true hb
        cases h
        rcases DataW.trod_slice ht hx with ⟨rfl, _⟩ | ⟨a, len, cap, elems, rest, m, _, rfl, hxe, hbase, hl, hm, hlen, hel, _, _⟩
        · exact ⟨[.sl L0.length []], .sl (fun e he => by simp at he) (by simp) .nil, .one .slNil⟩
        · have hfit : Fits ((elems.map (·.1)).length.add (rest.map (·.1)).length * P.bytesOf e :: (DataW.weightsAll P e (elems.map (·.1)) ++ DataW.weightsAll P e (rest.map (·.1)))) := by
            have := hfit
            rw [hxe] at this
            dsimp only at this
            unfold DataW.weights at this
            rw [ht] at this
            exact this
          obtain ⟨fit1, fit2⟩ := Fits.app (l := [_]) hfit
          have fit3 := (Fits.app fit2).1
          obtain ⟨es, e1, e2⟩ := ex_list (p := fun j is => DecL L0 is ∧ ∃ cs, (∀ o, o < L0.length → w.cell? (a.add (j * L0.length + o)) = cs[o]?) ∧ Shown w A is cs) len fun j hj => by
            have hj' := hel j hj
            rw [List.getElem?_eq_getElem (by omega), Option.bind_eq_some_iff] at hj'
            obtain ⟨cs, hcs, hy⟩ := hj'
            obtain ⟨_, c1, c2⟩ := World.cells?_some hcs
            obtain ⟨is, d1, d2⟩ := ih _ _ _ _ _ h0 hy (fits_all fit3 _ (List.mem_map.2 ⟨_, List.getElem_mem _, rfl⟩))
            refine ⟨is, d1, cs, fun o ho => ?_, d2⟩
            rw [← Addr.add_add, ← hb]
            exact c2 o (by rw [hb]; exact ho)
          refine ⟨[.sl L0.length es], .sl (fun e he => ?_) ?_ .nil, .one ?_⟩
          · obtain ⟨i, hi⟩ := List.getElem?_of_mem he
            exact (e2 i e hi).1
          · simp only [Fits, List.all_cons, List.all_nil, Bool.and_true, decide_eq_true_eq, reachBytes, List.length_map] at fit1
            have : es.length * P.bytesOf e ≤ elems.length.add rest.length * P.bytesOf e := Nat.mul_le_mul_right _ (by rw [e1, hlen]; exact Nat.le_add_right _ _)
            exact Nat.le_trans this (Nat.le_trans (of_decide_eq_true fit1) (by decide))
          · subst e1
            have cell : ∀ (j : Nat) (e : List I) (o : Nat) (x : I), es[j]? = some e → e[o]? = some x → ∃ u, w.cell? (a.add (j * L0.length + o)) = some u ∧ RelI w A x u := fun j e o x hj ho => by
              obtain ⟨d1, cs, c1, c2⟩ := e2 j e hj
              have ho' := (List.getElem?_eq_some_iff.1 ho).1
              rw [d1.length] at ho'
              have hcs : o < cs.length := by rw [← c2.1, d1.length]; exact ho'
              refine ⟨cs[o], by rw [c1 o ho']; simp [hcs], c2.2 o x _ ho (by simp [hcs])⟩
            refine .sl (fun j o => (w.cell? (a.add (j * L0.length + o))).getD undef) hl hm (fun j e hj => (e2 j e hj).1.length) (fun j e o x hj ho => ?_) (fun j e o x hj ho => ?_)
            · obtain ⟨u, hu, _⟩ := cell j e o x hj ho
              rw [hu]; exact ⟨hA _, rfl⟩
            · obtain ⟨u, hu, hr⟩ := cell j e o x hj ho
              rw [hu]; exact hr
      · cases h
    · rename_i fs ht
      rw [Option.bind_eq_some_iff] at h
      obtain ⟨L0, h0, h⟩ := h
      split at h
      · rename_i hb
        have hb := Nat.eq_of_beq_eq_true hb
        cases h
        obtain ⟨xs, m, _, hxe, hlen, hxs, hf⟩ := DataW.trod_struct ht hx
        obtain ⟨is, d1, d2⟩ := reads_fields (H := H) (base := base) (spare := spare) (held := held) (A := A) ih fs.toList 0 L cs h0 fun f hf' => by
          obtain ⟨i, hi⟩ := List.getElem?_of_mem hf'
          have hi' : fs[i]? = some f := by simpa using hi
          have hl : i < xs.length := by
            rw [hxs]
            exact (Array.getElem?_eq_some_iff.1 hi').1
          have hfit : Fits (DataW.weightsEach P (fs.toList.map (·.type)) (xs.map (·.1))) := by
            have := hfit
            rw [hxe] at this
            dsimp only at this
            unfold DataW.weights at this
            rw [ht] at this
            exact this
          exact ⟨m, xs[i], by rw [hf i f hi']; simp [hl], fits_each hfit i _ _ (by rw [List.getElem?_map, hi]; rfl) (by simp [hl])⟩
        rw [List.drop_zero, List.take_of_length_le (by omega)] at d2
        exact ⟨is, d1, d2⟩
      · cases h
    · rename_i m e ht
      rw [Option.bind_eq_some_iff] at h
      obtain ⟨L0, h0, h⟩ := h
      split at h
      · rename_i hb
        simp only [Bool.and_eq_true] at hb
        have b1 := Nat.eq_of_beq_eq_true hb.1
        have b2 := Nat.eq_of_beq_eq_true hb.2
        cases h
        obtain ⟨xs, q, _, hxe, hlen, hxs, hf⟩ := Go.DataW.trod_array ht hx
        obtain ⟨is, d1, d2⟩ := reads_rep (H := H) (base := base) (spare := spare) (held := held) (A := A) ih h0 m 0 cs fun i hi => by
          have := hf i hi
          rw [b1] at this
          have hfit : Fits (DataW.weightsAll P e (xs.map (·.1))) := by
            have := hfit
            rw [hxe] at this
            dsimp only at this
            unfold DataW.weights at this
            rw [ht] at this
            exact this
          refine ⟨q, xs[i]'(by omega), ?_, fits_all hfit _ (List.mem_map.2 ⟨_, List.getElem_mem _, rfl⟩)⟩
          rw [Nat.zero_add, this]
          simp [hxs, hi]
        rw [List.drop_zero, List.take_of_length_le (by omega)] at d2
        exact ⟨is, d1, d2⟩
      · cases h
    · cases h
/-- The tree of a value of type t whose cells show 'is'. -/
def treeOf (P : Program) (t : TypeId) (is : List I) : T := match P.underlying t with
  | some (.struct _) => .agg (is.map .imm)
  | some (.array _ _) => .agg (is.map .imm)
  | _ => match is with
    | x :: _ => .c (.imm x)
    | [] => .undef
/-- The trees that an argument of type t may be. -/
def ArgT (P : Program) (t : TypeId) (x : T) : Prop := ∃ L is, shapes P 9 t = some L ∧ DecL L is ∧ x = treeOf P t is
theorem relT_agg {φ : Phi} {σ : Store} {is : List I} {cs : Array Value} (h : Shown w A is cs.toList) : RelT w φ σ A (.agg (is.map .imm)) (.agg cs) := by
  have e : cs = ((List.range (is.map C.imm).length).map fun i => (cs.toList[i]?).getD undef).toArray := by
    apply Array.ext'
    simp only []
    rw [List.length_map, h.1]
    apply List.ext_getElem?
    intro i
    rw [List.getElem?_map]
    rcases Nat.lt_or_ge i cs.toList.length with hl | hl
    · rw [List.getElem?_range hl, Option.map_some, List.getElem?_eq_getElem hl]; rfl
    · rw [List.getElem?_eq_none hl, List.getElem?_eq_none (by simpa using hl)]; rfl
  rw [e]
  refine .agg _ fun i c hc => ?_
  rw [List.getElem?_map, Option.map_eq_some_iff] at hc
  obtain ⟨x, hx, rfl⟩ := hc
  have hl : i < cs.toList.length := by rw [← h.1]; exact (List.getElem?_eq_some_iff.1 hx).1
  rw [List.getElem?_eq_getElem hl]
  exact .imm (h.2 i x _ hx (List.getElem?_eq_getElem hl))
/-- An argument, as' a tree. -/
theorem argT {φ : Phi} {σ : Store} (hA : ∀ b, A b) {r : Reach} {b0 : Nat} {t : TypeId} {v : Value} {d : DataW H} {ps : List MemPlace} (hs : (shapes P 9 t).isSome = true) (hok : Value.okWide P w r b0 t v) (hd : DataW.Trod enc P w base spare held t v d ps) (hfit : Fits (d.weights P t)) :
    ∃ x, ArgT P t x ∧ RelT w φ σ A x v := by
  obtain ⟨L, hL⟩ := Option.isSome_iff_exists.1 hs
  obtain ⟨fuel, hf⟩ := hd
  obtain ⟨is, d1, d2⟩ := reads_shapes hA 9 t L fuel _ _ hL hf hfit
  refine ⟨treeOf P t is, ⟨L, is, hL, d1, rfl⟩, ?_⟩
  have hL0 := hL
  unfold shapes at hL
  split at hL
  · rename_i ht
    obtain ⟨b, rfl⟩ := okWide_bool ht hok
    cases hL
    have hlen := d1.length
    match is, hlen with
    | [x], _ =>
      have : treeOf P t [x] = .c (.imm x) := by simp [treeOf, ht]
      rw [this]
      exact .c (.imm (d2.2 0 x _ rfl rfl))
  · rename_i ht
    obtain ⟨b, rfl⟩ := okWide_int ht hok
    cases hL
    have hlen := d1.length
    match is, hlen with
    | [x], _ =>
      have : treeOf P t [x] = .c (.imm x) := by simp [treeOf, ht]
      rw [this]
      exact .c (.imm (d2.2 0 x _ rfl rfl))
  · rename_i e ht
    obtain ⟨a, len, cap, rfl⟩ := okWide_slice ht hok
    rw [Option.bind_eq_some_iff] at hL
    obtain ⟨L0, _, hL⟩ := hL
    split at hL
    · cases hL
      have hlen := d1.length
      match is, hlen with
      | [x], _ =>
        have : treeOf P t [x] = .c (.imm x) := by simp [treeOf, ht]
        rw [this]
        exact .c (.imm (d2.2 0 x _ rfl rfl))
    · cases hL
  · rename_i fs ht
    obtain ⟨cs, rfl, _⟩ := okWide_struct ht hok
    have : treeOf P t is = .agg (is.map .imm) := by simp [treeOf, ht]
    rw [this]
    exact relT_agg d2
  · rename_i m e ht
    have : ∃ cs, v = .agg cs := by
      simp only [Value.okWide, ht] at hok
      obtain ⟨cs, h1, _⟩ := hok
      exact ⟨cs, h1⟩
    obtain ⟨cs, rfl⟩ := this
    have : treeOf P t is = .agg (is.map .imm) := by simp [treeOf, ht]
    rw [this]
    exact relT_agg d2
  · cases hL
def ArgsT (P : Program) : List TypeId → List T → Prop
  | [], [] => True
  | t :: ts, x :: xs => ArgT P t x ∧ ArgsT P ts xs
  | _, _ => False
/-- All arguments, as' trees. -/
theorem argsT {φ : Phi} {σ : Store} (hA : ∀ b, A b) {r : Reach} {b0 : Nat} : ∀ {ts : List TypeId} {vs : List Value} {ds : List (DataW H)} {ps : List MemPlace}, (∀ t ∈ ts, (shapes P 9 t).isSome = true) →
    (∀ (j : Nat) t v, ts[j]? = some t → vs[j]? = some v → Value.okWide P w r b0 t v) → DataW.TrodAll enc P w base spare held ts vs ds ps → Fits (DataW.weightsEach P ts ds) →
    ∃ xs : List T, ArgsT P ts xs ∧ xs.length = vs.length ∧ ∀ (i : Nat) (x : T) (u : Value), xs[i]? = some x → vs[i]? = some u → RelT w φ σ A x u
  | [], [], [], _, _, _, _, _ => ⟨[], trivial, rfl, fun i x u h => by simp at h⟩
  | t :: ts, v :: vs, d :: ds, ps, hs, hok, h, hfit => by
    unfold DataW.weightsEach at hfit
    obtain ⟨hfit1, hfit2⟩ := hfit.app
    obtain ⟨p, q, h1, h2, _⟩ := h
    obtain ⟨x, x1, x2⟩ := argT (φ := φ) (σ := σ) hA (hs t (by simp)) (hok 0 t v rfl rfl) h1 hfit1
    obtain ⟨xs, y1, y2, y3⟩ := argsT (φ := φ) (σ := σ) hA (fun t' ht => hs t' (by simp [ht])) (fun j t' v' h1 h2 => hok (j + 1) t' v' (by simpa using h1) (by simpa using h2)) h2 hfit2
    refine ⟨x :: xs, ⟨x1, y1⟩, by simp [y2], fun i y u hi hu => ?_⟩
    match i with
    | 0 => cases hi; cases hu; exact x2
    | i + 1 => exact y3 i y u (by simpa using hi) (by simpa using hu)
  | [], [], _ :: _, _, _, _, h, _ => h.elim
  | [], _ :: _, _, _, _, _, h, _ => by cases h
  | _ :: _, [], _, _, _, _, h, _ => by cases h
  | _ :: _, _ :: _, [], _, _, _, h, _ => h.elim
theorem good_all (W : World) : Good ⟨W, fun _ => False, fun _ => none, []⟩ :=
  ⟨⟨fun i b h => by simp at h, fun i j bi bj p q h => by simp at h⟩, fun b h => h.elim, fun i blk b base h => by simp at h⟩
theorem al_all (φ : Phi) (b : Nat) : Al (fun _ => False) φ [] b := ⟨id, fun i blk base h => by simp at h⟩
/-- A call of a law: it answers true, and leaves all as' it was. -/
theorem law_calls {f : FuncId} {ts : List T} {vs : List Value} (hf : FnOk P f ts [] fun r _ => r = .c (bool true)) (hl : ts.length = vs.length)
    (hr : ∀ (i : Nat) (x : T) (u : Value), ts[i]? = some x → vs[i]? = some u → RelT w (fun _ => none) [] (Al (fun _ => False) (fun _ => none) []) x u) :
    Calls P f vs.toArray w fun e W' => e = .returned (.bool true) ∧ Below w.heap.size w W' :=
  (hf.run ⟨w, fun _ => False, fun _ => none, []⟩ vs rfl (good_all w) hl hr).mono fun e W' ⟨v, r, σ', φ', he, hq, hv, hs⟩ => by
    subst hq
    cases hv with | c hv => cases hv with | imm hv => cases hv with | val hv =>
      exact ⟨he, hs.os, hs.tape, hs.output, hs.size, fun k hk => hs.block k ⟨hk, fun i blk base h => by simp at h⟩⟩
theorem stays_all (hl : laidOutB P = true) {W W' : World} (hb : Below W.heap.size W W') {sp' : Nat → Bool} : ∀ {ts : List TypeId} {vs : List Value} {ds : List (DataW H)} {ps : List MemPlace}, (∀ t ∈ ts, P.readableRec t = true ∧ t < P.types.size) →
    DataW.TrodAll enc P W 0 (fun _ => true) true ts vs ds ps → (∀ p ∈ ps, p.block < W.heap.size) → (∀ p ∈ ps, sp' p.block = true) → DataW.TrodAll enc P W' 0 sp' true ts vs ds ps
  | [], [], [], _, _, h, _, _ => h
  | t :: ts, v :: vs, d :: ds, ps, ht, h, h1, h2 => by
    obtain ⟨p, q, g1, g2, rfl⟩ := h
    exact ⟨p, q, WideElems.Trod_stays hl (ht t (by simp)).1 (ht t (by simp)).2 g1 (fun x hx => hb.same (h1 x (by simp [hx]))) (fun x hx => h2 x (by simp [hx])),
      stays_all hl hb (fun t' ht' => ht t' (by simp [ht'])) g2 (fun x hx => h1 x (by simp [hx])) (fun x hx => h2 x (by simp [hx])), rfl⟩
  | [], [], _ :: _, _, _, h, _, _ => h.elim
  | [], _ :: _, _, _, _, h, _, _ => by cases h
  | _ :: _, [], _, _, _, h, _, _ => by cases h
  | _ :: _, _ :: _, [], _, _, h, _, _ => h.elim
theorem trodAll_len : ∀ {ts : List TypeId} {vs : List Value} {ds : List (DataW H)} {ps : List MemPlace}, DataW.TrodAll enc P w base spare held ts vs ds ps → ds.length = ts.length
  | [], [], [], _, _ => rfl
  | _ :: _, _ :: _, _ :: _, _, ⟨_, _, _, h, _⟩ => by simp [trodAll_len h]
  | [], [], _ :: _, _, h => h.elim
  | [], _ :: _, _, _, h => by cases h
  | _ :: _, [], _, _, h => by cases h
  | _ :: _, _ :: _, [], _, h => h.elim
/-- THE CONTRACT of a row whose law answers true at whatever comes in, and whose arguments read behind the call as' before. -/
theorem law_contract {f : FuncId} {fn : Func} {s : ChangeSpec} {tb : TypeId} {apart fresh handsOn again : Bool} (hlo : laidOutB P = true) (hp : ∀ t ∈ fn.params.toList, (P.readableRec t = true ∧ t < P.types.size) ∧ (shapes P 9 t).isSome = true) (hv : s.vars = []) (hr : fn.resultTypes = #[tb]) (hb : P.underlying tb = some .bool)
    (hs : ∀ ds : List (DataW H), ds.length = fn.params.toList.length → s.fn H (ds ++ []) = { results := [.lit (.bool true)], args := ds })
    (hlaw : ∀ xs : List T, ArgsT P fn.params.toList xs → FnOk P f xs [] fun r _ => r = .c (bool true))
    {W : World} {base : Nat} {args : Array Value} {ds gs : List (DataW H)} {before : List MemPlace} (hz : (DataW.weightsEach P (fn.params.toList ++ s.plain.varTypes P) (ds ++ gs)).all (· ≤ reachBytes) = true) (hval : ∀ (j : Nat) t v, fn.params[j]? = some t → args[j]? = some v → Value.okWide P W .any base t v) (hW : DataW.Whole enc P fn.params.toList s.vars apart W args.toList ds gs before) :
    Calls P f args W fun e W' => ∃ v, e = .returned v ∧ s.post enc P fn apart fresh handsOn again W args v W' := by
  obtain ⟨p, q, hA, hV, rfl, hfz, hnd⟩ := id hW
  rw [hv] at hV
  obtain ⟨rfl, rfl⟩ := trodVars_none hV
  have hfit : Fits (DataW.weightsEach P fn.params.toList ds) := by
    have e : s.plain.varTypes P = [] := by simp [DataSpec.varTypes, ChangeSpec.plain, hv]
    rw [e, List.append_nil, List.append_nil] at hz
    exact hz
  obtain ⟨xs, x1, x2, x3⟩ := argsT (φ := fun _ => none) (σ := []) (al_all fun _ => none) (fun t ht => (hp t ht).2) (fun j t v h1 h2 => hval j t v (by simpa using h1) (by simpa using h2)) hA hfit
  refine (law_calls (hlaw xs x1) x2 x3).mono fun e W' ⟨he, hbe⟩ => ⟨_, he, ?_⟩
  have hlt : ∀ x ∈ p ++ [], x.block < W.heap.size := fun x hx => hW.lt x hx
  have hS := hs ds (trodAll_len hA)
  have hres : ∀ (b : Nat) (sp : Nat → Bool) (hd : Bool), DataW.TrodAll enc P W' b sp hd fn.resultTypes.toList ((Value.bool true).resultList fn.resultTypes.size) (s.fn H (ds ++ [])).results [] := fun b sp hd => by
    rw [hS, hr]
    exact trodAll_mk1 (shut_bool hb true)
  have hargs : ∀ sp : Nat → Bool, (∀ x ∈ p ++ [], sp x.block = true) → DataW.TrodAll enc P W' 0 sp true fn.params.toList args.toList (s.fn H (ds ++ [])).args p := fun sp hsp => by
    rw [hS]
    exact stays_all hlo hbe (fun t ht => (hp t ht).1) hA (fun x hx => hlt x (by simp [hx])) (fun x hx => hsp x (by simp [hx]))
  have hvars : ∀ sp : Nat → Bool, DataW.TrodVars enc P W' sp s.vars (s.fn H (ds ++ [])).vars [] := fun sp => by
    rw [hS, hv]; rfl
  have hold : ∀ x ∈ p ++ [], (fun b => decide (b < W.heap.size)) x.block = true := fun x hx => by simpa using hlt x hx
  refine ⟨ds, [], p ++ [], [], p, [], hW, hres _ _ _, hargs _ hold, hvars _, World.keptBut_mono (fun x hx => ⟨hx, ?_⟩) (hbe.frame (· ∈ p ++ [])), fun _ => ?_⟩
  · simpa using hx
  · refine ⟨ok_one hr rfl (okWide_bool_mk hb true), _, _, ([] ++ p) ++ [], ⟨[] ++ p, [], trodAll_append (hargs _ (fun _ _ => rfl)) (hres _ _ _), hvars _, rfl, ?_, ?_⟩, ?_⟩
    · intro b off hx
      have hin : MemPlace.cell b off ∈ p ++ [] := by simpa using hx
      rw [hbe.frozen (hlt _ hin)]
      exact hfz b off hin
    · intro ha
      simpa using hnd ha
    · intro x hx _
      simpa using hx
end
end Ab
end
section
namespace Ab
open Go
section
variable {P : Program} {σ0 : Store} {sz : Nat} {Q : Post} {env : Env} {σv : Store} {ops : Array Oper} {rest : List Oper} {dst : Option Nat} {ty : TypeId} {pos : String} {after : Array Edge}
theorem AOps.shr {t t' : TypeId} {x y : Operand} {k k' : IntKind} {a b c : Int} (hx : ev env x = some (.c (.imm (.val (.int k a))))) (hy : ev env y = some (.c (.imm (.val (.int k' b))))) (hd : dstOk sz dst = true) (hb : ¬ b < 0) (hr : a.fdiv (2 ^ (min b.toNat k.bits)) = c)
    (h : AOps P σ0 sz ops Q rest (St.mk (putE env dst (.c (.imm (.val (.int k c))))) σv)) : AOps P σ0 sz ops Q (⟨dst, .binOp .shr t x y t', ty, pos, after, none⟩ :: rest) (St.mk env σv) :=
  .bin hx hy hd rfl (fun w => by simp [go_sem]) (fun w => by subst hr; simp [binOp, Op.shift, hb]) h
end
end Ab
end
section
namespace Ab
open Go
/-! ## Words -/
def w64 (n : Int) : Int := IntKind.i64.wrap n
theorem w64_eq {n : Int} (h : -9223372036854775808 ≤ n ∧ n ≤ 9223372036854775807) : w64 n = n := wrap_i64 h
/-- The element at a place. -/
def ix {α : Type} (l : List α) (i : Int) : Option α := if 0 ≤ i then l[i.toNat]? else none
/-- Appended; b: the bytes of an element. -/
def app {α : Type} (b : Nat) (l new : List α) : Option (List α) := if (l.length + new.length) * b ≤ 140737488355328 then some (l ++ new) else none
/-- Made; b: the bytes of an element. -/
def mkL {α : Type} (b : Nat) (n : Int) (z : α) : Option (List α) := if 0 ≤ n ∧ n ≤ 9223372036854775807 ∧ (b : Int) * n ≤ 281474976710656 then some (List.replicate n.toNat z) else none
theorem bind_some {α β : Type} {m : Option α} {K : α → Option β} {r : β} (h : m.bind K = some r) : ∃ x, m = some x ∧ K x = some r := by
  cases m with
  | none => cases h
  | some x => exact ⟨x, rfl, h⟩
def LoopN {S O : Type} (body : S → Option (S ⊕ O)) : Nat → S → Option O
  | 0, _ => none
  | n + 1, s => match body s with
    | none => none
    | some (.inl s') => LoopN body n s'
    | some (.inr o) => some o
theorem LoopN_mono {S O : Type} {body : S → Option (S ⊕ O)} {o : O} : ∀ {n m : Nat} {s : S}, n ≤ m → LoopN body n s = some o → LoopN body m s = some o
  | 0, m, s, _, h => by cases h
  | n + 1, 0, s, hl, h => by omega
  | n + 1, m + 1, s, hl, h => by
    simp only [LoopN] at h ⊢
    cases hb : body s with
    | none => rw [hb] at h; cases h
    | some x =>
      rw [hb] at h
      cases x with
      | inl s' => exact LoopN_mono (by omega) h
      | inr o' => exact h
theorem LoopN_det {S O : Type} {body : S → Option (S ⊕ O)} {o o' : O} {n m : Nat} {s : S} (h : LoopN body n s = some o) (h' : LoopN body m s = some o') : o = o' := by
  rcases Nat.le_total n m with hl | hl
  · rw [LoopN_mono hl h] at h'; exact Option.some.inj h'
  · rw [LoopN_mono hl h'] at h; exact (Option.some.inj h).symm
/-- A loop: rounds till one ends it. -/
noncomputable def Loop {S O : Type} (body : S → Option (S ⊕ O)) (s : S) : Option O := open Classical in
  if h : ∃ o n, LoopN body n s = some o then some h.choose else none
theorem Loop_iff {S O : Type} {body : S → Option (S ⊕ O)} {s : S} {o : O} : Loop body s = some o ↔ ∃ n, LoopN body n s = some o := by
  unfold Loop
  constructor
  · intro h
    split at h
    · rename_i hx
      cases h
      exact hx.choose_spec
    · cases h
  · rintro ⟨n, hn⟩
    have hx : ∃ o n, LoopN body n s = some o := ⟨o, n, hn⟩
    rw [dif_pos hx]
    obtain ⟨m, hm⟩ := hx.choose_spec
    rw [LoopN_det hm hn]
/-- One round. -/
theorem Loop_eq {S O : Type} (body : S → Option (S ⊕ O)) (s : S) : Loop body s = match body s with
    | none => none
    | some (.inl s') => Loop body s'
    | some (.inr o) => some o := by
  apply Option.ext
  intro o
  rw [Loop_iff]
  constructor
  · rintro ⟨n, hn⟩
    cases n with
    | zero => cases hn
    | succ n =>
      simp only [LoopN] at hn
      cases hb : body s with
      | none => rw [hb] at hn; cases hn
      | some x =>
        rw [hb] at hn
        cases x with
        | inl s' => exact Loop_iff.2 ⟨n, hn⟩
        | inr o' => exact hn
  · intro h
    cases hb : body s with
    | none => rw [hb] at h; cases h
    | some x =>
      rw [hb] at h
      cases x with
      | inl s' =>
        obtain ⟨n, hn⟩ := Loop_iff.1 h
        exact ⟨n + 1, by simp only [LoopN, hb]; exact hn⟩
      | inr o' => exact ⟨1, by simp only [LoopN, hb]; exact h⟩
/-- A loop over numbers, with ways out. -/
def rngN {S O : Type} (body : Int → S → Option (S ⊕ O)) : Nat → Int → S → Option (S ⊕ O)
  | 0, _, s => some (.inl s)
  | n + 1, i, s => match body i s with
    | none => none
    | some (.inl s') => rngN body n (i + 1) s'
    | some (.inr o) => some (.inr o)
def rngX {S O : Type} (lo n : Int) (body : Int → S → Option (S ⊕ O)) (s : S) : Option (S ⊕ O) := rngN body (n - lo).toNat lo s
/-- A loop over numbers. -/
def forN {S : Type} (body : Int → S → Option S) : Nat → Int → S → Option S
  | 0, _, s => some s
  | n + 1, i, s => match body i s with
    | none => none
    | some s' => forN body n (i + 1) s'
def forR {S : Type} (lo n : Int) (body : Int → S → Option S) (s : S) : Option S := forN body (n - lo).toNat lo s
/-! ## Rules for code -/
section
variable {P : Program} {σ0 : Store} {sz : Nat} {Q : Post} {env : Env} {σv : Store} {ops : Array Oper} {rest : List Oper} {dst : Option Nat} {ty : TypeId} {pos : String} {after : Array Edge}
theorem AWP.ite {ρ : Type} {x : Operand} {c d : Code} {p : Prop} [Decidable p] {A B : Option ρ} {r : ρ} (hx : ev env x = some (.c (bool (decide p)))) (h : (if p then A else B) = some r)
    (ht : p → A = some r → AWP P σ0 sz c Q (St.mk env σv)) (hf : ¬ p → B = some r → AWP P σ0 sz d Q (St.mk env σv)) : AWP P σ0 sz (.cond x c d) Q (St.mk env σv) :=
  .condD hx (fun hp => ht hp (by rwa [if_pos hp] at h)) (fun hp => hf hp (by rwa [if_neg hp] at h))
theorem AWP.iteN {ρ : Type} {x : Operand} {c d : Code} {p : Prop} [Decidable p] {A B : Option ρ} {r : ρ} (hx : ev env x = some (.c (bool (!decide p)))) (h : (if p then A else B) = some r)
    (ht : ¬ p → B = some r → AWP P σ0 sz c Q (St.mk env σv)) (hf : p → A = some r → AWP P σ0 sz d Q (St.mk env σv)) : AWP P σ0 sz (.cond x c d) Q (St.mk env σv) :=
  .condN hx (fun hp => ht hp (by rwa [if_neg hp] at h)) (fun hp => hf hp (by rwa [if_pos hp] at h))
theorem AWP.iteB {ρ : Type} {x : Operand} {c d : Code} {b : Bool} {A B : Option ρ} {r : ρ} (hx : ev env x = some (.c (bool b))) (h : (if b = true then A else B) = some r)
    (ht : b = true → A = some r → AWP P σ0 sz c Q (St.mk env σv)) (hf : b = false → B = some r → AWP P σ0 sz d Q (St.mk env σv)) : AWP P σ0 sz (.cond x c d) Q (St.mk env σv) :=
  .cond hx (fun hp => ht hp (by rwa [if_pos hp] at h)) (fun hp => hf hp (by rwa [if_neg (by simp [hp])] at h))
/-- A state that says less may be handed on. -/
theorem AWP.weak {c : Code} {s : St} (h : AWP P σ0 sz c (fun e st => ∃ J, Sub σ0 st J ∧ Q e J) s) : AWP P σ0 sz c Q s := fun Γ φ a w hΓ hR =>
  wp_mono (h Γ φ a w hΓ hR) fun e a' w' ⟨s', φ', ⟨J, hs, hq⟩, hR'⟩ => by
    obtain ⟨φ'', hR''⟩ := hs Γ sz φ' a' w' hΓ hR'
    exact ⟨J, φ'', hq, hR''⟩
theorem AWP.condP {x : Operand} {c d : Code} {p : Prop} [Decidable p] (hx : ev env x = some (.c (bool (decide p)))) (hp : p) (h : AWP P σ0 sz c Q (St.mk env σv)) : AWP P σ0 sz (.cond x c d) Q (St.mk env σv) := .condD hx (fun _ => h) (fun hn => absurd hp hn)
theorem AWP.condNP {x : Operand} {c d : Code} {p : Prop} [Decidable p] (hx : ev env x = some (.c (bool (decide p)))) (hp : ¬ p) (h : AWP P σ0 sz d Q (St.mk env σv)) : AWP P σ0 sz (.cond x c d) Q (St.mk env σv) := .condD hx (fun hn => absurd hn hp) (fun _ => h)
/-- The last blocks are forgotten. -/
def EntOk (n : Nat) : Ent → Prop
  | .dead => True
  | .one b => b.ok n = true
  | .node m s => ∀ (p : List Nat) (b : Blk), (Ent.node m s).sub p = some b → b.ok n = true
def StOk (n : Nat) : Store → Prop
  | [] => True
  | e :: r => EntOk n e ∧ StOk n r
theorem EntOk.get {n : Nat} {e : Ent} (h : EntOk n e) {p : List Nat} {b : Blk} (hb : e.sub p = some b) : b.ok n = true := by
  cases e with
  | dead => cases p <;> cases hb
  | one c => cases p with
    | nil => cases hb; exact h
    | cons => cases hb
  | node m s => exact h p b hb
theorem StOk.get {n : Nat} : ∀ {σ : Store}, StOk n σ → ∀ (i : Id) (b : Blk), σ[i]? = some (some b) → b.ok n = true
  | [], _, i, b, h => by simp at h
  | e :: r, h, (0, p), b, hb => by
    rw [Store.at_eq] at hb
    simp only [Store.at, List.getElem?_cons_zero, Option.some.injEq] at hb
    exact h.1.get hb
  | e :: r, h, (i + 1, p), b, hb => StOk.get (σ := r) h.2 (i, p) b (by
    rw [Store.at_eq] at hb ⊢
    simpa [Store.at] using hb)
/-- Ways that part come together. -/
theorem AWP.seqJ {c d : Code} (J : St) (hc : AWP P σ0 sz c (thn (fun s => Sub σ0 s J) Q) (St.mk env σv)) (hd : AWP P σ0 sz d Q J) : AWP P σ0 sz (.seq c d) Q (St.mk env σv) :=
  .seq (hc.mono fun e s h => by
    cases e with
    | normal => exact AWP.sub h hd
    | _ => exact h)
theorem AWP.seqF {X ρ : Type} {c d : Code} (j : X → Option ρ) (r : ρ) (J : X → St) (hd : ∀ x, j x = some r → AWP P σ0 sz d Q (J x)) (hc : AWP P σ0 sz c (thn (fun s => ∃ x, j x = some r ∧ Sub σ0 s (J x)) Q) (St.mk env σv)) : AWP P σ0 sz (.seq c d) Q (St.mk env σv) :=
  .seq (hc.mono fun e s h => by
    cases e with
    | normal => obtain ⟨x, h1, h2⟩ := h; exact AWP.sub h2 (hd x h1)
    | _ => exact h)
/-- A loop. -/
theorem AWP.loopS {S O : Type} {c : Code} {body : S → Option (S ⊕ O)} {s0 : S} {o : O} (h : Loop body s0 = some o) (F : S → St) (Qo : O → Post) (hs : Sub σ0 (St.mk env σv) (F s0))
    (hround : ∀ s o', body s = some o' → AWP P σ0 sz c (thn (fun st => ∃ s', o' = .inl s' ∧ Sub σ0 st (F s')) (fun e st => ∃ o, o' = .inr o ∧ Qo o e st)) (F s))
    (hpost : ∀ e s, Qo o e s → ∃ J, Sub σ0 s J ∧ Q e J) : AWP P σ0 sz (.loop c) Q (St.mk env σv) := by
  obtain ⟨n, hn⟩ := Loop_iff.1 h
  refine AWP.weak ?_
  refine AWP.loop (X := S × Nat) (fun x => F x.1) (fun x => LoopN body x.2 x.1 = some o) (fun x => x.2) (s0, n) hs hn ?_
  rintro ⟨s, n⟩ hi
  dsimp only at hi ⊢
  cases n with
  | zero => cases hi
  | succ n =>
    simp only [LoopN] at hi
    cases hb : body s with
    | none => rw [hb] at hi; cases hi
    | some x =>
      rw [hb] at hi
      refine (hround s x hb).mono fun e st hq => ?_
      cases x with
      | inl s' =>
        cases e with
        | normal =>
          obtain ⟨s'', e1, hsub⟩ := hq
          cases e1
          exact ⟨(s', n), hsub, hi, Nat.lt_succ_self n⟩
        | _ => obtain ⟨o', e1, _⟩ := hq; cases e1
      | inr o' =>
        cases hi
        cases e with
        | normal => obtain ⟨s'', e1, _⟩ := hq; cases e1
        | _ => obtain ⟨o', e1, hq⟩ := hq; cases e1; exact hpost _ _ hq
theorem AWP.rngS {S O : Type} {c : Code} {body : Int → S → Option (S ⊕ O)} {lo n : Int} {s0 : S} {o : S ⊕ O} (h : rngX lo n body s0 = some o) (F : Int → S → St) (Qo : S ⊕ O → Post) (hs : Sub σ0 (St.mk env σv) (F lo s0))
    (hend : ∀ i s, lo ≤ i → ¬ i < n → o = .inl s → AWP P σ0 sz c (thn (fun _ => False) (Qo (.inl s))) (F i s))
    (hround : ∀ i s o', lo ≤ i → i < n → body i s = some o' → AWP P σ0 sz c (thn (fun st => ∃ s', o' = .inl s' ∧ Sub σ0 st (F (i + 1) s')) (fun e st => ∃ o, o' = .inr o ∧ Qo (.inr o) e st)) (F i s))
    (hpost : ∀ e s, Qo o e s → ∃ J, Sub σ0 s J ∧ Q e J) : AWP P σ0 sz (.loop c) Q (St.mk env σv) := by
  refine AWP.weak ?_
  refine AWP.loop (X := S × Int) (fun x => F x.2 x.1) (fun x => lo ≤ x.2 ∧ rngN body (n - x.2).toNat x.2 x.1 = some o) (fun x => (n - x.2).toNat) (s0, lo) hs ⟨Int.le_refl _, h⟩ ?_
  rintro ⟨s, i⟩ ⟨hlo, hi⟩
  dsimp only at hi hlo ⊢
  by_cases hlt : i < n
  · obtain ⟨k, hk⟩ : ∃ k, (n - i).toNat = k + 1 := ⟨(n - i).toNat - 1, by omega⟩
    have hk' : (n - (i + 1)).toNat = k := by omega
    rw [hk] at hi
    simp only [rngN] at hi
    cases hb : body i s with
    | none => rw [hb] at hi; cases hi
    | some x =>
      rw [hb] at hi
      refine (hround i s x hlo hlt hb).mono fun e st hq => ?_
      cases x with
      | inl s' =>
        cases e with
        | normal =>
          obtain ⟨s'', e1, hsub⟩ := hq
          cases e1
          refine ⟨(s', i + 1), hsub, ⟨by dsimp only; omega, ?_⟩, by dsimp only; omega⟩
          dsimp only
          rw [hk']; exact hi
        | _ => obtain ⟨o', e1, _⟩ := hq; cases e1
      | inr o' =>
        cases hi
        cases e with
        | normal => obtain ⟨s'', e1, _⟩ := hq; cases e1
        | _ => obtain ⟨o', e1, hq⟩ := hq; cases e1; exact hpost _ _ hq
  · have : (n - i).toNat = 0 := by omega
    rw [this] at hi
    simp only [rngN] at hi
    cases hi
    refine (hend i s hlo hlt rfl).mono fun e st hq => ?_
    cases e with
    | normal => exact hq.elim
    | _ => exact hpost _ _ hq
theorem forN_rng {S : Type} {body : Int → S → Option S} {s' : S} : ∀ {n : Nat} {i : Int} {s : S}, forN body n i s = some s' → rngN (O := Empty) (fun i s => (body i s).map .inl) n i s = some (.inl s')
  | 0, i, s, h => by cases h; rfl
  | n + 1, i, s, h => by
    simp only [forN] at h
    simp only [rngN]
    cases hb : body i s with
    | none => rw [hb] at h; cases h
    | some x =>
      rw [hb] at h
      exact forN_rng h
theorem AWP.forS {S : Type} {c : Code} {body : Int → S → Option S} {lo n : Int} {s0 o : S} (h : forR lo n body s0 = some o) (F : Int → S → St) (Qo : S → Post) (hs : Sub σ0 (St.mk env σv) (F lo s0))
    (hend : ∀ i s, lo ≤ i → ¬ i < n → o = s → AWP P σ0 sz c (thn (fun _ => False) (Qo s)) (F i s))
    (hround : ∀ i s o', lo ≤ i → i < n → body i s = some o' → AWP P σ0 sz c (thn (fun st => Sub σ0 st (F (i + 1) o')) (fun _ _ => False)) (F i s))
    (hpost : ∀ e s, Qo o e s → ∃ J, Sub σ0 s J ∧ Q e J) : AWP P σ0 sz (.loop c) Q (St.mk env σv) := by
  refine AWP.rngS (O := Empty) (forN_rng h) F (fun | .inl s => Qo s | .inr e => e.elim) hs (fun i s h1 h2 h3 => hend i s h1 h2 (by cases h3; rfl)) (fun i s o' h1 h2 h3 => ?_) hpost
  cases hb : body i s with
  | none => rw [hb] at h3; cases h3
  | some x =>
    rw [hb] at h3
    cases h3
    refine (hround i s x h1 h2 hb).mono fun e st hq => ?_
    cases e with
    | normal => exact ⟨x, rfl, hq⟩
    | _ => exact hq.elim
/-! ## Rules for operations -/
/-- A row of data. -/
abbrev row {α : Type} (k : Nat) (f : α → List I) (l : List α) : C := .imm (.sl k (l.map f))
/-- A block of data. -/
abbrev vec {α : Type} (k : Nat) (f : α → List I) (l : List α) : Blk := Blk.im k (l.map f)
theorem ix_get {α : Type} {l : List α} {i : Int} {x : α} (h : ix l i = some x) : 0 ≤ i ∧ l[i.toNat]? = some x := by
  unfold ix at h
  split at h
  · exact ⟨‹_›, h⟩
  · cases h
theorem S.idx {α : Type} {f : α → List I} {l : List α} {x y : Operand} {t e : TypeId} {k bytes : Nat} {z : Value} {kk : IntKind} {i : Int} {a : α} {el : List I} [ht : TyD P t (.slice e)] [hs : TyS P e k bytes z]
    (he : ix l i = some a) (hx : ev env x = some (.c (row k f l))) (hy : ev env y = some (.c (.imm (.val (.int kk i))))) (hf : f a = el) (hd : dstOk sz dst = true)
    (h : AOps P σ0 sz ops Q rest (St.mk (putE env dst (.c (.imm (.ipt el)))) σv)) : AOps P σ0 sz ops Q (⟨dst, .indexAddr t x y, ty, pos, after, none⟩ :: rest) (St.mk env σv) :=
  .indexAddr hx hy (ix_get he).1 (by rw [List.getElem?_map, (ix_get he).2, ← hf]; rfl) hd h
theorem S.len {α : Type} {f : α → List I} {l : List α} {x : Operand} {t e : TypeId} {k : Nat} [ht : TyD P t (.slice e)]
    (hx : ev env x = some (.c (row k f l))) (hd : dstOk sz dst = true) (h : l.length ≤ 9223372036854775807 → AOps P σ0 sz ops Q rest (St.mk (putE env dst (.c (int l.length))) σv)) : AOps P σ0 sz ops Q (⟨dst, .call ⟨.builtin .len, #[x], #[t]⟩, ty, pos, after, none⟩ :: rest) (St.mk env σv) :=
  .lenB hx hd h
theorem S.add {t t' : TypeId} {x y : Operand} {a b : Int} (hx : ev env x = some (.c (int a))) (hy : ev env y = some (.c (int b))) (hd : dstOk sz dst = true) (h : AOps P σ0 sz ops Q rest (St.mk (putE env dst (.c (int (w64 (a + b))))) σv)) : AOps P σ0 sz ops Q (⟨dst, .binOp .add t x y t', ty, pos, after, none⟩ :: rest) (St.mk env σv) := .addW hx hy hd h
theorem S.sub {t t' : TypeId} {x y : Operand} {a b : Int} (hx : ev env x = some (.c (int a))) (hy : ev env y = some (.c (int b))) (hd : dstOk sz dst = true) (h : AOps P σ0 sz ops Q rest (St.mk (putE env dst (.c (int (w64 (a - b))))) σv)) : AOps P σ0 sz ops Q (⟨dst, .binOp .sub t x y t', ty, pos, after, none⟩ :: rest) (St.mk env σv) := .subW hx hy hd h
theorem S.mul {t t' : TypeId} {x y : Operand} {a b : Int} (hx : ev env x = some (.c (int a))) (hy : ev env y = some (.c (int b))) (hd : dstOk sz dst = true) (h : AOps P σ0 sz ops Q rest (St.mk (putE env dst (.c (int (w64 (a * b))))) σv)) : AOps P σ0 sz ops Q (⟨dst, .binOp .mul t x y t', ty, pos, after, none⟩ :: rest) (St.mk env σv) := .mulW hx hy hd h
end
theorem rv {P : Program} {t n b : Nat} {z : Value} {d : TypeDesc} (a : Nat) [h : TyD P t d] [k : TyS P t n b z] (ha : isAggD d = true) : RV.ok P (.cell a t n) := by
  obtain ⟨i, h1, h2, _⟩ := k.h
  exact ⟨d, i, h.h, ha, h1, h2⟩
theorem ite_none {p : Prop} [Decidable p] {α : Type} {m : Option α} {r : α} (h : (if p then m else none) = some r) : p ∧ m = some r := by
  by_cases hp : p
  · exact ⟨hp, by rwa [if_pos hp] at h⟩
  · rw [if_neg hp] at h; cases h
theorem iteDT {p : Prop} [Decidable p] {α : Type} {m k : Option α} {r : α} (hb : decide p = true) (h : (if p then m else k) = some r) : m = some r := by rwa [if_pos (of_decide_eq_true hb)] at h
theorem iteDF {p : Prop} [Decidable p] {α : Type} {m k : Option α} {r : α} (hb : decide p = false) (h : (if p then m else k) = some r) : k = some r := by rwa [if_neg (of_decide_eq_false hb)] at h
theorem iteBT {b : Bool} {α : Type} {m k : Option α} {r : α} (hb : b = true) (h : (if b = true then m else k) = some r) : m = some r := by rwa [if_pos hb] at h
theorem iteBF {b : Bool} {α : Type} {m k : Option α} {r : α} (hb : b = false) (h : (if b = true then m else k) = some r) : k = some r := by rwa [if_neg (by simp [hb])] at h
theorem and_t {a b : Bool} (h : a = true) : (a && b) = b := by rw [h]; rfl
theorem and_f {a b : Bool} (h : a = false) : (a && b) = false := by rw [h]; rfl
theorem or_t {a b : Bool} (h : a = true) : (a || b) = true := by rw [h]; rfl
theorem or_f {a b : Bool} (h : a = false) : (a || b) = b := by rw [h]; rfl
end Ab
end
section
namespace Ab
open Go
theorem ArgsT.len {P : Program} : ∀ {ts : List TypeId} {xs : List T}, ArgsT P ts xs → xs.length = ts.length
  | [], [], _ => rfl
  | _ :: _, _ :: _, h => by simp [ArgsT.len h.2]
  | [], _ :: _, h => h.elim
  | _ :: _, [], h => h.elim
theorem dec_int {L : List Sh} {is : List I} (h : DecL (.int :: L) is) : ∃ (n : Int) (r : List I), is = .val (.int .i64 n) :: r ∧ (-9223372036854775808 ≤ n ∧ n ≤ 9223372036854775807) ∧ DecL L r := by
  cases h with
  | int h1 h2 h => exact ⟨_, _, rfl, ⟨h1, h2⟩, h⟩
theorem dec_nil {is : List I} (h : DecL [] is) : is = [] := by cases h; rfl
theorem dec_list {α : Type} {L0 : List Sh} {f : α → List I} {p : α → Prop} (hf : ∀ e, DecL L0 e → ∃ a, e = f a ∧ p a) : ∀ {es : List (List I)}, (∀ e ∈ es, DecL L0 e) → ∃ l : List α, es = l.map f ∧ ∀ a ∈ l, p a
  | [], _ => ⟨[], rfl, fun a h => by simp at h⟩
  | e :: es, h => by
    obtain ⟨a, rfl, ha⟩ := hf e (h e (by simp))
    obtain ⟨l, rfl, hl⟩ := dec_list hf (es := es) fun e he => h e (by simp [he])
    exact ⟨a :: l, rfl, fun b hb => by rcases List.mem_cons.1 hb with rfl | hb; exact ha; exact hl b hb⟩
theorem dec_sl {α : Type} {L0 L : List Sh} {f : α → List I} {p : α → Prop} (hf : ∀ e, DecL L0 e → ∃ a, e = f a ∧ p a) {is : List I} {b : Nat} (h : DecL (.sl L0 b :: L) is) : ∃ (l : List α) (r : List I), is = .sl L0.length (l.map f) :: r ∧ (l.length * b ≤ 140737488355328 ∧ ∀ a ∈ l, p a) ∧ DecL L r := by
  cases h with
  | sl he hw h =>
    obtain ⟨l, rfl, hl⟩ := dec_list hf he
    exact ⟨l, _, rfl, ⟨by simpa using hw, hl⟩, h⟩
end Ab
end
section
namespace Ab
open Go Go.Proofs
theorem TyS.of {P : Program} {t size bytes : Nat} {z : Value} (h : (P.info? t).map (fun i => (i.size, i.bytes, i.zero)) = some (size, bytes, some z)) : TyS P t size bytes z := by
  obtain ⟨i, h1, h2⟩ := Option.map_eq_some_iff.1 h
  simp only [Prod.mk.injEq] at h2
  exact ⟨i, h1, h2.1, h2.2.1, h2.2.2⟩
instance : TyD Tryd.prog 2 (TypeDesc.int IntKind.i64) := ⟨Tryd.underlying2⟩
instance : TyD Tryd.prog 3 (TypeDesc.int IntKind.i64) := ⟨Tryd.underlying3⟩
instance : TyS Tryd.prog 3 1 8 (.int .i64 0) := .of (by kernel_rfl)
instance : TyZ Tryd.prog 3 [.imm (.val (.int .i64 0))] := .of rfl
instance : TyD Tryd.prog 5 (TypeDesc.int IntKind.u8) := ⟨Tryd.underlying5⟩
instance : TyS Tryd.prog 5 1 1 (.int .u8 0) := .of (by kernel_rfl)
instance : TyZ Tryd.prog 5 [.imm (.val (.int .u8 0))] := .of rfl
instance : TyD Tryd.prog 9 (TypeDesc.string) := ⟨Tryd.underlying9⟩
instance : TyD Tryd.prog 22 (TypeDesc.slice 3) := ⟨Tryd.underlying22⟩
instance : TyS Tryd.prog 22 1 24 (.slice none 0 0) := .of (by kernel_rfl)
instance : TyZ Tryd.prog 22 [.imm (.val (.slice none 0 0))] := .of rfl
instance : TyD Tryd.prog 23 (TypeDesc.slice 50) := ⟨Tryd.underlying23⟩
instance : TyS Tryd.prog 23 1 24 (.slice none 0 0) := .of (by kernel_rfl)
@[reducible, instance] def tyq25 := TyD.mk (P := Tryd.prog) (t := 25) Tryd.underlying25
instance : TyS Tryd.prog 25 4 80 (.agg #[.int .i64 0, .slice none 0 0, .slice none 0 0, .slice none 0 0]) := .of (by kernel_rfl)
instance : TyZ Tryd.prog 25 [.imm (.val (.int .i64 0)), .imm (.val (.slice none 0 0)), .imm (.val (.slice none 0 0)), .imm (.val (.slice none 0 0))] := .of rfl
instance : FieldC Tryd.prog 25 0 0 3 := .of rfl rfl rfl
instance : FieldC Tryd.prog 25 1 1 22 := .of rfl rfl rfl
instance : FieldC Tryd.prog 25 2 2 22 := .of rfl rfl rfl
instance : FieldC Tryd.prog 25 3 3 23 := .of rfl rfl rfl
instance : FlatC Tryd.prog 25 4 := .of rfl rfl
instance : TyD Tryd.prog 26 (TypeDesc.slice 22) := ⟨Tryd.underlying26⟩
instance : TyS Tryd.prog 26 1 24 (.slice none 0 0) := .of (by kernel_rfl)
@[reducible, instance] def tyq28 := TyD.mk (P := Tryd.prog) (t := 28) Tryd.underlying28
instance : TyS Tryd.prog 28 2 16 (.agg #[.int .i64 0, .int .i64 0]) := .of (by kernel_rfl)
instance : TyZ Tryd.prog 28 [.imm (.val (.int .i64 0)), .imm (.val (.int .i64 0))] := .of rfl
instance : FieldC Tryd.prog 28 0 0 3 := .of rfl rfl rfl
instance : FlatC Tryd.prog 28 2 := .of rfl rfl
instance : TyD Tryd.prog 41 (TypeDesc.slice 64) := ⟨Tryd.underlying41⟩
@[reducible, instance] def tyq50 := TyD.mk (P := Tryd.prog) (t := 50) Tryd.underlying50
instance : TyS Tryd.prog 50 4 80 (.agg #[.slice none 0 0, .slice none 0 0, .slice none 0 0, .int .i64 0]) := .of (by kernel_rfl)
instance : TyZ Tryd.prog 50 [.imm (.val (.slice none 0 0)), .imm (.val (.slice none 0 0)), .imm (.val (.slice none 0 0)), .imm (.val (.int .i64 0))] := .of rfl
instance : FieldC Tryd.prog 50 0 0 22 := .of rfl rfl rfl
instance : FieldC Tryd.prog 50 1 1 22 := .of rfl rfl rfl
instance : FieldC Tryd.prog 50 2 2 22 := .of rfl rfl rfl
instance : FieldC Tryd.prog 50 3 3 3 := .of rfl rfl rfl
instance : FlatC Tryd.prog 50 4 := .of rfl rfl
instance : TyD Tryd.prog 53 (TypeDesc.map 9 3) := ⟨Tryd.underlying53⟩
instance : TyS Tryd.prog 53 1 8 (.map none) := .of (by kernel_rfl)
@[reducible, instance] def tyq55 := TyD.mk (P := Tryd.prog) (t := 55) Tryd.underlying55
instance : TyS Tryd.prog 55 7 136 (.agg #[.int .i64 0, .slice none 0 0, .slice none 0 0, .slice none 0 0, .slice none 0 0, .slice none 0 0, .map none]) := .of (by kernel_rfl)
instance : TyZ Tryd.prog 55 [.imm (.val (.int .i64 0)), .imm (.val (.slice none 0 0)), .imm (.val (.slice none 0 0)), .imm (.val (.slice none 0 0)), .imm (.val (.slice none 0 0)), .imm (.val (.slice none 0 0)), .imm (.val (.map none))] := .of rfl
instance : FieldC Tryd.prog 55 0 0 25 := .of rfl rfl rfl
instance : FieldC Tryd.prog 55 1 4 26 := .of rfl rfl rfl
instance : FieldC Tryd.prog 55 2 5 22 := .of rfl rfl rfl
instance : FieldC Tryd.prog 55 3 6 53 := .of rfl rfl rfl
instance : TyD Tryd.prog 64 (TypeDesc.array 4 3) := ⟨Tryd.underlying64⟩
instance : TyS Tryd.prog 64 4 32 (.agg #[.int .i64 0, .int .i64 0, .int .i64 0, .int .i64 0]) := .of (by kernel_rfl)
instance : TyZ Tryd.prog 64 [.imm (.val (.int .i64 0)), .imm (.val (.int .i64 0)), .imm (.val (.int .i64 0)), .imm (.val (.int .i64 0))] := .of rfl
instance : TyD Tryd.prog 72 (TypeDesc.slice 5) := ⟨Tryd.underlying72⟩
instance : TyD Tryd.prog 79 (TypeDesc.int IntKind.u64) := ⟨Tryd.underlying79⟩
instance : TyD Tryd.prog 84 (TypeDesc.int IntKind.u64) := ⟨Tryd.underlying84⟩
instance : EqT Tryd.prog 28 := ⟨by kernel_rfl, by kernel_rfl⟩
theorem mixed : Tryd.prog.follows .mixedOrders = true := by kernel_rfl
end Ab
end
section
namespace Ab
open Go
/-! ## No mention of a block -/
mutual
def C.no (id : Id) : C → Bool
  | .imm _ => true
  | .own i _ _ => !idb i id
  | .ptr i _ _ => !idb i id
  | .fn _ caps => C.noL id caps
  | .ifc _ cs _ => C.noL id cs
  | .map i => !idb i id
def C.noL (id : Id) : List C → Bool
  | [] => true
  | c :: r => C.no id c && C.noL id r
end
mutual
def T.no (id : Id) : T → Bool
  | .c x => x.no id
  | .agg cs => C.noL id cs
  | .tup ts => T.noL id ts
  | .undef => true
def T.noL (id : Id) : List T → Bool
  | [] => true
  | t :: r => T.no id t && T.noL id r
end
def Blk.no (id : Id) : Blk → Bool
  | .cells _ es => es.all (C.noL id)
  | .obj _ => true
def envNo (id : Id) : Env → Bool
  | [] => true
  | (_, v) :: r => v.no id && envNo id r
theorem noL_eq (id : Id) : ∀ l : List C, C.noL id l = l.all (C.no id)
  | [] => rfl
  | c :: r => by rw [C.noL, noL_eq id r]; rfl
theorem envNo_get {id : Id} : ∀ {env : Env}, envNo id env = true → ∀ t v, lookup t env = some v → v.no id = true
  | [], _, t, v, h => by simp [lookup] at h
  | (k, x) :: r, h, t, v, hv => by
    simp only [envNo, Bool.and_eq_true] at h
    simp only [lookup] at hv
    split at hv
    · cases hv; exact h.1
    · exact envNo_get h.2 t v hv
/-- Block id has been named n anew. -/
def mv (id n : Id) : Id → Id := fun i => if idb i id then n else i
mutual
theorem C.ren_no {id n : Id} : ∀ c : C, c.no id = true → c.ren (mv id n) = c
  | .imm _, _ => rfl
  | .own i _ _, h => by
    have : idb i id = false := by simpa [C.no] using h
    simp [C.ren, mv, this]
  | .ptr i _ _, h => by
    have : idb i id = false := by simpa [C.no] using h
    simp [C.ren, mv, this]
  | .fn _ caps, h => by simp only [C.ren, C.renL_no caps h]
  | .ifc _ cs _, h => by simp only [C.ren, C.renL_no cs h]
  | .map i, h => by
    have : idb i id = false := by simpa [C.no] using h
    simp [C.ren, mv, this]
theorem C.renL_no {id n : Id} : ∀ l : List C, C.noL id l = true → C.renL (mv id n) l = l
  | [], _ => rfl
  | c :: r, h => by
    simp only [C.noL, Bool.and_eq_true] at h
    simp only [C.renL, C.ren_no c h.1, C.renL_no r h.2]
end
mutual
theorem T.ren_no {id n : Id} : ∀ t : T, t.no id = true → t.ren (mv id n) = t
  | .c x, h => by simp only [T.ren, C.ren_no x h]
  | .agg cs, h => by simp only [T.ren, C.renL_no cs h]
  | .tup ts, h => by simp only [T.ren, T.renL_no ts h]
  | .undef, _ => rfl
theorem T.renL_no {id n : Id} : ∀ l : List T, T.noL id l = true → T.renL (mv id n) l = l
  | [], _ => rfl
  | x :: r, h => by
    simp only [T.noL, Bool.and_eq_true] at h
    simp only [T.renL, T.ren_no x h.1, T.renL_no r h.2]
end
theorem Blk.ren_no {id n : Id} (b : Blk) (h : b.no id = true) : b.ren (mv id n) = b := by
  cases b with
  | cells k es =>
    simp only [Blk.no, List.all_eq_true] at h
    simp only [Blk.ren]
    congr 1
    conv => rhs; rw [← List.map_id es]
    exact List.map_congr_left fun l hl => C.renL_no l (h l hl)
  | obj p => rfl
theorem noL_imm (id : Id) (l : List I) : C.noL id (l.map .imm) = true := by rw [noL_eq]; simp [C.no]
theorem Blk.im_no (id : Id) (k : Nat) (es : List (List I)) : (Blk.im k es).no id = true := by
  simp only [Blk.im, Blk.no, List.all_map, List.all_eq_true]
  exact fun l _ => noL_imm id l
section
variable {P : Program} {σ0 : Store} {sz : Nat} {Q : Post} {env env' : Env} {σv σ' : Store} {ops : Array Oper} {rest : List Oper} {dst : Option Nat} {ty : TypeId} {pos : String} {after : Array Edge}
/-- What can be read as' a row of data. -/
inductive SrcF {α : Type} (σ : Store) (k : Nat) (f : α → List I) : T → List α → Prop
  | own {id : Id} {n : Nat} {l : List α} (h : σ[id]? = some (some (vec k f l))) (hn : n = l.length) : SrcF σ k f (.c (.own id 0 n)) l
  | row {l : List α} : SrcF σ k f (.c (row k f l)) l
  | nil : SrcF σ k f (.c (.imm (.val (.slice none 0 0)))) []
theorem SrcF.src {α : Type} {σ : Store} {k : Nat} {f : α → List I} {v : T} {l : List α} (h : SrcF σ k f v l) : Src σ k v ((l.map f).map (·.map .imm)) := by
  cases h with
  | @own id n l h hn =>
    subst hn
    have := Src.own (j := 0) (n := l.length) h
    have e : List.take l.length (List.drop 0 ((l.map f).map (·.map C.imm))) = (l.map f).map (·.map C.imm) := by
      rw [List.drop_zero, List.take_of_length_le (by simp)]
    rwa [e] at this
  | row => exact .imm
  | nil => exact .nil
theorem app_get {α : Type} {b : Nat} {l new r : List α} (h : app b l new = some r) : (l.length + new.length) * b ≤ 140737488355328 ∧ r = l ++ new := by
  unfold app at h
  split at h
  · cases h; exact ⟨‹_›, rfl⟩
  · cases h
theorem putF_get {σ r : Store} {i : Id} {b : Option Blk} (h : putF σ i b = some r) : r = σ.put i b := putF_eq h
/-- Appended to what is owned: the block takes a new number. -/
theorem S.append {α : Type} {f : α → List I} {l new l' : List α} {x y : Operand} {t e : TypeId} {k bytes m : Nat} {n : Id} {z : Value} {id : Id} {v : T} {σ1 : Store} [ht : TyD P t (.slice e)] [hs : TyS P e k bytes z]
    (ha : app bytes l new = some l') (hzk : (z.cells.size == k) = true) (hbp : Nat.blt 0 bytes = true)
    (hx : ev env x = some (.c (.own id 0 m))) (hm : m = l.length) (hσ : σv[id]? = some (some (vec k f l))) (hy : ev env y = some v) (hsrc : SrcF σv k f v new) (hn : newF σv = some n) (h1 : putF σv id none = some σ1) (hσ' : snocF σ1 (.one (vec k f l')) = some σ') (hd : dstOk sz dst = true)
    (h : AOps P σ0 sz ops Q rest (St.mk (putE env dst (.c (.own n 0 l'.length))) σ')) :
    AOps P σ0 sz ops Q (⟨dst, .call ⟨.builtin .append, #[x, y], #[t, t]⟩, ty, pos, after, none⟩ :: rest) (St.mk env σv) := by
  obtain ⟨hb, rfl⟩ := app_get ha
  have h2 := putF_get h1
  have h3 := newF_eq hn; have h4 := snocF_eq hσ'
  subst hm h2 h3 h4
  refine AOps.append (new := (new.map f).map (·.map .imm)) hzk hbp hx hσ hy hsrc.src (by simpa using hb) hd ?_
  have e1 : (((((l.map f).map (·.map C.imm)).drop 0).take l.length) ++ (new.map f).map (·.map C.imm)) = ((l ++ new).map f).map (·.map C.imm) := by
    rw [List.drop_zero, List.take_of_length_le (by simp)]; simp
  have e2 : l.length + ((new.map f).map (·.map C.imm)).length = (l ++ new).length := by simp
  rw [e1, e2]
  exact h
/-- Zero cells, as' data. -/
inductive ZI : List I → List C → Prop
  | nil : ZI [] []
  | val {v : Value} {l : List I} {cs : List C} (h : ZI l cs) : ZI (.val v :: l) (.imm (.val v) :: cs)
  | row {k : Nat} {l : List I} {cs : List C} (h : ZI l cs) : ZI (.sl k [] :: l) (.imm (.val (.slice none 0 0)) :: cs)
theorem ZI.get {w : World} {φ : Phi} {σ : Store} {A : Nat → Prop} {l : List I} {cs : List C} (h : ZI l cs) : ∀ (o : Nat) (x : I), l[o]? = some x → ∃ c, cs[o]? = some c ∧ ∀ u, RelC w φ σ A c u → RelI w A x u := by
  induction h with
  | nil => intro o x h; simp at h
  | @val v l cs _ ih =>
    intro o x hx
    cases o with
    | zero =>
      simp only [List.getElem?_cons_zero, Option.some.injEq] at hx
      subst hx
      exact ⟨_, rfl, fun u hu => by cases hu with | imm hu => exact hu⟩
    | succ o => simpa using ih o x (by simpa using hx)
  | @row k l cs _ ih =>
    intro o x hx
    cases o with
    | zero =>
      simp only [List.getElem?_cons_zero, Option.some.injEq] at hx
      subst hx
      exact ⟨_, rfl, fun u hu => by cases hu with | imm hu => cases hu; exact .slNil⟩
    | succ o => simpa using ih o x (by simpa using hx)
theorem ZI.len {l : List I} {cs : List C} (h : ZI l cs) : l.length = cs.length := by
  induction h with
  | nil => rfl
  | val _ ih => simp [ih]
  | row _ ih => simp [ih]
/-- The cells of a block say no more than before. -/
theorem Sub.blk {id : Id} {k : Nat} {es es' : List (List C)} (hσ : σv[id]? = some (some (.cells k es))) (hl : es'.length = es.length) (hk : ∀ (j : Nat) (e : List C), es'[j]? = some e → e.length = k)
    (hc : ∀ (j : Nat) (e : List C) (o : Nat) (x : C), es'[j]? = some e → e[o]? = some x → ∃ e0 x0, es[j]? = some e0 ∧ e0[o]? = some x0 ∧ ∀ w φ σ A u, RelC w φ σ A x0 u → RelC w φ σ A x u) :
    Sub σ0 ⟨env, σv⟩ ⟨env, σv.put id (some (.cells k es'))⟩ := fun Γ sz φ a w hΓ hR => by
  have hidl : id.1 < σv.length := Store.lt_of hσ
  have get : ∀ (i : Id) x, (σv.put id (some (.cells k es')))[i]? = some (some x) → (i = id ∧ x = .cells k es') ∨ (i ≠ id ∧ σv[i]? = some (some x)) := fun i x hi => by
    rcases Store.get_put hσ hi with ⟨h1, h2⟩ | h
    · cases h2; exact .inl ⟨h1, rfl⟩
    · exact .inr h
  have back : ∀ (i : Id) x, (σv.put id (some (.cells k es')))[i]? = some (some x) → ∃ y, σv[i]? = some (some y) := fun i x hi => by
    rcases get i x hi with ⟨rfl, _⟩ | ⟨_, h⟩
    · exact ⟨_, hσ⟩
    · exact ⟨x, h⟩
  have A1 : ∀ b, Al Γ.N φ σv b → Al Γ.N φ (σv.put id (some (.cells k es'))) b := fun b hb => ⟨hb.1, fun i blk base hi => by
    obtain ⟨y, hy⟩ := back i blk hi
    exact hb.2 i y base hy⟩
  have hK : Kept w w φ φ σv (σv.put id (some (.cells k es'))) (Al Γ.N φ σv) (Al Γ.N φ (σv.put id (some (.cells k es')))) :=
    { imm := fun _ _ _ => rfl, all := fun b hb _ => A1 b hb, len := by simp,
      cells := fun i kk es2 hi he => by
        rcases get i _ he with ⟨rfl, h⟩ | ⟨_, h⟩
        · cases h
          exact ⟨es, hσ, hl.symm, rfl, fun _ _ arr _ _ h2 => ⟨arr, h2, rfl⟩⟩
        · exact ⟨es2, h, rfl, rfl, fun _ _ arr _ _ h2 => ⟨arr, h2, rfl⟩⟩,
      obj := fun i p' hi he => by
        rcases get i _ he with ⟨_, h⟩ | ⟨_, h⟩
        · cases h
        · exact ⟨rfl, p', h⟩ }
  have hRs : Rs Γ (σv.put id (some (.cells k es'))) φ w :=
    { good := hR.good
      st := ⟨fun i b hi => by
          rcases get i b hi with ⟨rfl, rfl⟩ | ⟨_, h⟩
          · rcases hR.st.blk _ _ hσ with ⟨h1, h2⟩ | ⟨b, base, arr, ety, g1, g2, g3, g4, g5⟩
            · exact .inl ⟨h1, by subst h2; exact List.eq_nil_of_length_eq_zero (by simpa using hl)⟩
            · refine .inr ⟨b, base, arr, ety, g1, g2, by rw [hl]; exact g3, hk, fun j e o x he hx => ?_⟩
              obtain ⟨e0, x0, k1, k2, k3⟩ := hc j e o x he hx
              obtain ⟨u, hu, hr⟩ := g5 j e0 o x0 k1 k2
              exact ⟨u, hu, (k3 _ _ _ _ _ hr).mono hK⟩
          · exact (hR.st.blk i b h).mono hK fun _ _ _ => rfl,
        fun i j bi bj p q hi hj hp hq he => by
          obtain ⟨x, hx⟩ := back i bi hi
          obtain ⟨y, hy⟩ := back j bj hj
          exact hR.st.inj i j x y p q hx hy hp hq he⟩
      keep := fun i blk b base hi => by
        obtain ⟨x, hx⟩ := back i blk hi
        exact hR.keep i x b base hx
      os := hR.os
      tape := hR.tape
      output := hR.output
      size := hR.size
      block := hR.block
      kept := Kept.trans hR.size hR.kept hK }
  exact ⟨φ, hR.of hK hRs⟩
theorem mkL_get {α : Type} {b : Nat} {n : Int} {z : α} {r : List α} (h : mkL b n z = some r) : (0 ≤ n ∧ n ≤ 9223372036854775807 ∧ (b : Int) * n ≤ 281474976710656) ∧ r = List.replicate n.toNat z := by
  unfold mkL at h
  split at h
  · cases h; exact ⟨‹_›, rfl⟩
  · cases h
theorem S.make {α : Type} {f : α → List I} {a : α} {l : List α} {x y : Operand} {t e : TypeId} {id : Id} {k bytes : Nat} {z : Value} {n : Int} {cs : List C} [ht : TyD P t (.slice e)] [hz : TyZ P e cs] [hs : TyS P e k bytes z]
    (hm : mkL bytes n a = some l) (hf : ZI (f a) cs) (hk : idF cs = some k)
    (hx : ev env x = some (.c (int n))) (hy : ev env y = some (.c (int n))) (hid : newF σv = some id) (hσ : snocF σv (.one (vec k f l)) = some σ') (hd : dstOk sz dst = true)
    (h : AOps P σ0 sz ops Q rest (St.mk (putE env dst (.c (.own id 0 l.length))) σ')) : AOps P σ0 sz ops Q (⟨dst, .makeSlice t x y, ty, pos, after, none⟩ :: rest) (St.mk env σv) := by
  obtain ⟨⟨h1, h2, h3⟩, rfl⟩ := mkL_get hm
  have g1 := idF_eq hk; have g2 := newF_eq hid; have g3 := snocF_eq hσ
  subst g2 g3
  obtain ⟨size', bytes', z', v, hs', k1, k2⟩ := hz.h
  obtain ⟨i, e1, e2, e3, e4⟩ := hs.h
  obtain ⟨i', e1', e2', e3', e4'⟩ := hs'.h
  rw [e1] at e1'; cases e1'
  rw [e4] at e4'; cases e4'
  refine AOps.make (hs := hs) k1 k2 (by rw [g1]; simp) hx hy h1 h2 h3 hd ?_
  rw [List.length_replicate] at h
  have hset : Store.put (σv ++ [.one (Blk.cells k (List.replicate n.toNat cs))]) (σv.length, []) (some (.cells k (((List.replicate n.toNat a).map f).map (·.map .imm)))) = σv ++ [.one (vec k f (List.replicate n.toNat a))] := Store.put_last _ _ σv
  have hsub := Sub.blk (σ0 := σ0) (env := putE env dst (.c (.own (σv.length, []) 0 n.toNat))) (σv := σv ++ [.one (Blk.cells k (List.replicate n.toNat cs))]) (id := (σv.length, [])) (k := k) (es := List.replicate n.toNat cs) (es' := ((List.replicate n.toNat a).map f).map (·.map .imm)) (Store.get_last _ _) (by simp)
    (fun j e he => by
      simp only [List.map_replicate, List.getElem?_replicate] at he
      split at he <;> cases he
      rw [List.length_map, hf.len, g1]) (fun j e o x he hx => by
      simp only [List.map_replicate, List.getElem?_replicate] at he
      split at he <;> cases he
      rw [List.getElem?_map, Option.map_eq_some_iff] at hx
      obtain ⟨x0, hx0, rfl⟩ := hx
      cases hc : cs[o]? with
      | none =>
        have := (List.getElem?_eq_some_iff.1 hx0).1
        rw [hf.len] at this
        rw [List.getElem?_eq_none_iff] at hc
        omega
      | some c =>
        refine ⟨cs, c, by rw [List.getElem?_replicate, if_pos ‹_›], hc, fun w φ σ A u hu => ?_⟩
        obtain ⟨c', hc', hr⟩ := hf.get (w := w) (φ := φ) (σ := σ) (A := A) o x0 hx0
        rw [hc] at hc'; cases hc'
        exact .imm (hr u hu))
  rw [hset] at hsub
  exact AOps.sub hsub h
/-! ### Reading and writing -/
theorem ix_lt {α : Type} {l : List α} {i : Int} {a : α} (h : ix l i = some a) : i.toNat < l.length := (List.getElem?_eq_some_iff.1 (ix_get h).2).1
theorem S.idxO {α : Type} {f : α → List I} {l : List α} {x y : Operand} {t e : TypeId} {id : Id} {k bytes n : Nat} {z : Value} {kk : IntKind} {i : Int} {a : α} [ht : TyD P t (.slice e)] [hs : TyS P e k bytes z]
    (he : ix l i = some a) (hx : ev env x = some (.c (.own id 0 n))) (hn : n = l.length) (hσ : σv[id]? = some (some (vec k f l))) (hy : ev env y = some (.c (.imm (.val (.int kk i))))) (hd : dstOk sz dst = true)
    (h : AOps P σ0 sz ops Q rest (St.mk (putE env dst (.c (.ptr id i.toNat 0))) σv)) : AOps P σ0 sz ops Q (⟨dst, .indexAddr t x y, ty, pos, after, none⟩ :: rest) (St.mk env σv) :=
  .indexAddrOwn hx hσ hy (by have := ix_get he; have := ix_lt he; omega) hd (by rw [Nat.zero_add]; exact h)
theorem vec_get {α : Type} {f : α → List I} {l : List α} {i : Nat} {a : α} (h : l[i]? = some a) : ((l.map f).map (·.map C.imm))[i]? = some ((f a).map .imm) := by simp [h]
theorem S.loadO {α : Type} {f : α → List I} {l : List α} {x : Operand} {t : TypeId} {d : TypeDesc} {id : Id} {k o : Nat} {i : Int} {a : α} {c : I} [ht : TyD P t d] (he : ix l i = some a) (ha : isAggD d = false) (hx : ev env x = some (.c (.ptr id i.toNat o))) (hσ : σv[id]? = some (some (vec k f l)))
    (hc : (f a)[o]? = some c) (hd : dstOk sz dst = true) (h : AOps P σ0 sz ops Q rest (St.mk (putE env dst (.c (.imm c))) σv)) : AOps P σ0 sz ops Q (⟨dst, .load t x, ty, pos, after, none⟩ :: rest) (St.mk env σv) :=
  .load ha hx hσ (vec_get (ix_get he).2) (by rw [List.getElem?_map, hc]; rfl) hd h
theorem vec_set {α : Type} {f : α → List I} {l : List α} {i : Nat} {a : α} {k : Nat} : Blk.cells k (((l.map f).map (·.map C.imm)).set i ((f a).map .imm)) = vec k f (l.set i a) := by
  simp only [vec, Blk.im, List.map_set]
/-- A cell of an element written. -/
theorem S.storeO {α : Type} {f : α → List I} {l : List α} {x y : Operand} {t : TypeId} {bytes : Nat} {z : Value} {id : Id} {k o : Nat} {i : Nat} {a a' : α} {c : I} [hs : TyS P t 1 bytes z] (he : l[i]? = some a) (hf : setF (f a) o c = some (f a')) (hx : ev env x = some (.c (.ptr id i o))) (hy : ev env y = some (.c (.imm c))) (hσ : σv[id]? = some (some (vec k f l)))
    (hσ' : putF σv id (some (vec k f (l.set i a'))) = some σ') (h : AOps P σ0 sz ops Q rest (St.mk env σ')) : AOps P σ0 sz ops Q (⟨none, .store t x y, ty, pos, after, none⟩ :: rest) (St.mk env σv) := by
  have h1 := setF_eq hf
  have h2 := putF_get hσ'
  subst h2
  refine AOps.store hx hy hσ (vec_get he) (by simpa using h1.2) ?_
  rw [show (((f a).map C.imm).set o (.imm c)) = (f a').map .imm by rw [← List.map_set, ← h1.1]]
  rw [vec_set]
  exact h
/-- An element of one cell written. -/
theorem S.storeO1 {α : Type} {f : α → List I} {l : List α} {x y : Operand} {t : TypeId} {bytes : Nat} {z : Value} {id : Id} {k : Nat} {i : Nat} {a' : α} {c : I} [hs : TyS P t 1 bytes z] (hi : i < l.length) (hf : ∀ a, ∃ u, f a = [u]) (hf' : f a' = [c]) (hx : ev env x = some (.c (.ptr id i 0))) (hy : ev env y = some (.c (.imm c))) (hσ : σv[id]? = some (some (vec k f l)))
    (hσ' : putF σv id (some (vec k f (l.set i a'))) = some σ') (h : AOps P σ0 sz ops Q rest (St.mk env σ')) : AOps P σ0 sz ops Q (⟨none, .store t x y, ty, pos, after, none⟩ :: rest) (St.mk env σv) := by
  obtain ⟨u, hu⟩ := hf l[i]
  exact S.storeO (a := l[i]) (List.getElem?_eq_getElem hi) (by rw [hu, hf']; rfl) hx hy hσ hσ' h
/-! ### A block takes the place of another one -/
def EntMv (id n : Id) (σ : Store) (m i : Nat) : Ent → Prop
  | .dead => True
  | .one b => b.ok m = true ∧ σ[mv id n (i, [])]? = some (some (b.ren (mv id n)))
  | .node x s => ∀ (p : List Nat) (b : Blk), (Ent.node x s).sub p = some b → b.ok m = true ∧ σ[mv id n (i, p)]? = some (some (b.ren (mv id n)))
def StMv (id n : Id) (σ : Store) (m : Nat) : Nat → Store → Prop
  | _, [] => True
  | i, e :: r => EntMv id n σ m i e ∧ StMv id n σ m (i + 1) r
theorem EntMv.get {id n : Id} {σ : Store} {m i : Nat} {e : Ent} (h : EntMv id n σ m i e) {p : List Nat} {b : Blk} (hb : e.sub p = some b) : b.ok m = true ∧ σ[mv id n (i, p)]? = some (some (b.ren (mv id n))) := by
  cases e with
  | dead => cases p <;> cases hb
  | one c => cases p with
    | nil => cases hb; exact h
    | cons => cases hb
  | node x s => exact h p b hb
theorem StMv.get {id n : Id} {m : Nat} {σ : Store} : ∀ {i : Nat} {σ' : Store}, StMv id n σ m i σ' → ∀ (j : Nat) (p : List Nat) (b : Blk), σ'[((j, p) : Id)]? = some (some b) → b.ok m = true ∧ σ[mv id n (i + j, p)]? = some (some (b.ren (mv id n)))
  | _, [], _, j, p, b, h => by simp at h
  | i, e :: r, h, 0, p, b, hb => by
    rw [Store.at_eq] at hb
    simp only [Store.at, List.getElem?_cons_zero, Option.some.injEq] at hb
    exact h.1.get hb
  | i, e :: r, h, j + 1, p, b, hb => by
    have := StMv.get (i := i + 1) h.2 j p b (by
      rw [Store.at_eq] at hb ⊢
      simpa [Store.at] using hb)
    rwa [show i + 1 + j = i + (j + 1) by omega] at this
def EnvMv (id n : Id) (env : Env) : Env → Prop
  | [] => True
  | (t, v) :: r => lookup t env = some (v.ren (mv id n)) ∧ EnvMv id n env r
theorem EnvMv.get {id n : Id} : ∀ {env' : Env}, EnvMv id n env env' → ∀ t v, lookup t env' = some v → lookup t env = some (v.ren (mv id n))
  | [], _, t, v, h => by simp [lookup] at h
  | (k, x) :: r, ⟨h1, h2⟩, t, v, h => by
    simp only [lookup] at h
    split at h
    · rename_i he; cases h; rw [← Nat.eq_of_beq_eq_true he]; exact h1
    · exact EnvMv.get h2 t v h
def deadAt (σ : Store) (n : Id) : Bool := match σ[n]? with
  | some (some _) => false
  | _ => true
/-- Block n takes the number id. -/
theorem Sub.move (id n : Id) (h0 : Nat.ble σ0.length id.1 = true) (hl : Nat.ble σ0.length σ'.length = true) (hn : deadAt σ' n = true) (henv : EnvMv id n env env') (he : envOk σ'.length env' = true) (hst : StMv id n σv σ'.length 0 σ') : Sub σ0 ⟨env, σv⟩ ⟨env', σ'⟩ := by
  have h0' := Nat.le_of_ble_eq_true h0
  have hd : ∀ b, σ'[n]? ≠ some (some b) := fun b hb => by simp [deadAt, hb] at hn
  have mve : mv id n id = n := by simp [mv, idb_iff.2 rfl]
  have mvn : ∀ i, i ≠ id → mv id n i = i := fun i h => by simp [mv, idb_ne h]
  refine Sub.mk (mv id n) (fun i hi => mvn i (fun e => by subst e; omega)) (Nat.le_of_ble_eq_true hl) (fun i j b b' hi hj h => ?_) (fun i b hi => ?_) (fun t v ht => ⟨envOk_get he t v ht, henv.get t v ht⟩)
  · by_cases h1 : i = id <;> by_cases h2 : j = id
    · rw [h1, h2]
    · rw [h1, mve, mvn j h2] at h
      subst h; exact absurd hj (hd _)
    · rw [h2, mve, mvn i h1] at h
      subst h; exact absurd hi (hd _)
    · rwa [mvn i h1, mvn j h2] at h
  · have := hst.get i.1 i.2 b hi
    rwa [Nat.zero_add] at this
theorem AWP.move {c : Code} (id n : Id) (h0 : Nat.ble σ0.length id.1 = true) (hl : Nat.ble σ0.length σ'.length = true) (hn : deadAt σ' n = true) (henv : EnvMv id n env env') (he : envOk σ'.length env' = true) (hst : StMv id n σv σ'.length 0 σ') (h : AWP P σ0 sz c Q (St.mk env' σ')) : AWP P σ0 sz c Q (St.mk env σv) :=
  AWP.sub (Sub.move id n h0 hl hn henv he hst) h
theorem vec_mv {α : Type} {π : Id → Id} {k : Nat} {i : Id} {f : α → List I} {l : List α} {σ : Store} (h : σ[i]? = some (some (vec k f l))) : σ[i]? = some (some ((vec k f l).ren π)) := by rw [Blk.im_ren]; exact h
theorem own_len {id : Id} {a b : Nat} (h : a = b) : some (T.c (C.own id 0 a)) = some (T.c (C.own id 0 b)) := by rw [h]
end
end Ab
end
section
namespace Ab
open Go
section
variable {P : Program} {σ0 : Store} {sz : Nat} {Q : Post} {env env' : Env} {σv σ' : Store} {ops : Array Oper} {rest : List Oper} {dst : Option Nat} {ty : TypeId} {pos : String} {after : Array Edge}
/-! ### A row ceases to change -/
mutual
theorem C.frz_no {id : Id} {k : Nat} {es : List (List I)} : ∀ c : C, c.no id = true → c.frz id k es = c
  | .imm _, _ => rfl
  | .own i _ _, h => by
    have : idb i id = false := by simpa [C.no] using h
    simp [C.frz, this]
  | .ptr i _ _, h => by
    have : idb i id = false := by simpa [C.no] using h
    simp [C.frz, this]
  | .fn _ caps, h => by simp only [C.frz, C.frzL_no caps h]
  | .ifc _ cs _, h => by simp only [C.frz, C.frzL_no cs h]
  | .map i, h => rfl
theorem C.frzL_no {id : Id} {k : Nat} {es : List (List I)} : ∀ l : List C, C.noL id l = true → C.frzL id k es l = l
  | [], _ => rfl
  | c :: r, h => by
    simp only [C.noL, Bool.and_eq_true] at h
    simp only [C.frzL, C.frz_no c h.1, C.frzL_no r h.2]
end
mutual
theorem T.frz_no {id : Id} {k : Nat} {es : List (List I)} : ∀ t : T, t.no id = true → t.frz id k es = t
  | .c x, h => by simp only [T.frz, C.frz_no x h]
  | .agg cs, h => by simp only [T.frz, C.frzL_no cs h]
  | .tup ts, h => by simp only [T.frz, T.frzL_no ts h]
  | .undef, _ => rfl
theorem T.frzL_no {id : Id} {k : Nat} {es : List (List I)} : ∀ l : List T, T.noL id l = true → T.frzL id k es l = l
  | [], _ => rfl
  | x :: r, h => by
    simp only [T.noL, Bool.and_eq_true] at h
    simp only [T.frzL, T.frz_no x h.1, T.frzL_no r h.2]
end
theorem Blk.frz_no {id : Id} {k : Nat} {es : List (List I)} (b : Blk) (h : b.no id = true) : b.frz id k es = b := by
  cases b with
  | cells k' es' =>
    simp only [Blk.no, List.all_eq_true] at h
    simp only [Blk.frz]
    congr 1
    conv => rhs; rw [← List.map_id es']
    exact List.map_congr_left fun l hl => C.frzL_no l (h l hl)
  | obj p => rfl
/-- c becomes c' when block id ceases to change; X: what becomes of its views. -/
def FrzC (id : Id) (X : C → C → Prop) (c c' : C) : Prop := (c' = c ∧ c.no id = true) ∨ X c c'
/-- The view of a whole row x, n long. -/
def XRow (id : Id) (n : Nat) (x : C) : C → C → Prop := fun c c' => ∃ m, c = .own id 0 m ∧ m = n ∧ c' = x
/-- Places in a block of one element e. -/
def XBox (id : Id) (e : List I) : C → C → Prop := fun c c' => ∃ o e', c = .ptr id 0 o ∧ dropF o e = some e' ∧ c' = .imm (.ipt e')
def FrzL (id : Id) (X : C → C → Prop) : List C → List C → Prop
  | [], [] => True
  | c :: l, c' :: l' => FrzC id X c c' ∧ FrzL id X l l'
  | _, _ => False
def FrzT (id : Id) (X : C → C → Prop) : T → T → Prop
  | .c c, .c c' => FrzC id X c c'
  | .agg l, .agg l' => FrzL id X l l'
  | t, t' => t' = t ∧ t.no id = true
def FrzEnv (id : Id) (X : C → C → Prop) (env : Env) : Env → Prop
  | [] => True
  | (t, v') :: r => (∃ v, lookup t env = some v ∧ FrzT id X v v') ∧ FrzEnv id X env r
def FrzB (id : Id) (X : C → C → Prop) : Ent → Ent → Prop
  | .dead, .dead => True
  | .one (.cells k [e]), .one (.cells k' [e']) => k' = k ∧ FrzL id X e e'
  | .one b, .one b' => b' = b ∧ b.no id = true
  | .node m s, e' => e' = .node m s ∧ ∀ (p : List Nat) (b : Blk), (Ent.node m s).sub p = some b → b.no id = true
  | _, _ => False
def FrzS (id : Id) (X : C → C → Prop) : Store → Store → Prop
  | [], [] => True
  | b :: r, b' :: r' => FrzB id X b b' ∧ FrzS id X r r'
  | _, _ => False
section
variable {es : List (List I)} {id : Id} {k : Nat} {X : C → C → Prop}
theorem FrzC.eq (hX : ∀ c c', X c c' → c.frz id k es = c') {c c' : C} (h : FrzC id X c c') : c.frz id k es = c' := by
  rcases h with ⟨rfl, h⟩ | h
  · exact C.frz_no _ h
  · exact hX _ _ h
theorem FrzL.eq (hX : ∀ c c', X c c' → c.frz id k es = c') : ∀ {c c' : List C}, FrzL id X c c' → C.frzL id k es c = c'
  | [], [], _ => rfl
  | c :: r, c' :: r', h => by rw [C.frzL, FrzC.eq hX h.1, FrzL.eq hX h.2]
  | [], _ :: _, h => h.elim
  | _ :: _, [], h => h.elim
theorem FrzT.eq (hX : ∀ c c', X c c' → c.frz id k es = c') {t t' : T} (h : FrzT id X t t') : t.frz id k es = t' := by
  cases t <;> cases t' <;> simp only [FrzT] at h <;> first
    | (simp only [T.frz, FrzC.eq hX h]; done)
    | (simp only [T.frz, FrzL.eq hX h]; done)
    | (obtain ⟨h1, h2⟩ := h; cases h1; exact T.frz_no _ h2)
    | (obtain ⟨h1, h2⟩ := h; cases h1)
theorem FrzEnv.get (hX : ∀ c c', X c c' → c.frz id k es = c') : ∀ {env' : Env}, FrzEnv id X env env' → ∀ t v, lookup t env' = some v → (lookup t env).map (fun v => v.frz id k es) = some v
  | [], _, t, v, hv => by simp [lookup] at hv
  | (t0, v0) :: r, h, t, v, hv => by
    simp only [lookup] at hv
    split at hv
    · rename_i e
      have := Nat.eq_of_beq_eq_true e
      subst this
      cases hv
      obtain ⟨v1, h1, h2⟩ := h.1
      rw [h1]
      simp only [Option.map_some, FrzT.eq hX h2]
    · exact FrzEnv.get hX h.2 t v hv
theorem FrzB.get (hX : ∀ c c', X c c' → c.frz id k es = c') {e e' : Ent} (h : FrzB id X e e') (p : List Nat) : (e.sub p).map (Blk.frz id k es) = e'.sub p := by
  unfold FrzB at h
  split at h
  · cases p <;> rfl
  · obtain ⟨rfl, h2⟩ := h
    cases p with
    | nil => simp only [Ent.sub, Option.map_some, Blk.frz, List.map_cons, List.map_nil, FrzL.eq hX h2]
    | cons => rfl
  · obtain ⟨rfl, h2⟩ := h
    cases p with
    | nil => simp only [Ent.sub, Option.map_some, Blk.frz_no _ h2]
    | cons => rfl
  · obtain ⟨rfl, h2⟩ := h
    cases hb : (Ent.node _ _).sub p with
    | none => rfl
    | some b => simp only [Option.map_some, Blk.frz_no _ (h2 p b hb)]
  · exact h.elim
theorem FrzS.get (hX : ∀ c c', X c c' → c.frz id k es = c') : ∀ {σ σ2 : Store}, FrzS id X σ σ2 → ∀ i : Id, (σ[i]?).map (Option.map (Blk.frz id k es)) = σ2[i]?
  | [], [], _, i => rfl
  | [], _ :: _, h, _ => h.elim
  | _ :: _, [], h, _ => h.elim
  | e :: r, e' :: r', h, (0, p) => by
    rw [Store.at_eq, Store.at_eq]
    simp only [Store.at, List.getElem?_cons_zero, Option.map_some, FrzB.get hX h.1 p]
  | e :: r, e' :: r', h, (i + 1, p) => by
    have := FrzS.get hX h.2 (i, p)
    rw [Store.at_eq, Store.at_eq] at this ⊢
    simpa [Store.at] using this
theorem FrzS.len : ∀ {σ σ2 : Store}, FrzS id X σ σ2 → σ2.length = σ.length
  | [], [], _ => rfl
  | [], _ :: _, h => h.elim
  | _ :: _, [], h => h.elim
  | e :: r, e' :: r', h => by simp [FrzS.len h.2]
/-- A store that shows the same blocks. -/
theorem Sub.same {env : Env} {σ1 σ2 : Store} (hl : σ2.length = σ1.length) (h : ∀ i : Id, σ1[i]? = σ2[i]?) : Sub σ0 ⟨env, σ1⟩ ⟨env, σ2⟩ := fun Γ sz φ a w hΓ hR => by
  have hal : ∀ b, Al Γ.N φ σ1 b → Al Γ.N φ σ2 b := fun b hb => ⟨hb.1, fun i blk base hi => hb.2 i blk base (by rw [h i]; exact hi)⟩
  have hK : Kept w w φ φ σ1 σ2 (Al Γ.N φ σ1) (Al Γ.N φ σ2) :=
    ⟨fun _ _ _ => rfl, fun b hb _ => hal b hb, by omega, fun i k es _ he => ⟨es, by rw [h i]; exact he, rfl, rfl, fun _ _ arr _ _ h2 => ⟨arr, h2, rfl⟩⟩, fun i p _ he => ⟨rfl, p, by rw [h i]; exact he⟩⟩
  have hRs : Rs Γ σ2 φ w := {
    good := hR.good
    st := ⟨fun i b hi => BlkR.mono hK (fun _ _ _ => rfl) (hR.st.blk i b (by dsimp only; rw [h i]; exact hi)), fun i j bi bj p q hi hj => hR.st.inj i j bi bj p q (by dsimp only; rw [h i]; exact hi) (by dsimp only; rw [h j]; exact hj)⟩
    keep := fun i blk b base hi => hR.keep i blk b base (by dsimp only; rw [h i]; exact hi)
    os := hR.os
    tape := hR.tape
    output := hR.output
    size := hR.size
    block := hR.block
    kept := Kept.trans hR.size hR.kept hK }
  exact ⟨φ, hR.of hK hRs⟩
theorem Sub.frzX {env2 : Env} {σ1 σ2 : Store} (hX : ∀ c c', X c c' → c.frz id k es = c') (hid : Nat.ble σ0.length id.1 = true) (hσ : σv[id]? = some (some (Blk.im k es))) (henv : FrzEnv id X env env2) (h1 : putF σv id none = some σ1) (hst : FrzS id X σ1 σ2) : Sub σ0 ⟨env, σv⟩ ⟨env2, σ2⟩ := by
  have h2 := putF_get h1
  subst h2
  have hf := Sub.frz (σ0 := σ0) (s := ⟨env, σv⟩) id k es (Nat.le_of_ble_eq_true hid) hσ
  have hs : Sub σ0 (St.frz ⟨env, σv⟩ id k es) ⟨env.map fun p => (p.1, p.2.frz id k es), σ2⟩ := Sub.same (by rw [hst.len]; simp [St.frz]) (fun i => by rw [← FrzS.get hX hst i, Store.get_map])
  refine (hf.trans hs).trans (fun _ _ φ _ _ _ hR => ⟨φ, { toRs := hR.toRs, defers := hR.defers, asize := hR.asize, env := fun t v ht => hR.env t v ?_ }⟩)
  show lookup t (env.map fun p => (p.1, p.2.frz id k es)) = some v
  rw [lookup_map (fun v => v.frz id k es)]
  exact FrzEnv.get hX henv t v ht
end
theorem XRow.eq {α : Type} {f : α → List I} {l : List α} {id : Id} {k : Nat} : ∀ c c', XRow id l.length (row k f l) c c' → c.frz id k (l.map f) = c' := by
  rintro c c' ⟨m, rfl, rfl, rfl⟩
  simp [C.frz, row, List.take_of_length_le, idb_iff.2 rfl]
theorem XBox.eq {e : List I} {id : Id} {k : Nat} : ∀ c c', XBox id e c c' → c.frz id k [e] = c' := by
  rintro c c' ⟨o, e', rfl, h, rfl⟩
  rw [(dropF_eq h).1]
  simp [C.frz, idb_iff.2 rfl]
theorem Sub.frzV {α : Type} {f : α → List I} {l : List α} {id : Id} {k : Nat} {env2 : Env} {σ1 σ2 : Store} (hid : Nat.ble σ0.length id.1 = true) (hσ : σv[id]? = some (some (vec k f l))) (henv : FrzEnv id (XRow id l.length (row k f l)) env env2) (h1 : putF σv id none = some σ1) (hst : FrzS id (XRow id l.length (row k f l)) σ1 σ2) : Sub σ0 ⟨env, σv⟩ ⟨env2, σ2⟩ := Sub.frzX XRow.eq hid hσ henv h1 hst
theorem AWP.frzV {α : Type} {f : α → List I} {l : List α} {id : Id} {k : Nat} {c : Code} {env2 : Env} {σ1 σ2 : Store} (hid : Nat.ble σ0.length id.1 = true) (hσ : σv[id]? = some (some (vec k f l))) (henv : FrzEnv id (XRow id l.length (row k f l)) env env2) (h1 : putF σv id none = some σ1) (hst : FrzS id (XRow id l.length (row k f l)) σ1 σ2)
    (h : AWP P σ0 sz c Q (St.mk env2 σ2)) : AWP P σ0 sz c Q (St.mk env σv) := AWP.sub (Sub.frzV hid hσ henv h1 hst) h
theorem AOps.frzV {α : Type} {f : α → List I} {l : List α} {id : Id} {k : Nat} {env2 : Env} {σ1 σ2 : Store} (hid : Nat.ble σ0.length id.1 = true) (hσ : σv[id]? = some (some (vec k f l))) (henv : FrzEnv id (XRow id l.length (row k f l)) env env2) (h1 : putF σv id none = some σ1) (hst : FrzS id (XRow id l.length (row k f l)) σ1 σ2)
    (h : AOps P σ0 sz ops Q rest (St.mk env2 σ2)) : AOps P σ0 sz ops Q rest (St.mk env σv) := AOps.sub (Sub.frzV hid hσ henv h1 hst) h
/-! ### nil -/
/-- A slot that holds nil: a row of its own with nothing in it. -/
theorem Sub.virtV {α : Type} (k : Nat) (f : α → List I) (t : Nat) {n : Id} (ht : lookup t env = some (.c (.imm (.val (.slice none 0 0))))) (hn : newF σv = some n) (hσ' : snocF σv (.one (vec k f [])) = some σ') : Sub σ0 ⟨env, σv⟩ ⟨(t, .c (.own n 0 ([] : List α).length)) :: env, σ'⟩ := by
  have h1 := newF_eq hn; have h2 := snocF_eq hσ'
  subst h1 h2
  exact Sub.virt (s := ⟨env, σv⟩) t k ht
theorem AWP.virtV {α : Type} {c : Code} (k : Nat) (f : α → List I) (t : Nat) {n : Id} (ht : lookup t env = some (.c (.imm (.val (.slice none 0 0))))) (hn : newF σv = some n) (hσ' : snocF σv (.one (vec k f [])) = some σ')
    (h : AWP P σ0 sz c Q (St.mk ((t, .c (.own n 0 ([] : List α).length)) :: env) σ')) : AWP P σ0 sz c Q (St.mk env σv) := AWP.sub (Sub.virtV k f t ht hn hσ') h
/-- nil is a row with nothing in it. -/
theorem Sub.nilrow (k : Nat) (t : Nat) (ht : lookup t env = some (.c (.imm (.val (.slice none 0 0))))) : Sub σ0 ⟨env, σv⟩ ⟨(t, .c (.imm (.sl k []))) :: env, σv⟩ := by
  intro Γ sz φ a w hΓ hR
  refine ⟨φ, { toRs := hR.toRs, defers := hR.defers, asize := hR.asize, env := ?_ }⟩
  intro t' v hv
  simp only [lookup] at hv
  split at hv
  · rename_i e
    have := Nat.eq_of_beq_eq_true e
    subst this
    cases hv
    obtain ⟨u, hu, hr⟩ := hR.env _ _ ht
    refine ⟨u, hu, ?_⟩
    rw [val_inv hr]
    exact .c (.imm .slNil)
  · exact hR.env t' v hv
theorem AWP.nilrow {c : Code} (k : Nat) (t : Nat) (ht : lookup t env = some (.c (.imm (.val (.slice none 0 0))))) (h : AWP P σ0 sz c Q (St.mk ((t, .c (.imm (.sl k []))) :: env) σv)) : AWP P σ0 sz c Q (St.mk env σv) := AWP.sub (Sub.nilrow k t ht) h
/-! ### Lent to a call -/
mutual
/-- What a call that only reads is shown in the place of c. -/
inductive LendC (σ : Store) : C → C → Prop
  | imm {x : I} : LendC σ (.imm x) (.imm x)
  | own {α : Type} {id : Id} {k n : Nat} {f : α → List I} {l : List α} (h : σ[id]? = some (some (vec k f l))) (hn : n = l.length) : LendC σ (.own id 0 n) (row k f l)
  | nil {k : Nat} : LendC σ (.imm (.val (.slice none 0 0))) (.imm (.sl k []))
  | ptr {id : Id} {o k : Nat} {cs : List C} {es es' : List I} (h : σ[id]? = some (some (.cells k [cs]))) (hd : dropF o es = some es') (hl : LendL σ cs (es.map .imm)) : LendC σ (.ptr id 0 o) (.imm (.ipt es'))
  | fn {f : FuncId} {caps caps' : List C} (h : LendL σ caps caps') : LendC σ (.fn f caps) (.fn f caps')
  | fnI {f : FuncId} {caps : List C} {caps' : List I} (h : LendL σ caps (caps'.map .imm)) : LendC σ (.fn f caps) (.imm (.fn f caps'))
inductive LendL (σ : Store) : List C → List C → Prop
  | nil : LendL σ [] []
  | cons {c c' : C} {l l' : List C} (h : LendC σ c c') (hl : LendL σ l l') : LendL σ (c :: l) (c' :: l')
end
inductive LendT (σ : Store) : T → T → Prop
  | c {x y : C} (h : LendC σ x y) : LendT σ (.c x) (.c y)
  | agg {l l' : List C} (h : LendL σ l l') : LendT σ (.agg l) (.agg l')
inductive LendTs (σ : Store) : List T → List T → Prop
  | nil : LendTs σ [] []
  | cons {c c' : T} {l l' : List T} (h : LendT σ c c') (hl : LendTs σ l l') : LendTs σ (c :: l) (c' :: l')
/-- The context of a call that is lent everything. -/
def Cx.open (w : World) : Cx := ⟨w, fun _ => False, fun _ => none, []⟩
theorem good_open (w : World) : Good (Cx.open w) :=
  { st := ⟨fun i b hi => by simp [Cx.open] at hi, fun i j bi bj p q hi => by simp [Cx.open] at hi⟩, lt := fun _ h => h.elim, own := fun i blk b base hi => by simp [Cx.open] at hi }
theorem al_open (w : World) (b : Nat) : Al (Cx.open w).N (fun _ => none) [] b := ⟨fun h => h, fun i blk base hi => by simp at hi⟩
theorem lend_own {Γ : Cx} {a : Act} {w : World} {φ : Phi} {α : Type} {id : Id} {k : Nat} {f : α → List I} {l : List α} (hR : R Γ sz ⟨env, σv⟩ φ a w) (h : σv[id]? = some (some (vec k f l))) {u : Value} (hu : OwnView w (φ id) k ((l.map f).map (·.map C.imm)).length 0 l.length u) {A : Nat → Prop} (hA : ∀ b, A b) : RelI w A (.sl k (l.map f)) u := by
  have hs : Src σv k (.c (.own id 0 l.length)) ((l.map f).map (·.map .imm)) := (SrcF.own h rfl).src
  rcases hu with ⟨h1, h2, _, h4⟩ | ⟨b, base, cap, arr, ety, ad, hp, hv, had, hcap, hmax, hjn, hbk, hsz⟩
  · have : l = [] := List.eq_nil_of_length_eq_zero h4
    subst this; subst h2
    exact .slNil
  · obtain ⟨arr', ety', hb', hsz', hk, hcs⟩ := own_cells hR h hp
    rw [hbk] at hb'; cases hb'
    subst hv
    have get : ∀ (j : Nat) (e : List I), (l.map f)[j]? = some e → ((l.map f).map (·.map C.imm))[j]? = some (e.map .imm) := fun j e he => by rw [List.getElem?_map, he]; rfl
    have hlen : l.length = (l.map f).length := by simp
    have key : ∀ (j : Nat) (e : List I) (o : Nat) (x : I), (l.map f)[j]? = some e → e[o]? = some x → ∃ u, arr[base + (j * k + o)]? = some u ∧ RelI w A x u := fun j e o x he hx => by
      obtain ⟨u, hu, hr⟩ := hcs j _ o (.imm x) (get j e he) (by rw [List.getElem?_map, hx]; rfl)
      cases hr with | imm hr => exact ⟨u, hu, hr.mono (fun _ _ _ => rfl) (fun b _ _ => hA b)⟩
    rw [hlen]
    refine .sl (fun j o => (arr[base + (j * k + o)]?).getD Go.undef) (by rw [← hlen]; exact hcap) hmax (fun j e he => ?_) (fun j e o x he hx => ⟨hA _, ?_⟩) (fun j e o x he hx => ?_)
    · have := hk j _ (get j e he)
      simpa using this
    · obtain ⟨u, hu, _⟩ := key j e o x he hx
      have hj : j < l.length := by rw [hlen]; exact (List.getElem?_eq_some_iff.1 he).1
      rw [had (by omega), add_none, cell_of hbk]
      simp only [Nat.zero_mul, Nat.add_zero]
      rw [hu]; rfl
    · obtain ⟨u, hu, hr⟩ := key j e o x he hx
      rw [hu]; exact hr
mutual
theorem LendC.rel {Γ : Cx} {a : Act} {w : World} {φ : Phi} {σ' : Store} {φ' : Phi} {A : Nat → Prop} (hR : R Γ sz ⟨env, σv⟩ φ a w) (hA : ∀ b, A b) : ∀ {c c' : C}, LendC σv c c' → ∀ {u : Value}, RelC w φ σv (Al Γ.N φ σv) c u → RelC w φ' σ' A c' u
  | _, _, .imm, u, h => by cases h with | imm h => exact .imm (h.mono (fun _ _ _ => rfl) (fun b _ _ => hA b))
  | _, _, .own hσ hn, u, h => by
    subst hn
    cases h with | own _ _ h => exact .imm (lend_own hR hσ (h _ _ hσ) hA)
  | _, _, .nil, u, h => by
    cases h with | imm h => cases h; exact .imm .slNil
  | _, _, .ptr (o := o) (cs := cs) (es := es) hσ hd hl, u, h => by
    obtain ⟨h1, h2⟩ := dropF_eq hd
    subst h1
    cases h with | ptr hid _ h =>
      obtain ⟨b, base, hp, rfl⟩ := h _ _ hσ
      obtain ⟨arr, ety, hb, hsz, hk, hcs⟩ := own_cells hR hσ hp
      have key : ∀ (o : Nat) (x : I), es[o]? = some x → ∃ u, arr[base + o]? = some u ∧ RelI w A x u := fun o x hx => by
        obtain ⟨c, hc, hlend⟩ := LendL.get hR hA (φ' := φ') (σ' := σ') hl o (.imm x) (by rw [List.getElem?_map, hx]; rfl)
        obtain ⟨u, hu, hr⟩ := hcs 0 cs o c rfl hc
        have := hlend hr
        cases this with | imm this => exact ⟨u, by simpa using hu, this⟩
      refine .imm (.ipt (fun q => (arr[base + (o + q)]?).getD Go.undef) (fun q x hx => ⟨hA _, ?_⟩) (fun q x hx => ?_))
      · rw [List.getElem?_drop] at hx
        obtain ⟨u, hu, _⟩ := key _ x hx
        rw [add_none, cell_of hb]
        simp only [Nat.zero_mul, Nat.zero_add, Nat.add_assoc]
        rw [hu]; rfl
      · rw [List.getElem?_drop] at hx
        obtain ⟨u, hu, hr⟩ := key _ x hx
        rw [hu]; exact hr
  | _, _, .fn (caps := caps) (caps' := caps') hl, u, h => by
    cases h with | fn us hr =>
      have e : caps'.length = caps.length := LendL.len hl
      rw [← e]
      refine .fn us fun i c hi => ?_
      obtain ⟨c0, h0, hlend⟩ := LendL.get hR hA (φ' := φ') (σ' := σ') hl i c hi
      exact hlend (hr i c0 h0)
  | _, _, .fnI (caps := caps) (caps' := caps') hl, u, h => by
    cases h with | fn us hr =>
      have e : caps'.length = caps.length := by have := LendL.len hl; simpa using this
      rw [← e]
      refine .imm (.fn us fun i c hi => ?_)
      obtain ⟨c0, h0, hlend⟩ := LendL.get hR hA (φ' := φ') (σ' := σ') hl i (.imm c) (by rw [List.getElem?_map, hi]; rfl)
      have := hlend (hr i c0 h0)
      cases this with | imm this => exact this
theorem LendL.get {Γ : Cx} {a : Act} {w : World} {φ : Phi} {σ' : Store} {φ' : Phi} {A : Nat → Prop} (hR : R Γ sz ⟨env, σv⟩ φ a w) (hA : ∀ b, A b) : ∀ {l l' : List C}, LendL σv l l' → ∀ (i : Nat) (c' : C), l'[i]? = some c' → ∃ c, l[i]? = some c ∧ ∀ {u : Value}, RelC w φ σv (Al Γ.N φ σv) c u → RelC w φ' σ' A c' u
  | _, _, .nil, i, c', h => by simp at h
  | _, _, .cons h hl, 0, c', hi => by
    simp only [List.getElem?_cons_zero, Option.some.injEq] at hi
    subst hi
    exact ⟨_, rfl, fun hr => LendC.rel hR hA h hr⟩
  | _, _, .cons h hl, i + 1, c', hi => by
    obtain ⟨c, h1, h2⟩ := LendL.get hR hA (φ' := φ') (σ' := σ') hl i c' (by simpa using hi)
    exact ⟨c, by simpa using h1, h2⟩
theorem LendL.len : ∀ {l l' : List C}, LendL σv l l' → l'.length = l.length
  | _, _, .nil => rfl
  | _, _, .cons h hl => by simp [LendL.len hl]
end
theorem LendT.rel {Γ : Cx} {a : Act} {w : World} {φ : Phi} {σ' : Store} {φ' : Phi} {A : Nat → Prop} (hR : R Γ sz ⟨env, σv⟩ φ a w) (hA : ∀ b, A b) {c c' : T} (h : LendT σv c c') {u : Value} (hr : RelT w φ σv (Al Γ.N φ σv) c u) : RelT w φ' σ' A c' u := by
  cases h with
  | c h => cases hr with | c hr => exact .c (h.rel hR hA hr)
  | @agg l l' h =>
    cases hr with | agg us hr =>
      have e : l'.length = l.length := LendL.len (env := env) (sz := sz) h
      rw [← e]
      refine .agg us fun i c hi => ?_
      obtain ⟨c0, h0, hl⟩ := h.get hR hA (φ' := φ') (σ' := σ') i c hi
      exact hl (hr i c0 h0)
theorem LendTs.get : ∀ {l l' : List T}, LendTs σv l l' → l'.length = l.length ∧ ∀ (i : Nat) (t' : T), l'[i]? = some t' → ∃ t, l[i]? = some t ∧ LendT σv t t'
  | _, _, .nil => ⟨rfl, fun i t h => by simp at h⟩
  | _, _, .cons h hl => ⟨by simp [(LendTs.get hl).1], fun i t' hi => by
      cases i with
      | zero =>
        simp only [List.getElem?_cons_zero, Option.some.injEq] at hi
        subst hi
        exact ⟨_, rfl, h⟩
      | succ i => simpa using (LendTs.get hl).2 i t' (by simpa using hi)⟩
def C.scal : C → Bool
  | .imm (.val _) => true
  | _ => false
def T.scal : T → Bool
  | .c x => x.scal
  | .agg cs => cs.all C.scal
  | .tup [] => true
  | .tup [.c a] => a.scal
  | .tup [.c a, .c b] => a.scal && b.scal
  | .tup [.c a, .agg b] => a.scal && b.all C.scal
  | .tup [.c a, .c b, .c d] => a.scal && b.scal && d.scal
  | .tup [.c a, .c b, .agg d] => a.scal && b.scal && d.all C.scal
  | .tup _ => false
  | .undef => false
theorem C.scal_rel {w w' : World} {φ φ' : Phi} {σ σ' : Store} {A A' : Nat → Prop} {c : C} {v : Value} (hs : c.scal = true) (h : RelC w φ σ A c v) : RelC w' φ' σ' A' c v := by
  cases h with
  | imm h => cases h with
    | val h => exact .imm (.val h)
    | _ => simp [C.scal] at hs
  | _ => simp [C.scal] at hs
theorem agg_scal {w w' : World} {φ φ' : Phi} {σ σ' : Store} {A A' : Nat → Prop} {cs : List C} {v : Value} (hs : cs.all C.scal = true) (h : RelT w φ σ A (.agg cs) v) : RelT w' φ' σ' A' (.agg cs) v := by
  cases h with | agg us hr =>
    rw [List.all_eq_true] at hs
    exact .agg us fun i c hi => C.scal_rel (hs c (List.mem_of_getElem? hi)) (hr i c hi)
theorem T.scal_rel {w w' : World} {φ φ' : Phi} {σ σ' : Store} {A A' : Nat → Prop} {t : T} {v : Value} (hs : t.scal = true) (h : RelT w φ σ A t v) : RelT w' φ' σ' A' t v := by
  have one : ∀ {x : C} {v : Value}, x.scal = true → RelT w φ σ A (.c x) v → RelT w' φ' σ' A' (.c x) v := fun hx h => by cases h with | c h => exact .c (C.scal_rel hx h)
  have list : ∀ {ts : List T} {v : Value}, (∀ t ∈ ts, ∀ v, RelT w φ σ A t v → RelT w' φ' σ' A' t v) → RelT w φ σ A (.tup ts) v → RelT w' φ' σ' A' (.tup ts) v := fun hx h => by
    cases h with | tup us hr => exact .tup us fun i t hi => hx t (List.mem_of_getElem? hi) _ (hr i t hi)
  unfold T.scal at hs
  split at hs
  · exact one hs h
  · exact agg_scal hs h
  · exact list (fun t ht => by simp at ht) h
  · exact list (fun t ht v h => by simp at ht; subst ht; exact one hs h) h
  · simp only [Bool.and_eq_true] at hs
    exact list (fun t ht v h => by
      simp at ht
      rcases ht with rfl | rfl
      · exact one hs.1 h
      · exact one hs.2 h) h
  · simp only [Bool.and_eq_true] at hs
    exact list (fun t ht v h => by
      simp at ht
      rcases ht with rfl | rfl
      · exact one hs.1 h
      · exact agg_scal hs.2 h) h
  · simp only [Bool.and_eq_true] at hs
    exact list (fun t ht v h => by
      simp at ht
      rcases ht with rfl | rfl | rfl
      · exact one hs.1.1 h
      · exact one hs.1.2 h
      · exact one hs.2 h) h
  · simp only [Bool.and_eq_true] at hs
    exact list (fun t ht v h => by
      simp at ht
      rcases ht with rfl | rfl | rfl
      · exact one hs.1.1 h
      · exact one hs.1.2 h
      · exact agg_scal hs.2 h) h
  · cases hs
  · cases hs
/-- Old blocks are as' they were. -/
theorem Rs.same {Γ : Cx} {σ : Store} {φ : Phi} {w w' : World} (h : Rs Γ σ φ w) (hos : w'.os = w.os) (ht : w'.tape = w.tape) (ho : w'.output = w.output) (hs : w.heap.size ≤ w'.heap.size) (hb : ∀ b, b < w.heap.size → w'.heap[b]? = w.heap[b]?) :
    Kept w w' φ φ σ σ (Al Γ.N φ σ) (Al Γ.N φ σ) ∧ Rs Γ σ φ w' := by
  have hK : Kept w w' φ φ σ σ (Al Γ.N φ σ) (Al Γ.N φ σ) :=
    ⟨fun b _ hl => hb b hl, fun _ h _ => h, Nat.le_refl _, fun i k es hi he => ⟨es, he, rfl, rfl, fun b base arr ety hp h2 => ⟨arr, (hb b (Al.own_lt h.st he hp)).trans h2, rfl⟩⟩, fun _ p _ h => ⟨rfl, p, h⟩⟩
  refine ⟨hK, ?_⟩
  exact {
    good := h.good
    st := ⟨fun i b hi => BlkR.mono hK (fun g base hp => hb g (Al.own_lt h.st hi hp)) (h.st.blk i b hi), h.st.inj⟩
    keep := h.keep
    os := hos.trans h.os
    tape := ht.trans h.tape
    output := ho.trans h.output
    size := Nat.le_trans h.size hs
    block := fun b hK' => (hb b (Nat.lt_of_lt_of_le hK'.1 h.size)).trans (h.block b hK')
    kept := Kept.trans h.size h.kept hK }
/-- A call that only reads, and hands back no memory: it is lent what the caller owns. -/
theorem AOps.callL {x : Operand} {as' : List Operand} {ats : Array TypeId} {f : FuncId} {caps : List C} {ts ts' : List T} {r : T} (hx : ev env x = some (.c (.fn f caps))) (ha : evs env as' = some ts) (hl : LendTs σv (ts ++ caps.map T.c) ts') (hd : dstOk sz dst = true)
    (hf : PureOk P f ts' r) (hr : r.scal = true) (h : AOps P σ0 sz ops Q rest (St.mk (putE env dst r) σv)) :
    AOps P σ0 sz ops Q (⟨dst, .call ⟨.value x, as'.toArray, ats⟩, ty, pos, after, none⟩ :: rest) (St.mk env σv) := fun Γ φ a w hΓ hR =>
  wpList_plain rfl fun K hK => by
    obtain ⟨vs, h1, h2, h3⟩ := call_enter (P := P) (dst := dst) (ty := ty) (pos := pos) (after := after) (ats := ats) hR hx ha hf.fn
    obtain ⟨l1, l2⟩ := hl.get
    unfold Oper.wp
    rw [h1, Oper.upon_enter]
    refine (hf.run (Cx.open w) vs rfl (good_open w) (by rw [l1]; exact h2) (fun i t u hi hu => ?_)).mono ?_
    · obtain ⟨t0, ht0, hlend⟩ := l2 i t hi
      exact hlend.rel hR (al_open w) (h3 i t0 u ht0 hu)
    · rintro e w' ⟨v, r', σ', φ', rfl, hq, hrel, hs⟩
      subst hq
      obtain ⟨hK1, hR1⟩ := hR.toRs.same hs.os hs.tape hs.output hs.size (fun b hb => hs.block b ⟨hb, fun i blk base hi => by simp [Cx.open] at hi⟩)
      exact hK _ _ (h Γ φ _ w' hΓ ((hR.of hK1 hR1).put hd (T.scal_rel hr hrel)))
/-! ### New rows handed back -/
theorem S.fresh {α : Type} {g : α → List I} {l : List α} {x : Operand} {as' : List Operand} {ats : Array TypeId} {f : FuncId} {caps : List C} {ts : List T} {k : Nat} {n : Id} (hx : ev env x = some (.c (.fn f caps))) (ha : evs env as' = some ts) (hok : T.okL 0 (ts ++ caps.map T.c) = true) (hd : dstOk sz dst = true)
    (hf : FreshOk P f (ts ++ caps.map T.c) k (l.map g)) (hn : newF σv = some n) (hσ : snocF σv (.one (vec k g l)) = some σ') (h : AOps P σ0 sz ops Q rest (St.mk (putE env dst (.c (.own n 0 l.length))) σ')) :
    AOps P σ0 sz ops Q (⟨dst, .call ⟨.value x, as'.toArray, ats⟩, ty, pos, after, none⟩ :: rest) (St.mk env σv) := by
  have h1 := newF_eq hn; have h2 := snocF_eq hσ
  subst h1 h2
  exact .fresh hx ha hok hd hf (by rw [List.length_map]; exact h)
theorem Fresh.mk {α : Type} {g : α → List I} {l : List α} {id : Id} {k n : Nat} {σ : Store} (hn : n = l.length) (h : σ[id]? = some (some (vec k g l))) : ∃ id', (T.c (.own id 0 n)) = .c (.own id' 0 (l.map g).length) ∧ σ[id']? = some (some (Blk.im k (l.map g))) :=
  ⟨id, by rw [List.length_map, hn], h⟩
theorem FrzL.imm {id : Id} {X : C → C → Prop} : ∀ l : List I, FrzL id X (l.map .imm) (l.map .imm)
  | [] => trivial
  | _ :: r => ⟨.inl ⟨rfl, rfl⟩, FrzL.imm r⟩
theorem FrzB.vec {α : Type} {f : α → List I} {l : List α} {id : Id} {k : Nat} {X : C → C → Prop} : FrzB id X (.one (vec k f l)) (.one (vec k f l)) := by
  have h := Blk.im_no id k (l.map f)
  unfold FrzB
  split
  · rename_i h1 _; cases h1
  · rename_i k1 e k2 e' h1 h2
    simp only [vec, Blk.im, Ent.one.injEq, Blk.cells.injEq] at h1 h2
    obtain ⟨rfl, h1⟩ := h1
    obtain ⟨rfl, h2⟩ := h2
    have : e = e' := by rw [h1] at h2; simpa using h2
    subst this
    refine ⟨rfl, ?_⟩
    obtain ⟨a, rfl⟩ : ∃ a, l = [a] := by
      cases l with
      | nil => simp at h1
      | cons a l => cases l with
        | nil => exact ⟨a, rfl⟩
        | cons b l => simp at h1
    simp only [List.map_cons, List.map_nil, List.cons.injEq, and_true] at h1
    rw [← h1]
    exact FrzL.imm _
  · rename_i h1 h2
    cases h1; cases h2
    exact ⟨rfl, h⟩
  · rename_i h1; cases h1
  · rename_i h1 h2 h3 h4
    first | exact (h3 _ _ rfl rfl).elim | exact (h4 _ _ rfl rfl).elim | exact (h2 _ _ rfl rfl).elim
/-! ### nil where data is asked -/
def NilC (c c' : C) : Prop := c' = c ∨ (c = .imm (.val (.slice none 0 0)) ∧ ∃ k, c' = .imm (.sl k []))
def NilL : List C → List C → Prop
  | [], [] => True
  | c :: l, c' :: l' => NilC c c' ∧ NilL l l'
  | _, _ => False
def NilT : T → T → Prop
  | .c c, .c c' => NilC c c'
  | .agg l, .agg l' => NilL l l'
  | t, t' => t' = t
def NilTs : List T → List T → Prop
  | [], [] => True
  | c :: l, c' :: l' => NilT c c' ∧ NilTs l l'
  | _, _ => False
theorem NilC.rel {w : World} {φ : Phi} {σ : Store} {A : Nat → Prop} {c c' : C} {u : Value} (h : NilC c c') (hr : RelC w φ σ A c u) : RelC w φ σ A c' u := by
  rcases h with rfl | ⟨rfl, k, rfl⟩
  · exact hr
  · cases hr with | imm hr => cases hr; exact .imm .slNil
theorem NilL.get {w : World} {φ : Phi} {σ : Store} {A : Nat → Prop} : ∀ {l l' : List C}, NilL l l' → l'.length = l.length ∧ ∀ (i : Nat) (c' : C), l'[i]? = some c' → ∃ c, l[i]? = some c ∧ ∀ u, RelC w φ σ A c u → RelC w φ σ A c' u
  | [], [], _ => ⟨rfl, fun i c h => by simp at h⟩
  | [], _ :: _, h => h.elim
  | _ :: _, [], h => h.elim
  | c :: l, c' :: l', h => ⟨by simp [(NilL.get (w := w) (φ := φ) (σ := σ) (A := A) h.2).1], fun i x hi => by
      cases i with
      | zero =>
        simp only [List.getElem?_cons_zero, Option.some.injEq] at hi
        subst hi
        exact ⟨c, rfl, fun u hu => h.1.rel hu⟩
      | succ i => simpa using (NilL.get (w := w) (φ := φ) (σ := σ) (A := A) h.2).2 i x (by simpa using hi)⟩
theorem NilT.rel {w : World} {φ : Phi} {σ : Store} {A : Nat → Prop} {t t' : T} {u : Value} (h : NilT t t') (hr : RelT w φ σ A t u) : RelT w φ σ A t' u := by
  cases t <;> cases t' <;> simp only [NilT] at h <;> first
    | (cases hr with | c hr => exact .c (h.rel hr))
    | (cases hr with | agg us hr =>
        obtain ⟨h1, h2⟩ := h.get (w := w) (φ := φ) (σ := σ) (A := A)
        rw [← h1]
        exact .agg us fun i c hi => by
          obtain ⟨c0, h3, h4⟩ := h2 i c hi
          exact h4 _ (hr i c0 h3))
    | (cases h; exact hr)
    | (cases h)
theorem NilTs.get : ∀ {l l' : List T}, NilTs l l' → l'.length = l.length ∧ ∀ (i : Nat) (t' : T), l'[i]? = some t' → ∃ t, l[i]? = some t ∧ NilT t t'
  | [], [], _ => ⟨rfl, fun i c h => by simp at h⟩
  | [], _ :: _, h => h.elim
  | _ :: _, [], h => h.elim
  | c :: l, c' :: l', h => ⟨by simp [(NilTs.get h.2).1], fun i x hi => by
      cases i with
      | zero =>
        simp only [List.getElem?_cons_zero, Option.some.injEq] at hi
        subst hi
        exact ⟨c, rfl, h.1⟩
      | succ i => simpa using (NilTs.get h.2).2 i x (by simpa using hi)⟩
theorem FnOk.nil {f : FuncId} {ts ts' : List T} {σ : Store} {Qf : T → Store → Prop} (h : NilTs ts ts') (hf : FnOk P f ts' σ Qf) : FnOk P f ts σ Qf :=
  ⟨hf.fn, fun Γ vs hΓ hg hl hr => by
    obtain ⟨h1, h2⟩ := h.get
    refine hf.run Γ vs hΓ hg (by rw [h1]; exact hl) (fun i t u hi hu => ?_)
    obtain ⟨t0, h3, h4⟩ := h2 i t hi
    exact h4.rel (hr i t0 u h3 hu)⟩
theorem PureOk.nil {f : FuncId} {ts ts' : List T} {r : T} (h : NilTs ts ts') (hf : PureOk P f ts' r) : PureOk P f ts r := FnOk.nil h hf
theorem FreshOk.nil {f : FuncId} {ts ts' : List T} {k : Nat} {es : List (List I)} (h : NilTs ts ts') (hf : FreshOk P f ts' k es) : FreshOk P f ts k es := FnOk.nil h hf
/-- A new row that is handed back, at once read as' data. -/
theorem FreshOk.data {f : FuncId} {ts : List T} {k : Nat} {es : List (List I)} (hf : FreshOk P f ts k es) : PureOk P f ts (.c (.imm (.sl k es))) := by
  unfold FreshOk at hf
  unfold PureOk
  refine ⟨hf.fn, fun Γ vs hΓ hg hl hr => (hf.run Γ vs hΓ hg hl hr).mono ?_⟩
  rintro e w ⟨v, r, σ', φ', rfl, ⟨id, rfl, hid⟩, hrel, hs⟩
  have hR : R Γ 1 ⟨[(0, .c (.own id 0 es.length))], σ'⟩ φ' ⟨#[v], []⟩ w :=
    { toRs := hs, defers := rfl, asize := rfl, env := fun t x ht => by
        simp only [lookup] at ht
        split at ht
        · rename_i e
          have := Nat.eq_of_beq_eq_true e
          subst this
          cases ht
          exact ⟨v, rfl, hrel⟩
        · cases ht }
  obtain ⟨φ'', hR2⟩ := Sub.frz (σ0 := []) id k es (Nat.zero_le _) hid Γ 1 φ' _ w hΓ hR
  obtain ⟨u, hu, hr2⟩ := hR2.env 0 (.c (.imm (.sl k es))) (by simp [St.frz, lookup, T.frz, C.frz, idb_iff.2 rfl])
  cases hu
  exact ⟨v, _, _, φ'', rfl, rfl, hr2, hR2.toRs⟩
theorem okL_app {ts : List T} {cv : List C} (h1 : T.okL 0 ts = true) (h2 : C.okL 0 cv = true) : T.okL 0 (ts ++ cv.map T.c) = true := by
  rw [TokL_eq, List.all_eq_true] at h1 ⊢
  rw [okL_eq, List.all_eq_true] at h2
  intro x hx
  rw [List.mem_append, List.mem_map] at hx
  rcases hx with hx | ⟨c, hc, rfl⟩
  · exact h1 x hx
  · exact h2 c hc
theorem Sub.look {env env' : Env} (h : ∀ t v, lookup t env' = some v → lookup t env = some v) : Sub σ0 ⟨env, σv⟩ ⟨env', σv⟩ := fun _ _ φ _ _ _ hR =>
  ⟨φ, { toRs := hR.toRs, defers := hR.defers, asize := hR.asize, env := fun t v ht => hR.env t v (h t v ht) }⟩
end
end Ab
end
section
namespace Ab
open Go
theorem flat_get {α : Type} {k : Nat} : ∀ {l : List (List α)}, (∀ e ∈ l, e.length = k) → ∀ (j : Nat) (e : List α) (o : Nat) (x : α), l[j]? = some e → e[o]? = some x → l.flatten[j * k + o]? = some x
  | [], _, j, e, o, x, h, _ => by simp at h
  | a :: l, hk, 0, e, o, x, h, hx => by
    simp only [List.getElem?_cons_zero, Option.some.injEq] at h
    subst h
    rw [List.flatten_cons, Nat.zero_mul, Nat.zero_add, List.getElem?_append_left (List.getElem?_eq_some_iff.1 hx).1]
    exact hx
  | a :: l, hk, j + 1, e, o, x, h, hx => by
    have ha := hk a (by simp)
    have := flat_get (l := l) (fun e he => hk e (List.mem_cons_of_mem _ he)) j e o x (by simpa using h) hx
    rw [List.flatten_cons, Nat.add_mul, Nat.one_mul, List.getElem?_append_right (by rw [ha]; omega), ha]
    rw [show j * k + k + o - k = j * k + o by omega]
    exact this
theorem zrep_get {α : Type} {zc : List α} (hz : 0 < zc.length) : ∀ (n i : Nat), i < n * zc.length → (List.replicate n zc).flatten[i]? = zc[i % zc.length]?
  | 0, i, h => by simp at h
  | n + 1, i, h => by
    rw [List.replicate_succ, List.flatten_cons]
    by_cases hi : i < zc.length
    · rw [List.getElem?_append_left hi, Nat.mod_eq_of_lt hi]
    · rw [List.getElem?_append_right (by omega), zrep_get hz n _ (by rw [Nat.add_mul] at h; omega)]
      congr 1
      rw [← Nat.mod_eq_sub_mod (by omega)]
def NilLL : List (List C) → List (List C) → Prop
  | [], [] => True
  | c :: l, c' :: l' => NilL c c' ∧ NilLL l l'
  | _, _ => False
theorem NilLL.get : ∀ {l l' : List (List C)}, NilLL l l' → l'.length = l.length ∧ ∀ (i : Nat) (c' : List C), l'[i]? = some c' → ∃ c, l[i]? = some c ∧ NilL c c'
  | [], [], _ => ⟨rfl, fun i c h => by simp at h⟩
  | [], _ :: _, h => h.elim
  | _ :: _, [], h => h.elim
  | c :: l, c' :: l', h => ⟨by simp [(NilLL.get h.2).1], fun i x hi => by
      cases i with
      | zero =>
        simp only [List.getElem?_cons_zero, Option.some.injEq] at hi
        subst hi
        exact ⟨c, rfl, h.1⟩
      | succ i => simpa using (NilLL.get h.2).2 i x (by simpa using hi)⟩
theorem NilL.len : ∀ {l l' : List C}, NilL l l' → l'.length = l.length
  | [], [], _ => rfl
  | [], _ :: _, h => h.elim
  | _ :: _, [], h => h.elim
  | c :: l, c' :: l', h => by simp [NilL.len h.2]
def lens (k : Nat) : List (List C) → Bool
  | [] => true
  | e :: r => Nat.beq e.length k && lens k r
theorem lens_mem {k : Nat} : ∀ {l : List (List C)}, lens k l = true → ∀ e ∈ l, e.length = k
  | [], _, e, h => by simp at h
  | a :: l, h, e, he => by
    simp only [lens, Bool.and_eq_true] at h
    simp only [List.mem_cons] at he
    rcases he with rfl | he
    · exact Nat.eq_of_beq_eq_true h.1
    · exact lens_mem h.2 e he
section
variable {P : Program} {σ0 : Store} {sz : Nat} {Q : Post} {env env' : Env} {σv σ' : Store} {ops : Array Oper} {rest : List Oper} {dst : Option Nat} {ty : TypeId} {pos : String} {after : Array Edge}
theorem S.lit {α : Type} {f : α → List I} {l : List α} {t e : TypeId} {id : Id} {k bytes n : Nat} {z : Value} {zc : List C} {parts : List (Nat × Operand)} {ps : List (Nat × T)} {ess : List (List C)} [ht : TyD P t (.slice e)] [hs : TyS P e k bytes z] [hz : TyZ P e zc]
    (hl : Nat.beq zc.length k = true) (hkp : Nat.blt 0 k = true) (hsm : Nat.ble (n * k) 16777216 = true) (hps : evP env parts = some ps) (hf : fillC (fun i => some (i * k, k)) (List.replicate n zc).flatten ps = some ess.flatten) (hlen : lens k ess = true) (hn : Nat.beq ess.length n = true)
    (hnil : NilLL ess ((l.map f).map (·.map .imm))) (hid : newF σv = some id) (hσ : snocF σv (.one (vec k f l)) = some σ') (hd : dstOk sz dst = true)
    (h : AOps P σ0 sz ops Q rest (St.mk (putE env dst (.c (.own id 0 l.length))) σ')) : AOps P σ0 sz ops Q (⟨dst, .buildSlice t n parts.toArray, ty, pos, after, none⟩ :: rest) (St.mk env σv) := by
  have g1 := newF_eq hid; have g2 := snocF_eq hσ
  subst g1 g2
  have hl' : zc.length = k := Nat.eq_of_beq_eq_true hl
  have hk0 : 0 < k := by simpa using hkp
  have hn' : ess.length = n := Nat.eq_of_beq_eq_true hn
  have hsm' : ¬ (16777216 < n * k) := by have : n * k ≤ 16777216 := Nat.le_of_ble_eq_true hsm
                                         omega
  have hle := lens_mem hlen
  obtain ⟨nl1, nl2⟩ := hnil.get
  have hll : l.length = n := by simpa [hn'] using nl1
  have main : AOps P σ0 sz ops Q rest (St.mk (putE env dst (.c (.own (σv.length, []) 0 n))) (σv ++ [.one (.cells k ess)])) := by
    have hset : Store.put (σv ++ [.one (Blk.cells k ess)]) (σv.length, []) (some (.cells k ((l.map f).map (·.map .imm)))) = σv ++ [.one (vec k f l)] := Store.put_last _ _ σv
    have hsub := Sub.blk (σ0 := σ0) (env := putE env dst (.c (.own (σv.length, []) 0 n))) (σv := σv ++ [.one (Blk.cells k ess)]) (id := (σv.length, [])) (k := k) (es := ess) (es' := (l.map f).map (·.map .imm)) (Store.get_last _ _) nl1
      (fun j e he => by
        obtain ⟨c, hc, hh⟩ := nl2 j e he
        rw [hh.len, hle c (List.mem_of_getElem? hc)]) (fun j e o x he hx => by
        obtain ⟨c, hc, hh⟩ := nl2 j e he
        have hh' : ∀ w φ σ A, _ := fun w φ σ A => (NilL.get (w := w) (φ := φ) (σ := σ) (A := A) hh).2 o x hx
        have ho : o < c.length := by rw [← hh.len]; exact (List.getElem?_eq_some_iff.1 hx).1
        refine ⟨c, c[o], hc, List.getElem?_eq_getElem ho, fun w φ σ A u hu => ?_⟩
        obtain ⟨c0, h1, h2⟩ := hh' w φ σ A
        rw [List.getElem?_eq_getElem ho] at h1
        cases h1
        exact h2 u hu)
    rw [hset] at hsub
    rw [hll] at h
    exact AOps.sub hsub h
  refine AOps.valueW rfl hd (.c (.own (σv.length, []) 0 n)) (σv ++ [.one (.cells k ess)]) (fun Γ φ a w hR => ?_) (by cases dst <;> exact main)
  obtain ⟨e1, e2⟩ := evP_rel hR hps
  obtain ⟨size', bytes', z', v, hs', k1, k2⟩ := hz.h
  have hzz : z' = z := by
    obtain ⟨i, a1, _, _, a4⟩ := hs.h
    obtain ⟨i', b1, _, _, b4⟩ := hs'.h
    rw [a1] at b1; cases b1
    rw [a4] at b4; cases b4; rfl
  subst hzz
  obtain ⟨zr1, zr2⟩ := cellsT_rel (w := w) (φ := φ) (σ := σv) (A := Al Γ.N φ σv) (constT_rel k1) k2
  have hbase : ∀ base, base = (Array.range (n * k)).map (fun i => (if n * k = 0 then (#[] : Array Value) else z'.cells)[i % (if n * k = 0 then (#[] : Array Value) else z'.cells).size]!) → RelL w φ σv (Al Γ.N φ σv) (List.replicate n zc).flatten base := by
    rintro base rfl
    refine ⟨by simp [hl'], fun i c hi => ?_⟩
    have hin : i < n * k := by
      have := (List.getElem?_eq_some_iff.1 hi).1
      simpa [hl'] using this
    have hne : ¬ n * k = 0 := by omega
    rw [zrep_get (by omega) n i (by rw [hl']; exact hin), hl'] at hi
    obtain ⟨u, hu, hr⟩ := zr2 _ c hi
    refine ⟨u, ?_, hr⟩
    have hzs : z'.cells.size = k := by rw [zr1, hl']
    have hlt : i % k < z'.cells.size := by rw [hzs]; exact Nat.mod_lt _ hk0
    simp only [if_neg hne, Array.getElem?_map, Array.getElem?_range, hzs, hin, if_true, Option.map_some]
    rw [Array.getElem?_eq_getElem hlt] at hu
    simp [getElem!_pos, hlt, Option.some.inj hu]
  obtain ⟨arr', f1, f2⟩ := fill_rel (w := w) e1 e2 (hbase _ rfl) hf
  have hfl : ess.flatten.length = n * k := by
    rw [List.length_flatten]
    have : ess.map List.length = List.replicate n k := by
      rw [← hn']
      apply List.ext_getElem?
      intro i
      rw [List.getElem?_map, List.getElem?_replicate]
      by_cases hi : i < ess.length
      · rw [if_pos hi, List.getElem?_eq_getElem hi]
        simp only [Option.map_some]
        rw [hle _ (List.getElem_mem hi)]
      · rw [if_neg hi, List.getElem?_eq_none (by omega)]; rfl
    rw [this, List.sum_replicate_nat]
  have hA := Rs.alloc (k := k) (es := ess) (arr := arr') (ety := e) hR.toRs (fun j e he => hle e (List.mem_of_getElem? he)) (by rw [f2.1, hfl, hn']; exact Nat.le_refl _) (fun j e o x he hx => f2.2 _ x (flat_get hle j e o x he hx))
  have hnm : n ≤ maxLen := by
    have : n * 1 ≤ n * k := Nat.mul_le_mul_left _ hk0
    simp only [maxLen]; omega
  have hnle : 0 + n ≤ ess.length := by omega
  refine ⟨.slice (some ⟨w.heap.size, 0, none⟩) n n, _, _, ?_, cellOwn (k := k) (es := ess) (Store.get_last _ _) rfl (.inr ⟨w.heap.size, 0, n, arr', e, ⟨w.heap.size, 0, none⟩, by simp [phiNew], rfl, fun _ => by simp, Nat.le_refl _, hnm, hnle, heap_alloc_new w _, by rw [f2.1, hfl]; simp⟩), hR.of hA.1 hA.2⟩
  have e3 : (execOp a.eval ⟨dst, .buildSlice t n parts.toArray, ty, pos, after, none⟩).run P w = ((Instr.buildSlice t n (parts.map fun p => (p.1, a.eval p.2)).toArray).run P w).andThen fun v w => .ok (.value v) w := by
    simp [execOp]
  rw [e3]
  by_cases h0 : n * k = 0
  · simp only [h0, if_true] at f1
    simp [Instr.buildSlice, run_underlying ht.h, run_sizeOf (t := e), h0, newRow]
    simp at f1
    rw [f1]
    simp
  · simp only [if_neg h0] at f1
    have hz2 : (zeroValue e).run P w = .ok z' w := run_zero (t := e) w
    simp [Instr.buildSlice, run_underlying ht.h, run_sizeOf (t := e), hz2, h0, hsm', newRow]
    try simp at f1
    rw [f1]
    simp
end
end Ab
end
section
namespace Ab
open Go
section
variable {α : Type}
/-- What stands in the root's cells: the rows below it. -/
def hdr (id : Id) (M : List (List α)) : List (List C) := M.mapIdx fun p row => [.own (id.1, id.2 ++ [p]) 0 row.length]
/-- A root with its rows. -/
def mat (id : Id) (k : Nat) (f : α → List I) (M : List (List α)) : Ent := .node (some (.cells 1 (hdr id M))) (M.map fun row => .one (vec k f row))
theorem hdr_some {id : Id} {M : List (List α)} {p : Nat} {e : List C} (h : (hdr id M)[p]? = some e) : ∃ row, M[p]? = some row ∧ e = [.own (id.1, id.2 ++ [p]) 0 row.length] := by
  simp only [hdr, List.getElem?_mapIdx, Option.map_eq_some_iff] at h
  obtain ⟨row, h1, h2⟩ := h
  exact ⟨row, h1, h2.symm⟩
@[simp] theorem hdr_length (id : Id) (M : List (List α)) : (hdr id M).length = M.length := by simp [hdr]
theorem mat_row {id : Id} {k : Nat} {f : α → List I} {M : List (List α)} {p : Nat} {q : List Nat} : (mat id k f M).sub (p :: q) = match M[p]? with | some row => (match q with | [] => some (vec k f row) | _ :: _ => none) | none => none := by
  simp only [mat, Ent.sub, List.getElem?_map]
  cases M[p]? with
  | none => rfl
  | some row => cases q <;> rfl
end
/-- The entry of a root. -/
theorem ent_at {σ : Store} {r : Nat} {e : Ent} (h : σ[r]? = some e) (p : List Nat) : σ[((r, p) : Id)]? = some (e.sub p) := by
  rw [Store.at_eq]; simp only [Store.at, h]
section
variable {P : Program} {σ0 : Store} {sz : Nat} {Q : Post} {env env' : Env} {σv σ' : Store} {ops : Array Oper} {rest : List Oper} {dst : Option Nat} {ty : TypeId} {pos : String} {after : Array Edge}
variable {α : Type} {f : α → List I} {M : List (List α)} {k r : Nat}
/-! ### Reading -/
/-! ### A row written -/
/-! ### Appended to a row -/
/-! ### A row made anew takes its place -/
theorem vec_ok {n : Nat} {β : Type} {g : β → List I} {l : List β} {k : Nat} : (vec k g l).ok n = true := Blk.im_ok _ _ _
theorem hdr_ok {n : Nat} (hr : r < n) (M : List (List α)) : (Blk.cells 1 (hdr (r, []) M)).ok n = true := by
  simp only [Blk.ok, List.all_eq_true]
  intro e he
  obtain ⟨j, hj⟩ := List.getElem?_of_mem he
  obtain ⟨row, _, rfl⟩ := hdr_some hj
  simp [C.okL, C.ok, hr]
/-- What a root's rows are, behind the change of row p. -/
structure MatAt (σ : Store) (r k : Nat) (f : α → List I) (M : List (List α)) (p : Nat) (n : Id) (m : Nat) : Prop where
  main : σ[((r, []) : Id)]? = some (some (.cells 1 ((hdr (r, []) M).set p [.own n 0 m])))
  rows : ∀ (q : Nat) (row : List α), q ≠ p → M[q]? = some row → σ[((r, [q]) : Id)]? = some (some (vec k f row))
/-! ### Made -/
/-! ### The whole ceases to change -/
/-- The blocks of the other roots do not speak of the rows below root r. -/
def RowlessS (r : Nat) (σ : Store) : Prop := ∀ (i : Id) (b : Blk), i.1 ≠ r → σ[i]? = some (some b) → ∀ q, b.no (r, [q]) = true
end
end Ab
end
section
namespace Ab
open Go
/-- Go's >>. -/
def shrW (k : IntKind) (a b : Int) : Int := a.fdiv (2 ^ (min b.toNat k.bits))
section
variable {α : Type}
theorem mat_sub {r k : Nat} {f : α → List I} {M : List (List α)} {p : List Nat} {b : Blk} (h : (mat (r, []) k f M).sub p = some b) : (p = [] ∧ b = .cells 1 (hdr (r, []) M)) ∨ (∃ q row, p = [q] ∧ M[q]? = some row ∧ b = vec k f row) := by
  cases p with
  | nil => cases h; exact .inl ⟨rfl, rfl⟩
  | cons a q =>
    rw [mat_row] at h
    split at h
    · rename_i row hr
      cases q with
      | nil => cases h; exact .inr ⟨a, row, rfl, hr, rfl⟩
      | cons => cases h
    · cases h
theorem hdr_no {r : Nat} {M : List (List α)} {id : Id} (h : id.1 ≠ r) : (Blk.cells 1 (hdr (r, []) M)).no id = true := by
  simp only [Blk.no, List.all_eq_true]
  intro e he
  obtain ⟨j, hj⟩ := List.getElem?_of_mem he
  obtain ⟨row, _, rfl⟩ := hdr_some hj
  have : idb (r, [j]) id = false := idb_ne (fun e => h (by rw [← e]))
  simp [C.noL, C.no, this]
theorem EntOk.mat {n r k : Nat} {f : α → List I} {M : List (List α)} (h : Nat.blt r n = true) : EntOk n (mat (r, []) k f M) := by
  have hr : r < n := by simp [Nat.blt] at h; omega
  intro p b hb
  rcases mat_sub hb with ⟨rfl, rfl⟩ | ⟨q, row, rfl, _, rfl⟩
  · exact hdr_ok hr M
  · exact vec_ok
theorem FrzB.mat {r k : Nat} {f : α → List I} {M : List (List α)} {id : Id} {X : C → C → Prop} (h : Nat.beq id.1 r = false) : FrzB id X (mat (r, []) k f M) (mat (r, []) k f M) := by
  have hr : id.1 ≠ r := fun e => by simp [e] at h
  refine ⟨rfl, fun p b hb => ?_⟩
  rcases mat_sub hb with ⟨rfl, rfl⟩ | ⟨q, row, rfl, _, rfl⟩
  · exact hdr_no hr
  · exact Blk.im_no _ _ _
theorem EntMv.mat {r k m : Nat} {f : α → List I} {M : List (List α)} {id n : Id} {σ : Store} (h : Nat.beq id.1 r = false) (hr : Nat.blt r m = true) (hσ : σ[r]? = some (mat (r, []) k f M)) : EntMv id n σ m r (mat (r, []) k f M) := by
  have hne : id.1 ≠ r := fun e => by simp [e] at h
  have hlt : r < m := by simp [Nat.blt] at hr; omega
  intro p b hb
  have hm : mv id n (r, p) = (r, p) := by
    have : (r, p) ≠ id := fun e => hne (by rw [← e])
    simp [mv, idb_ne this]
  rw [hm, ent_at hσ, show (Ab.mat (r, []) k f M).sub p = some b from hb]
  rcases mat_sub hb with ⟨rfl, rfl⟩ | ⟨q, row, rfl, _, rfl⟩
  · exact ⟨hdr_ok hlt M, by rw [Blk.ren_no _ (hdr_no hne)]⟩
  · exact ⟨vec_ok, by rw [Blk.im_ren]⟩
end
section
variable {P : Program} {σ0 : Store} {sz : Nat} {Q : Post} {env env' : Env} {σv σ' : Store} {ops : Array Oper} {rest : List Oper} {dst : Option Nat} {ty : TypeId} {pos : String} {after : Array Edge}
variable {α : Type} {f : α → List I} {M : List (List α)} {k r : Nat}
/-- What the entries of the other blocks must be for row p of root r to be put in its place. -/
inductive OthE (n r p : Nat) : Nat → Option Ent → Ent → Prop
  | self {a b} : OthE n r p r a b
  | dead {j a} : OthE n r p j a .dead
  | one {j b} (h1 : b.ok n = true) (h2 : b.no (r, [p]) = true) : OthE n r p j (some (.one b)) (.one b)
  | vec {j} {β : Type} {k : Nat} {g : β → List I} {l : List β} : OthE n r p j (some (.one (vec k g l))) (.one (vec k g l))
  | mat {j} {β : Type} {k : Nat} {g : β → List I} {l : List (List β)} (h1 : Nat.beq r j = false) (h2 : Nat.blt j n = true) : OthE n r p j (some (mat (j, []) k g l)) (mat (j, []) k g l)
def OthL (n r p : Nat) (σ : Store) : Nat → List Ent → Prop
  | _, [] => True
  | j, e :: l => OthE n r p j σ[j]? e ∧ OthL n r p σ (j + 1) l
theorem OthL.get {n r p : Nat} {σ : Store} : ∀ {j : Nat} {l : List Ent}, OthL n r p σ j l → ∀ i e, l[i]? = some e → OthE n r p (j + i) σ[j + i]? e
  | _, [], _, i, e, h => by simp at h
  | j, _ :: _, h, 0, e, he => by simp only [List.getElem?_cons_zero, Option.some.injEq] at he; subst he; exact h.1
  | j, _ :: l, h, i + 1, e, he => by
    have := OthL.get h.2 i e (by simpa using he)
    rwa [show j + 1 + i = j + (i + 1) by omega] at this
theorem OthL.all {n p : Nat} (h : OthL n r p σv 0 σ') (i : Id) (b : Blk) (hi : i.1 ≠ r) (hb : σ'[i]? = some (some b)) : σv[i]? = some (some b) ∧ b.ok n = true ∧ b.no (r, [p]) = true := by
  obtain ⟨j, q⟩ := i
  simp only at hi
  have hj : ∃ e, σ'[j]? = some e ∧ e.sub q = some b := by
    rw [Store.at_eq] at hb
    simp only [Store.at] at hb
    cases he : σ'[j]? with
    | none => simp [he] at hb
    | some e => rw [he] at hb; simp only [Option.some.injEq] at hb; exact ⟨e, rfl, hb⟩
  obtain ⟨e, he, heb⟩ := hj
  have g := OthL.get h j e he
  rw [Nat.zero_add] at g
  generalize ho : σv[j]? = o at g
  cases g with
  | self => exact absurd rfl hi
  | dead => cases q <;> cases heb
  | one h1 h2 =>
    rw [ent_at ho]
    cases q with
    | nil => cases heb; exact ⟨rfl, h1, h2⟩
    | cons => cases heb
  | vec =>
    rw [ent_at ho]
    cases q with
    | nil => cases heb; exact ⟨rfl, vec_ok, Blk.im_no _ _ _⟩
    | cons => cases heb
  | mat h1 h2 =>
    rw [ent_at ho, heb]
    have hlt : j < n := by simp [Nat.blt] at h2; omega
    have hne : r ≠ j := fun e => by simp [e] at h1
    rcases mat_sub heb with ⟨rfl, rfl⟩ | ⟨q', row, rfl, _, rfl⟩
    · exact ⟨rfl, hdr_ok hlt _, hdr_no (by simpa using hne)⟩
    · exact ⟨rfl, vec_ok, Blk.im_no _ _ _⟩
/-- The same for all rows of root r. -/
inductive RlE (r : Nat) : Nat → Ent → Prop
  | self {b} : RlE r r b
  | dead {j} : RlE r j .dead
  | one {j b} (h2 : ∀ p, b.no (r, [p]) = true) : RlE r j (.one b)
  | vec {j} {β : Type} {k : Nat} {g : β → List I} {l : List β} : RlE r j (.one (vec k g l))
  | mat {j} {β : Type} {k : Nat} {g : β → List I} {l : List (List β)} (h1 : Nat.beq r j = false) : RlE r j (mat (j, []) k g l)
def RlL (r : Nat) : Nat → List Ent → Prop
  | _, [] => True
  | j, e :: l => RlE r j e ∧ RlL r (j + 1) l
theorem RlL.get {r : Nat} : ∀ {j : Nat} {l : List Ent}, RlL r j l → ∀ i e, l[i]? = some e → RlE r (j + i) e
  | _, [], _, i, e, h => by simp at h
  | j, _ :: _, h, 0, e, he => by simp only [List.getElem?_cons_zero, Option.some.injEq] at he; subst he; exact h.1
  | j, _ :: l, h, i + 1, e, he => by
    have := RlL.get h.2 i e (by simpa using he)
    rwa [show j + 1 + i = j + (i + 1) by omega] at this
theorem RlL.all (h : RlL r 0 σv) : RowlessS r σv := by
  intro i b hi hb q
  obtain ⟨j, t⟩ := i
  simp only at hi
  have hj : ∃ e, σv[j]? = some e ∧ e.sub t = some b := by
    rw [Store.at_eq] at hb
    simp only [Store.at] at hb
    cases he : σv[j]? with
    | none => simp [he] at hb
    | some e => rw [he] at hb; simp only [Option.some.injEq] at hb; exact ⟨e, rfl, hb⟩
  obtain ⟨e, he, heb⟩ := hj
  have g := RlL.get h j e he
  rw [Nat.zero_add] at g
  cases g with
  | self => exact absurd rfl hi
  | dead => cases t <;> cases heb
  | one h2 => cases t with
    | nil => cases heb; exact h2 q
    | cons => cases heb
  | vec => cases t with
    | nil => cases heb; exact Blk.im_no _ _ _
    | cons => cases heb
  | mat h1 =>
    have hne : r ≠ j := fun e => by simp [e] at h1
    rcases mat_sub heb with ⟨rfl, rfl⟩ | ⟨q', row, rfl, _, rfl⟩
    · exact hdr_no (by simpa using hne)
    · exact Blk.im_no _ _ _
/-! ### Blocks that nothing speaks of are forgotten -/
inductive CutE (n : Nat) : Nat → Option Ent → Ent → Prop
  | dead {j a} : CutE n j a .dead
  | one {j b} (h1 : b.ok n = true) : CutE n j (some (.one b)) (.one b)
  | eq {j b b'} (h1 : b'.ok n = true) (h2 : b' = b) : CutE n j (some (.one b)) (.one b')
  | vec {j} {β : Type} {k : Nat} {g : β → List I} {l : List β} : CutE n j (some (.one (vec k g l))) (.one (vec k g l))
  | mat {j} {β : Type} {k : Nat} {g : β → List I} {l : List (List β)} (h2 : Nat.blt j n = true) : CutE n j (some (mat (j, []) k g l)) (mat (j, []) k g l)
def CutL (n : Nat) (σ : Store) : Nat → List Ent → Prop
  | _, [] => True
  | j, e :: l => CutE n j σ[j]? e ∧ CutL n σ (j + 1) l
theorem CutL.get {n : Nat} {σ : Store} : ∀ {j : Nat} {l : List Ent}, CutL n σ j l → ∀ i e, l[i]? = some e → CutE n (j + i) σ[j + i]? e
  | _, [], _, i, e, h => by simp at h
  | j, _ :: _, h, 0, e, he => by simp only [List.getElem?_cons_zero, Option.some.injEq] at he; subst he; exact h.1
  | j, _ :: l, h, i + 1, e, he => by
    have := CutL.get h.2 i e (by simpa using he)
    rwa [show j + 1 + i = j + (i + 1) by omega] at this
theorem Sub.cut (henv : SubEnv env env') (hl : Nat.ble σ0.length σ'.length = true) (h : CutL σ'.length σv 0 σ') (hok : envOk σ'.length env' = true) : Sub σ0 ⟨env, σv⟩ ⟨env', σ'⟩ := by
  refine Sub.mk (fun i => i) (fun i _ => rfl) (Nat.le_of_ble_eq_true hl) (fun i j b b' _ _ h => h) (fun i b hb => ?_) (fun t v ht => ⟨envOk_get hok t v ht, ?_⟩)
  · rw [Blk.ren_id]
    obtain ⟨j, q⟩ := i
    dsimp only at hb ⊢
    have hj : ∃ e, σ'[j]? = some e ∧ e.sub q = some b := by
      rw [Store.at_eq] at hb
      simp only [Store.at] at hb
      cases he : σ'[j]? with
      | none => simp [he] at hb
      | some e => rw [he] at hb; simp only [Option.some.injEq] at hb; exact ⟨e, rfl, hb⟩
    obtain ⟨e, he, heb⟩ := hj
    have g := CutL.get h j e he
    rw [Nat.zero_add] at g
    generalize ho : σv[j]? = o at g
    cases g with
    | dead => cases q <;> cases heb
    | one h1 =>
      rw [ent_at ho]
      cases q with
      | nil => cases heb; exact ⟨h1, rfl⟩
      | cons => cases heb
    | eq h1 h2 =>
      subst h2
      rw [ent_at ho]
      cases q with
      | nil => cases heb; exact ⟨h1, rfl⟩
      | cons => cases heb
    | vec =>
      rw [ent_at ho]
      cases q with
      | nil => cases heb; exact ⟨vec_ok, rfl⟩
      | cons => cases heb
    | mat h2 =>
      rw [ent_at ho, heb]
      have hlt : j < σ'.length := by simp [Nat.blt] at h2; omega
      rcases mat_sub heb with ⟨rfl, rfl⟩ | ⟨q', row, rfl, _, rfl⟩
      · exact ⟨hdr_ok hlt _, rfl⟩
      · exact ⟨vec_ok, rfl⟩
  · rw [T.ren_id]
    exact henv.get t v ht
end
end Ab
end
section
namespace Ab
open Go
section
variable {P : Program} {σ0 : Store} {sz : Nat} {Q : Post} {env : Env} {σv σ' : Store} {ops : Array Oper} {rest : List Oper} {dst : Option Nat} {ty : TypeId} {pos : String} {after : Array Edge}
end
end Ab
end
section
namespace Ab
open Go
section
variable {P : Program} {σ0 : Store} {sz : Nat} {Q : Post} {ops : List Oper} {base : Env}
theorem anc_closed {listed : Array Bool} (hsz : listed.size = ops.length) (hc : ∀ j p, ops[j]? = some p → listed.getD j false = true → ∀ x ∈ waits p, listed.getD x false = true) : ∀ (f e i : Nat) (o : Oper), ops[i]? = some o → (∀ x ∈ waits o, listed.getD x false = true) → anc ops f e i = true → listed.getD e false = true
  | 0, e, i, o, _, _, h => by simp [anc] at h
  | f + 1, e, i, o, ho, hw, h => by
    simp only [anc, ho, List.any_eq_true, Bool.or_eq_true] at h
    obtain ⟨x, hx, h | h⟩ := h
    · rw [← Nat.eq_of_beq_eq_true h]; exact hw x hx
    · have hl := hw x hx
      have hlt : x < ops.length := by
        rw [← hsz]
        rcases Nat.lt_or_ge x listed.size with g | g
        · exact g
        · simp [Array.getD, Nat.not_lt.2 g] at hl
      exact anc_closed hsz hc f e x _ (List.getElem?_eq_getElem hlt) (hc x _ (List.getElem?_eq_getElem hlt) hl) h
/-- What an environment may hold when operation i comes up: what was there, and what operations that do not wait for i have made. -/
def EOk (ops : List Oper) (V : List T) (base : Env) (i : Nat) (E : Env) : Prop := ∀ t v, lookup t E = some v → lookup t base = some v ∨ ∃ j, j ≠ i ∧ anc ops ops.length i j = false ∧ V[j]? = some v
theorem draw_anyS {V : List T} {Sg : Array Bool → Store → Prop} (hok : drawOk ops = true) (hV : V.length = ops.length)
    (each : ∀ (listed : Array Bool) (σ : Store) (i : Nat) (o : Oper) (v : T), listed.size = ops.length → Sg listed σ → (∀ E : Env, DInv ops V base listed E → True) → ops[i]? = some o → V[i]? = some v → listed.getD i false = false → (∀ x ∈ waits o, listed.getD x false = true) →
      (∀ j p, ops[j]? = some p → listed.getD j false = true → ∀ x ∈ waits p, listed.getD x false = true) → ∃ σ', Sg (listed.setIfInBounds i true) σ' ∧ ∀ E : Env, EOk ops V base i E → AOps P σ0 sz ops.toArray (Only (St.put ⟨envAt ops V base o ++ E, σ'⟩ o.dst v)) [o] ⟨envAt ops V base o ++ E, σ⟩)
    {Γ : Cx} (hΓ : Γ.σ0 = σ0) (hend : ∀ listed σ E φ a w, Sg listed σ → (∀ j, j < ops.length → listed.getD j false = true) → (∀ j t, dstAt ops j = some t → lookup t E = V[j]?) → (∀ t, (∀ j, dstAt ops j ≠ some t) → lookup t E = lookup t base) → R Γ sz ⟨E, σ⟩ φ a w → lift Γ sz Q .normal a w) :
    ∀ (fuel : Nat) (listed : Array Bool) (σ : Store) (E : Env) (φ : Phi) (a : Act) (w : World), listed.size = ops.length → Sg listed σ → DInv ops V base listed E → R Γ sz ⟨E, σ⟩ φ a w → (ops.length ≤ fuel + (listed.toList.filter (fun b => b)).length) →
      wpAny P .any ops.toArray (lift Γ sz Q) fuel listed a w := by
  have finish : ∀ (listed : Array Bool) (σ : Store) (E : Env) (φ : Phi) (a : Act) (w : World), listed.size = ops.length → Sg listed σ → DInv ops V base listed E → R Γ sz ⟨E, σ⟩ φ a w → Region.ready .any ops.toArray listed = [] → lift Γ sz Q .normal a w := by
    intro listed σ E φ a w hsz hSg hI hR hr
    -- all have run: the least that has not would be ready
    have all : ∀ n j, j < n → j < ops.length → listed.getD j false = true := by
      intro n
      induction n with
      | zero => intro j hj; omega
      | succ n ih =>
        intro j hj hjl
        by_cases hb : listed.getD j false = true
        · exact hb
        · have : j ∈ Region.ready .any ops.toArray listed := by
            rw [mem_ready]
            refine ⟨?_, ops[j], by simp [hjl], fun e he hbi => ?_⟩
            · have : j < listed.size := by omega
              simpa [this] using hb
            · have hw : e.on ∈ waits ops[j] := by
                simp only [waits, List.mem_map, List.mem_filter]
                exact ⟨e, ⟨by simpa using he, hbi⟩, rfl⟩
              have hlt := (drawOk_spec hok (List.getElem?_eq_getElem hjl)).1 _ hw
              exact ih e.on (by omega) (by omega)
          rw [hr] at this; cases this
    refine hend listed σ E φ a w hSg (fun j hj => all (j + 1) j (by omega) hj) (fun j t hd => ?_) (fun t ht => hI.rest t fun j hj => ht j) hR
    have hjl : j < ops.length := by
      unfold dstAt at hd
      cases ho : ops[j]? with
      | none => rw [ho] at hd; cases hd
      | some o => exact (List.getElem?_eq_some_iff.1 ho).1
    exact hI.ran j t (all (j + 1) j (by omega) hjl) hd
  intro fuel
  induction fuel with
  | zero =>
    intro listed σ E φ a w hsz hSg hI hR hf
    have hr : Region.ready .any ops.toArray listed = [] := by
      rw [List.eq_nil_iff_forall_not_mem]
      intro j hj
      rw [mem_ready] at hj
      obtain ⟨h0, o, ho, _⟩ := hj
      have hjl : j < ops.length := by simpa using (Array.getElem?_eq_some_iff.1 ho).1
      have hlt : (listed.toList.filter (fun b => b)).length < listed.toList.length := by
        apply List.length_filter_lt_length_iff_exists.2
        refine ⟨false, ?_, by simp⟩
        have : j < listed.size := by omega
        simp [this] at h0
        rw [← h0]
        simp
      simp at hlt
      omega
    exact ⟨hr, finish listed σ E φ a w hsz hSg hI hR hr⟩
  | succ fuel ih =>
    intro listed σ E φ a w hsz hSg hI hR hf
    refine ⟨finish listed σ E φ a w hsz hSg hI hR, fun i hi => ?_⟩
    rw [mem_ready] at hi
    obtain ⟨h0, o, ho, hw⟩ := hi
    have ho' : ops[i]? = some o := by simpa using ho
    have hil : i < ops.length := (List.getElem?_eq_some_iff.1 ho').1
    have hn : listed.getD i false = false := by
      have : i < listed.size := by omega
      simpa [this] using h0
    have hwl : ∀ e ∈ waits o, listed.getD e false = true := fun e he => by
      simp only [waits, List.mem_map, List.mem_filter] at he
      obtain ⟨ed, ⟨h1, h2⟩, rfl⟩ := he
      exact hw ed (by simpa using h1) h2
    have hvi : V[i]? = some V[i] := List.getElem?_eq_getElem (by omega)
    obtain ⟨σ', hSg', hop⟩ := each listed σ i o _ hsz hSg (fun _ _ => trivial) ho' hvi hn hwl hI.closed
    have hop := hop E fun t v ht => by
      by_cases hx : ∃ j, listed.getD j false = true ∧ dstAt ops j = some t
      · obtain ⟨j, hj, hd⟩ := hx
        have hjl := hI.lt j hj
        refine .inr ⟨j, fun e => (by subst e; rw [hn] at hj; cases hj), ?_, by rw [← hI.ran j t hj hd]; exact ht⟩
        cases hb : anc ops ops.length i j with
        | false => rfl
        | true =>
          have := anc_closed hsz hI.closed _ i j _ (List.getElem?_eq_getElem hjl) (hI.closed j _ (List.getElem?_eq_getElem hjl) hj) hb
          rw [hn] at this; cases this
      · exact .inl (by rw [← hI.rest t fun j hj hd => hx ⟨j, hj, hd⟩]; exact ht)
    have hR' : R Γ sz ⟨envAt ops V base o ++ E, σ⟩ φ a w := { toRs := hR.toRs, defers := hR.defers, asize := hR.asize, env := fun t v ht => hR.env t v (hI.env hok ho' hn hwl t v ht) }
    have hrun := hop Γ φ a w hΓ hR'
    have next : ∀ a' w', lift Γ sz (Only (St.put ⟨envAt ops V base o ++ E, σ'⟩ o.dst V[i])) .normal a' w' → wpAny P .any ops.toArray (lift Γ sz Q) fuel (listed.setIfInBounds i true) a' w' := by
      rintro a' w' ⟨s', φ', ⟨_, rfl⟩, hRn⟩
      have look : ∀ t, o.dst ≠ some t → ∀ v, lookup t (St.put ⟨envAt ops V base o ++ E, σ'⟩ o.dst V[i]).env = some v → lookup t E = some v := fun t ht v hv => by
        cases hd : o.dst with
        | none => rw [hd] at hv; exact hI.env hok ho' hn hwl t v hv
        | some d =>
          rw [hd] at hv ht
          simp only [St.put, putE, lookup] at hv
          have : Nat.beq d t = false := beq_ne fun e : d = t => ht (by rw [e])
          rw [this] at hv
          exact hI.env hok ho' hn hwl t v hv
      -- an environment with exactly the lookups wanted
      have hRE : R Γ sz ⟨(St.put ⟨E, σ'⟩ o.dst V[i]).env, σ'⟩ φ' a' w' := by
        refine { toRs := ?_, defers := hRn.defers, asize := hRn.asize, env := fun t v ht => ?_ }
        · have := hRn.toRs
          cases hd : o.dst <;> simpa [hd, St.put, putE] using this
        · have hσ : (St.put ⟨envAt ops V base o ++ E, σ'⟩ o.dst V[i]).σ = σ' := by cases o.dst <;> rfl
          have := hRn.env t v (by
            cases hd : o.dst with
            | none =>
              rw [hd] at ht
              simp only [St.put, putE] at ht ⊢
              rw [lookup_append]
              cases hx : lookup t (envAt ops V base o) with
              | none => exact ht
              | some x =>
                have := hI.env hok ho' hn hwl t x (by rw [lookup_append, hx])
                rw [ht] at this
                exact this.symm
            | some d =>
              rw [hd] at ht
              simp only [St.put, putE, lookup] at ht ⊢
              split at ht
              · exact ht
              · rw [lookup_append]
                cases hx : lookup t (envAt ops V base o) with
                | none => exact ht
                | some x =>
                  have := hI.env hok ho' hn hwl t x (by rw [lookup_append, hx])
                  rw [ht] at this
                  exact this.symm)
          rw [hσ] at this
          exact this
      have lset : ∀ j, (listed.setIfInBounds i true).getD j false = true ↔ j = i ∨ listed.getD j false = true := fun j => by
        by_cases hj : i = j
        · subst hj
          have : i < listed.size := by omega
          simp [this]
        · simp [Array.getElem?_setIfInBounds_ne hj, Ne.symm hj]
      refine ih (listed.setIfInBounds i true) σ' _ φ' a' w' (by simpa using hsz) hSg' ⟨fun j hj => ?_, fun j p hp hj e he => ?_, fun j t hj hd => ?_, fun t ht => ?_⟩ hRE ?_
      · rcases (lset j).1 hj with rfl | h
        · exact hil
        · exact hI.lt j h
      · rcases (lset j).1 hj with rfl | h
        · rw [ho'] at hp; cases hp
          exact (lset e).2 (.inr (hwl e he))
        · exact (lset e).2 (.inr (hI.closed j p hp h e he))
      · rcases (lset j).1 hj with rfl | h
        · have hd' : o.dst = some t := by simpa [dstAt, ho'] using hd
          simp [hd', St.put, putE, lookup, hvi]
        · have hne : o.dst ≠ some t := by
            have hlt := hI.lt j h
            obtain ⟨p, hp⟩ : ∃ p, ops[j]? = some p := ⟨_, List.getElem?_eq_getElem hlt⟩
            have hpd : p.dst = some t := by simpa [dstAt, hp] using hd
            by_cases hij : i = j
            · subst hij; rw [hn] at h; cases h
            · exact ((drawOk_spec hok ho').2 j p t hp hij hpd).1
          rw [← hI.ran j t h hd]
          cases hd2 : o.dst with
          | none => rfl
          | some d =>
            have : Nat.beq d t = false := beq_ne fun e : d = t => hne (by rw [hd2, e])
            simp [St.put, putE, lookup, this]
      · have hne : o.dst ≠ some t := by
          have := ht i ((lset i).2 (.inl rfl))
          simpa [dstAt, ho'] using this
        rw [← hI.rest t fun j hj => ht j ((lset j).2 (.inr hj))]
        cases hd2 : o.dst with
        | none => rfl
        | some d =>
          have : Nat.beq d t = false := beq_ne fun e : d = t => hne (by rw [hd2, e])
          simp [St.put, putE, lookup, this]
      · have hcount : (listed.toList.filter (fun b => b)).length + 1 ≤ ((listed.setIfInBounds i true).toList.filter (fun b => b)).length := by
          rw [Array.toList_setIfInBounds]
          refine count_set ?_
          have : i < listed.size := by omega
          simp [this] at hn
          simp [this, hn]
        omega
    unfold wpOp
    rw [ho]
    simp only
    unfold wpList at hrun
    by_cases hwt : Region.wanted o (yielded ops.toArray a.tmps) = true
    · rw [if_pos hwt] at hrun ⊢
      rcases hrun with hrun | ⟨_, a0, w0, s0, φ0, ⟨he, _⟩, _⟩
      · refine .inl ?_
        unfold Oper.wp at hrun ⊢
        refine upon_mono (fun a' w' h => next a' w' h) (fun e a' w' hne h => ?_) hrun
        obtain ⟨s0, φ0, ⟨he, _⟩, _⟩ := h
        exact absurd he hne
      · cases he
    · rw [if_neg hwt] at hrun ⊢
      exact next _ _ hrun
/-- Can operation i come up when of the writing operations those in S have run? -/
def feasS (ops : List Oper) (effs S : List Nat) (i : Nat) : Bool :=
  !memN i S && (effs.all fun e => !anc ops ops.length e i || memN e S) && S.all fun e => !anc ops ops.length i e
/-- The store when those in S have run. -/
def tabAt (S : List Nat) : List (List Nat × Store) → Option Store
  | [] => none
  | (S', σ) :: r => match lbeq S' S with
    | true => some σ
    | false => tabAt S r
/-- What each operation does where those in S have run. -/
def EntOps (P : Program) (σ0 : Store) (sz : Nat) (ops : List Oper) (base : Env) (V : List T) (effs : List Nat) (tab : List (List Nat × Store)) (S : List Nat) (σ : Store) : List Oper → Nat → Prop
  | [], _ => True
  | o :: r, i => (feasS ops effs S i = true → ∀ v, V[i]? = some v → ∃ σ', (memN i effs = false → σ' = σ) ∧ (memN i effs = true → tabAt (effs.filter fun e => memN e S || Nat.beq e i) tab = some σ') ∧ ∀ E : Env, EOk ops V base i E → AOps P σ0 sz ops.toArray (Only (St.put ⟨envAt ops V base o ++ E, σ'⟩ o.dst v)) [o] ⟨envAt ops V base o ++ E, σ⟩) ∧
    EntOps P σ0 sz ops base V effs tab S σ r (i + 1)
def TabOk (P : Program) (σ0 : Store) (sz : Nat) (ops : List Oper) (base : Env) (V : List T) (effs : List Nat) (tab : List (List Nat × Store)) : List (List Nat × Store) → Prop
  | [] => True
  | (S, σ) :: r => EntOps P σ0 sz ops base V effs tab S σ ops 0 ∧ TabOk P σ0 sz ops base V effs tab r
theorem EntOps.get {V : List T} {effs : List Nat} {tab : List (List Nat × Store)} {S : List Nat} {σ : Store} : ∀ {r : List Oper} {i0 : Nat}, EntOps P σ0 sz ops base V effs tab S σ r i0 → ∀ i o, r[i]? = some o → feasS ops effs S (i0 + i) = true → ∀ v, V[i0 + i]? = some v →
    ∃ σ', (memN (i0 + i) effs = false → σ' = σ) ∧ (memN (i0 + i) effs = true → tabAt (effs.filter fun e => memN e S || Nat.beq e (i0 + i)) tab = some σ') ∧ ∀ E : Env, EOk ops V base (i0 + i) E → AOps P σ0 sz ops.toArray (Only (St.put ⟨envAt ops V base o ++ E, σ'⟩ o.dst v)) [o] ⟨envAt ops V base o ++ E, σ⟩
  | [], _, _, i, o, h => by simp at h
  | _ :: _, i0, h, 0, o, ho => by cases ho; exact h.1
  | _ :: r, i0, h, i + 1, o, ho => by
    have := EntOps.get h.2 i o (by simpa using ho)
    rwa [show i0 + 1 + i = i0 + (i + 1) by omega] at this
theorem lbeq_eq {a b : List Nat} (h : lbeq a b = true) : a = b := by
  have := @idb_iff (0, a) (0, b)
  have h2 : idb (0, a) (0, b) = true := by simp [idb, h]
  exact (Prod.mk.inj (this.1 h2)).2
theorem TabOk.get {V : List T} {effs : List Nat} {tab : List (List Nat × Store)} : ∀ {r : List (List Nat × Store)}, TabOk P σ0 sz ops base V effs tab r → ∀ S σ, tabAt S r = some σ → EntOps P σ0 sz ops base V effs tab S σ ops 0
  | [], _, S, σ, h => by cases h
  | (S', σ') :: r, h, S, σ, hS => by
    simp only [tabAt] at hS
    split at hS
    · rename_i he
      cases hS
      rw [← lbeq_eq he]; exact h.1
    · exact TabOk.get h.2 S σ hS
theorem memN_false {n : Nat} {l : List Nat} (h : n ∉ l) : memN n l = false := by
  cases hb : memN n l with
  | false => rfl
  | true => exact absurd ((memN_iff n l).1 hb) h
/-- A region that draws and writes, by a table of its stores. -/
theorem AWP.drawT {id : Nat} {s : St} (V : List T) (effs : List Nat) (tab : List (List Nat × Store)) (σe : Store) (hm : P.follows .mixedOrders = true) (hok : drawOk ops = true) (hV : V.length = ops.length) (heff : (effs.all fun e => Nat.blt e ops.length) = true)
    (htab : TabOk P σ0 sz ops s.env V effs tab tab) (h0 : tabAt [] tab = some s.σ) (he : tabAt effs tab = some σe) (hQ : Q .normal ⟨envEnd ops V s.env, σe⟩) : AWP P σ0 sz (.region id ops.toArray true) Q s := fun Γ φ a w hΓ hR => by
  have hdist : ∀ (i j : Nat) (o p : Oper) (t : Nat), ops[i]? = some o → ops[j]? = some p → i ≠ j → p.dst = some t → o.dst ≠ some t := fun i j o p t hi hj hij ht => ((drawOk_spec hok hi).2 j p t hj hij ht).1
  obtain ⟨e1, e2⟩ := envEnd_look ops V s.env hV hdist
  refine wp_region_any hm ?_
  rw [List.size_toArray]
  refine draw_anyS (V := V) (base := s.env) (Sg := fun listed σ => tabAt (effs.filter fun e => listed.getD e false) tab = some σ) hok hV (fun listed σ i o v hsz hSg _ ho hv hn hw hc => ?_) hΓ (fun listed σ E φ a w hSg hall h1 h2 hR => ?_) ops.length (Array.replicate ops.length false) s.σ s.env φ a _ (by simp) ?_ ⟨fun j hj => ?_, fun j p hp hj => ?_, fun j t hj => ?_, fun t _ => rfl⟩ ?_ (by simp)
  · have hil : i < listed.size := by rw [hsz]; exact (List.getElem?_eq_some_iff.1 ho).1
    have hmem : ∀ e, e ∈ effs → memN e (effs.filter fun e => listed.getD e false) = listed.getD e false := fun e hee => by
      cases hb : listed.getD e false with
      | true => exact (memN_iff e _).2 (List.mem_filter.2 ⟨hee, hb⟩)
      | false => exact memN_false fun h => by rw [(List.mem_filter.1 h).2] at hb; cases hb
    have hfe : feasS ops effs (effs.filter fun e => listed.getD e false) i = true := by
      unfold feasS
      simp only [Bool.and_eq_true, List.all_eq_true, Bool.not_eq_true', Bool.or_eq_true]
      refine ⟨⟨memN_false (fun h => by rw [(List.mem_filter.1 h).2] at hn; cases hn), fun e hee => ?_⟩, fun e hee => ?_⟩
      · cases hb : anc ops ops.length e i with
        | false => exact .inl rfl
        | true => right; rw [hmem e hee]; exact anc_closed hsz hc _ e i o ho hw hb
      · cases hb : anc ops ops.length i e with
        | false => rfl
        | true =>
          have hel := (List.mem_filter.1 hee).2
          have hlt : e < ops.length := by
            have := List.all_eq_true.1 heff e (List.mem_filter.1 hee).1
            simpa using this
          have := anc_closed hsz hc _ i e _ (List.getElem?_eq_getElem hlt) (hc e _ (List.getElem?_eq_getElem hlt) hel) hb
          rw [hn] at this; cases this
    obtain ⟨σ', k1, k2, k3⟩ := (htab.get _ σ hSg).get i o ho (by rw [Nat.zero_add]; exact hfe) v (by rw [Nat.zero_add]; exact hv)
    rw [Nat.zero_add] at k1 k2 k3
    refine ⟨σ', ?_, k3⟩
    have lset : ∀ e, (listed.setIfInBounds i true).getD e false = (listed.getD e false || Nat.beq e i) := fun e => by
      by_cases hj : i = e
      · subst hj; simp [hil]
      · have hb : Nat.beq e i = false := beq_ne fun h => hj h.symm
        rw [hb, Bool.or_false]
        simp [Array.getElem?_setIfInBounds_ne hj]
    cases hmi : memN i effs with
    | true =>
      have := k2 hmi
      rw [← this]
      congr 1
      refine List.filter_congr fun e hee => ?_
      rw [lset, hmem e hee]
    | false =>
      rw [k1 hmi, ← hSg]
      congr 1
      refine List.filter_congr fun e hee => ?_
      rw [lset]
      have : Nat.beq e i = false := beq_ne fun h => by subst h; rw [(memN_iff e effs).2 hee] at hmi; cases hmi
      rw [this, Bool.or_false]
  · have hfull : (effs.filter fun e => listed.getD e false) = effs := List.filter_eq_self.2 fun e hee => hall e (by have := List.all_eq_true.1 heff e hee; simpa using this)
    rw [hfull, he] at hSg
    cases hSg
    refine ⟨⟨envEnd ops V s.env, σe⟩, φ, hQ, { toRs := hR.toRs, defers := hR.defers, asize := hR.asize, env := fun t v ht => hR.env t v ?_ }⟩
    rw [← ht]
    by_cases hx : ∃ j, dstAt ops j = some t
    · obtain ⟨j, hj⟩ := hx
      exact (h1 j t hj).trans (e1 j t hj).symm
    · have hn : ∀ j, dstAt ops j ≠ some t := fun j hj => hx ⟨j, hj⟩
      exact (h2 t hn).trans (e2 t hn).symm
  · have : (effs.filter fun e => (Array.replicate ops.length false).getD e false) = [] := List.filter_eq_nil_iff.2 fun e _ => by
      simp [Array.getElem?_replicate]
      split <;> rfl
    rw [this]; exact h0
  · simp [Array.getElem?_replicate] at hj
    split at hj <;> simp at hj
  · simp [Array.getElem?_replicate] at hj
    split at hj <;> simp at hj
  · simp [Array.getElem?_replicate] at hj
    split at hj <;> simp at hj
  · exact { toRs := hR.toRs.drew, defers := hR.defers, asize := hR.asize, env := fun t v ht => let ⟨u, hu, hr⟩ := hR.env t v ht; ⟨u, hu, hr.mono (Kept.drew w φ s.σ _)⟩ }
theorem AWP.drawTI {id : Nat} {env : Env} {σv : Store} (V : List T) (effs : List Nat) (tab : List (List Nat × Store)) (σe : Store) (hm : P.follows .mixedOrders = true) (hok : drawOk ops = true) (hV : V.length = ops.length) (heff : (effs.all fun e => Nat.blt e ops.length) = true)
    (h0 : tabAt [] tab = some σv) (he : tabAt effs tab = some σe) (htab : TabOk P σ0 sz ops env V effs tab tab) (hQ : Q .normal (St.mk (envEnd ops V env) σe)) : AWP P σ0 sz (.region id ops.toArray true) Q (St.mk env σv) := .drawT V effs tab σe hm hok hV heff htab h0 he hQ
theorem TabOk.nil {V : List T} {effs : List Nat} {tab : List (List Nat × Store)} : TabOk P σ0 sz ops base V effs tab [] := trivial
theorem TabOk.cons {V : List T} {effs : List Nat} {tab r : List (List Nat × Store)} {S : List Nat} {σ : Store} (h1 : EntOps P σ0 sz ops base V effs tab S σ ops 0) (h2 : TabOk P σ0 sz ops base V effs tab r) : TabOk P σ0 sz ops base V effs tab ((S, σ) :: r) := ⟨h1, h2⟩
theorem EntOps.nil {V : List T} {effs : List Nat} {tab : List (List Nat × Store)} {S : List Nat} {σ : Store} {i : Nat} : EntOps P σ0 sz ops base V effs tab S σ [] i := trivial
theorem EntOps.no {V : List T} {effs : List Nat} {tab : List (List Nat × Store)} {S : List Nat} {σ : Store} {i : Nat} {o : Oper} {r : List Oper} (hf : feasS ops effs S i = false) (h : EntOps P σ0 sz ops base V effs tab S σ r (i + 1)) : EntOps P σ0 sz ops base V effs tab S σ (o :: r) i :=
  ⟨fun h' => (by rw [hf] at h'; cases h'), h⟩
theorem EntOps.go {V : List T} {effs : List Nat} {tab : List (List Nat × Store)} {S : List Nat} {σ : Store} {i : Nat} {o : Oper} {r : List Oper} {v : T} {e : Env} (hm : memN i effs = false) (hv : V[i]? = some v) (he : envF ops V base o = some e)
    (h1 : ∀ E : Env, EOk ops V base i E → AOps P σ0 sz ops.toArray (Only (St.mk (putE (e ++ E) o.dst v) σ)) [o] (St.mk (e ++ E) σ)) (h : EntOps P σ0 sz ops base V effs tab S σ r (i + 1)) : EntOps P σ0 sz ops base V effs tab S σ (o :: r) i := by
  have e1 : envAt ops V base o = e := envFT_eq he
  refine ⟨fun _ v' hv' => ?_, h⟩
  rw [hv] at hv'; cases hv'
  refine ⟨σ, fun _ => rfl, fun h' => (by rw [hm] at h'; cases h'), fun E hE => ?_⟩
  rw [e1]; exact h1 E hE
theorem EntOps.eff {V : List T} {effs : List Nat} {tab : List (List Nat × Store)} {S : List Nat} {σ σ' : Store} {i : Nat} {o : Oper} {r : List Oper} {v : T} {e : Env} (hm : memN i effs = true) (hv : V[i]? = some v) (ht : tabAt (effs.filter fun e => memN e S || Nat.beq e i) tab = some σ') (he : envF ops V base o = some e)
    (h1 : ∀ E : Env, EOk ops V base i E → AOps P σ0 sz ops.toArray (Only (St.mk (putE (e ++ E) o.dst v) σ')) [o] (St.mk (e ++ E) σ)) (h : EntOps P σ0 sz ops base V effs tab S σ r (i + 1)) : EntOps P σ0 sz ops base V effs tab S σ (o :: r) i := by
  have e1 : envAt ops V base o = e := envFT_eq he
  refine ⟨fun _ v' hv' => ?_, h⟩
  rw [hv] at hv'; cases hv'
  refine ⟨σ', fun h' => (by rw [hm] at h'; cases h'), fun _ => ht, fun E hE => ?_⟩
  rw [e1]; exact h1 E hE
/-- No value that may lie about names block id. -/
def vNo (id : Id) (ops : List Oper) (i : Nat) : List T → Nat → Bool
  | [], _ => true
  | v :: r, j => (Nat.beq j i || anc ops ops.length i j || v.no id) && vNo id ops i r (j + 1)
theorem vNo_get {id : Id} {i : Nat} : ∀ {V : List T} {j : Nat}, vNo id ops i V j = true → ∀ k v, V[k]? = some v → j + k ≠ i → anc ops ops.length i (j + k) = false → v.no id = true
  | [], _, _, k, v, h => by simp at h
  | x :: r, j, h, k, v, hv => fun h1 h2 => by
    simp only [vNo, Bool.and_eq_true, Bool.or_eq_true] at h
    match k with
    | 0 =>
      cases hv
      rcases h.1 with (h3 | h3) | h3
      · exact absurd (Nat.eq_of_beq_eq_true h3) h1
      · rw [Nat.add_zero] at h2; rw [h2] at h3; cases h3
      · exact h3
    | k + 1 => exact vNo_get h.2 k v (by simpa using hv) (by rw [show j + 1 + k = j + (k + 1) by omega]; exact h1) (by rw [show j + 1 + k = j + (k + 1) by omega]; exact h2)
/-- No block names root n. -/
inductive NoE (n : Nat) : Ent → Prop
  | dead : NoE n .dead
  | one {b : Blk} (h : b.no (n, []) = true) : NoE n (.one b)
  | vec {β : Type} {k : Nat} {g : β → List I} {l : List β} : NoE n (.one (vec k g l))
  | mat {β : Type} {k r : Nat} {g : β → List I} {l : List (List β)} (h : Nat.beq n r = false) : NoE n (mat (r, []) k g l)
def NoL (n : Nat) : List Ent → Prop
  | [] => True
  | e :: r => NoE n e ∧ NoL n r
theorem NoL.get {n : Nat} : ∀ {l : List Ent}, NoL n l → ∀ (j : Nat) (e : Ent), l[j]? = some e → NoE n e
  | _ :: _, h, 0, e, he => by simp only [List.getElem?_cons_zero, Option.some.injEq] at he; subst he; exact h.1
  | _ :: l, h, j + 1, e, he => NoL.get h.2 j e (by simpa using he)
theorem NoL.all {n : Nat} {σ : Store} (h : NoL n σ) (i : Id) (b : Blk) (hb : σ[i]? = some (some b)) : b.no (n, []) = true := by
  obtain ⟨j, q⟩ := i
  rw [Store.at_eq] at hb
  simp only [Store.at] at hb
  cases he : σ[j]? with
  | none => simp [he] at hb
  | some e =>
    rw [he] at hb; simp only [Option.some.injEq] at hb
    have g := NoL.get h j e he
    cases g with
    | dead => cases q <;> cases hb
    | one h1 => cases q with
      | nil => cases hb; exact h1
      | cons => cases hb
    | vec => cases q with
      | nil => cases hb; exact Blk.im_no _ _ _
      | cons => cases hb
    | mat h1 =>
      rcases mat_sub hb with ⟨rfl, rfl⟩ | ⟨q', row, rfl, _, rfl⟩
      · exact hdr_no (fun e => by simp at e; rw [e] at h1; simp at h1)
      · exact Blk.im_no _ _ _
/-- A new block that takes a number kept for it. -/
theorem AOps.allocAt {ops' : Array Oper} {rest : List Oper} {dst : Option Nat} {ty : TypeId} {pos : String} {after : Array Edge} {V : List T} {e E : Env} {i : Nat} {σv σ' : Store} {t : TypeId} {cs : List C} {k : Nat} (n : Nat) [hz : TyZ P t cs] (hE : EOk ops V base i E) (hb : envNo (n, []) base = true) (hV : vNo (n, []) ops i V 0 = true) (he : envNo (n, []) e = true)
    (hk : idF cs = some k) (hσ : setF σv n (.one (.cells k [cs])) = some σ') (hi : C.okL 0 cs = true) (h0 : Nat.ble σ0.length n = true) (hs : NoL n σv) (hd : dstOk sz dst = true)
    (h : AOps P σ0 sz ops' Q rest (St.mk (putE (e ++ E) dst (.c (.ptr (n, []) 0 0))) σ')) : AOps P σ0 sz ops' Q (⟨dst, .alloc t, ty, pos, after, none⟩ :: rest) (St.mk (e ++ E) σv) := fun Γ φ a w hΓ hR => by
  have h1 := idF_eq hk; have h3 := setF_eq hσ
  subst h1
  obtain ⟨rfl, hlt⟩ := h3
  obtain ⟨size, bytes, z, v, hs', g1, g2⟩ := hz.h
  refine AOps.alloc (hs := hs') g1 g2 hd (AOps.sub (s' := St.mk (putE (e ++ E) dst (.c (.ptr (n, []) 0 0))) (σv.set n (.one (.cells cs.length [cs])))) ?_ h) Γ φ a w hΓ hR
  have h0' := Nat.le_of_ble_eq_true h0
  have hblk : (Blk.cells cs.length [cs]).ok 0 = true := by simp [Blk.ok, hi]
  have hok0 : ∀ (t : Nat) (v : T), lookup t (e ++ E) = some v → v.ok σv.length = true := fun t v ht => by
    obtain ⟨u, _, hr⟩ := hR.env t v ht
    exact hr.ok
  have hno0 : ∀ (t : Nat) (v : T), lookup t (e ++ E) = some v → v.no (n, []) = true := fun t v ht => by
    rw [lookup_append] at ht
    cases hx : lookup t e with
    | some x =>
      rw [hx] at ht; cases ht
      exact envNo_get he t v hx
    | none =>
      rw [hx] at ht
      rcases hE t v ht with g | ⟨j, g1, g2, g3⟩
      · exact envNo_get hb t v g
      · exact vNo_get hV j v g3 (by rw [Nat.zero_add]; exact g1) (by rw [Nat.zero_add]; exact g2)
  have mve : mv (n, []) (σv.length, []) (n, []) = (σv.length, []) := by simp [mv, idb_iff.2 rfl]
  have mvn : ∀ i : Id, i ≠ (n, []) → mv (n, []) (σv.length, []) i = i := fun i h => by simp [mv, idb_ne h]
  have hlt' : ∀ (i : Id) (b : Blk), (σv.set n (.one (.cells cs.length [cs])))[i]? = some (some b) → i.1 < σv.length := fun i b hi => by
    have := Store.lt_of hi
    simpa using this
  refine Sub.mk (mv (n, []) (σv.length, [])) (fun i hi => mvn i (fun e => by subst e; simp at hi; omega)) (by simp; omega) (fun i j b b' hi hj h => ?_) (fun i b hi => ?_) (fun t v ht => ?_)
  · have l1 := hlt' i b hi
    have l2 := hlt' j b' hj
    by_cases g1 : i = (n, []) <;> by_cases g2 : j = (n, [])
    · rw [g1, g2]
    · rw [g1, mve, mvn j g2] at h
      rw [← h] at l2; simp at l2
    · rw [g2, mve, mvn i g1] at h
      rw [h] at l1; simp at l1
    · rwa [mvn i g1, mvn j g2] at h
  · have hin := hlt' i b hi
    obtain ⟨j, q⟩ := i
    by_cases hj : j = n
    · subst hj
      have hb' : (Ent.one (.cells cs.length [cs])).sub q = some b := by
        rw [Store.at_eq] at hi
        simp only [Store.at, List.getElem?_set_self hlt, Option.some.injEq] at hi
        exact hi
      cases q with
      | cons => cases hb'
      | nil =>
        cases hb'
        refine ⟨Blk.ok_mono (Nat.zero_le _) _ hblk, ?_⟩
        rw [mve, Blk.ren_ok (m := 0) (fun i hi => by omega) _ hblk]
        exact Store.get_last σv _
    · have hi' : σv[((j, q) : Id)]? = some (some b) := by
        rw [Store.at_eq] at hi ⊢
        simp only [Store.at] at hi ⊢
        rwa [List.getElem?_set_ne (fun e => hj e.symm)] at hi
      refine ⟨Blk.ok_mono (by simp) _ (hR.st.okB hi'), ?_⟩
      rw [mvn (j, q) (fun e => hj (by cases e; rfl)), Blk.ren_no _ (hs.all _ _ hi')]
      show (σv ++ _)[_]? = _
      rw [Store.get_left hin]; exact hi'
  · have rest : ∀ v, lookup t (e ++ E) = some v → v.ok (σv.set n (Ent.one (.cells cs.length [cs]))).length = true ∧ lookup t (e ++ E) = some (v.ren (mv (n, []) (σv.length, []))) := fun v hv =>
      ⟨by simpa using hok0 t v hv, by rw [T.ren_no v (hno0 t v hv)]; exact hv⟩
    cases hdst : dst with
    | none => rw [hdst] at ht; exact rest v ht
    | some d =>
      rw [hdst] at ht
      simp only [putE, lookup] at ht ⊢
      split at ht
      · cases ht
        refine ⟨by simp [T.ok, C.ok, hlt], ?_⟩
        simp only [T.ren, C.ren, mve]
      · exact rest v ht
end
end Ab
end
section
namespace Ab
open Go
/-- Where the callee's roots lie among the caller's: the lent ones at the places of the list, its own behind all others. -/
def rootAt : List Nat → Nat → Nat → Nat
  | [], m, r => m + r
  | x :: _, _, 0 => x
  | _ :: l, m, r + 1 => rootAt l m r
def emb (ι : List Nat) (m : Nat) : Id → Id := fun i => (rootAt ι m i.1, i.2)
theorem rootAt_lt {m : Nat} : ∀ {ι : List Nat} {r : Nat}, r < ι.length → ∃ x, ι[r]? = some x ∧ rootAt ι m r = x
  | x :: _, 0, _ => ⟨x, rfl, rfl⟩
  | _ :: l, r + 1, h => by
    obtain ⟨x, h1, h2⟩ := rootAt_lt (m := m) (ι := l) (r := r) (by simpa using h)
    exact ⟨x, by simpa using h1, h2⟩
theorem rootAt_ge {m : Nat} : ∀ {ι : List Nat} {r : Nat}, ι.length ≤ r → rootAt ι m r = m + (r - ι.length)
  | [], r, _ => by simp [rootAt]
  | _ :: l, r + 1, h => by
    simp only [rootAt]
    rw [rootAt_ge (by simpa using h)]
    simp
  | _ :: _, 0, h => by simp at h
theorem emb_inj {ι : List Nat} {m : Nat} (hd : ι.Nodup) (hlt : ∀ r ∈ ι, r < m) {i j : Id} (h : emb ι m i = emb ι m j) : i = j := by
  obtain ⟨r, p⟩ := i
  obtain ⟨s, q⟩ := j
  simp only [emb, Prod.mk.injEq] at h
  obtain ⟨h1, rfl⟩ := h
  congr 1
  rcases Nat.lt_or_ge r ι.length with hr | hr <;> rcases Nat.lt_or_ge s ι.length with hs | hs
  · obtain ⟨x, x1, x2⟩ := rootAt_lt (m := m) hr
    obtain ⟨y, y1, y2⟩ := rootAt_lt (m := m) hs
    rw [x2, y2] at h1
    subst h1
    obtain ⟨_, x3⟩ := List.getElem?_eq_some_iff.1 x1
    obtain ⟨_, y3⟩ := List.getElem?_eq_some_iff.1 y1
    exact (List.getElem_inj hd).1 (x3.trans y3.symm)
  · obtain ⟨x, x1, x2⟩ := rootAt_lt (m := m) hr
    rw [x2, rootAt_ge hs] at h1
    have := hlt x (List.mem_of_getElem? x1)
    omega
  · obtain ⟨x, x1, x2⟩ := rootAt_lt (m := m) hs
    rw [x2, rootAt_ge hr] at h1
    have := hlt x (List.mem_of_getElem? x1)
    omega
  · rw [rootAt_ge hr, rootAt_ge hs] at h1
    omega
/-- The caller's store behind the call. -/
structure MergeOk (ι : List Nat) (σv σ' σ'' : Store) : Prop where
  len : σv.length + (σ'.length - ι.length) ≤ σ''.length
  blk : ∀ (j : Id) b, σ''[j]? = some (some b) → (j.1 < σv.length ∧ j.1 ∉ ι ∧ σv[j]? = some (some b)) ∨ ∃ i b', j = emb ι σv.length i ∧ σ'[i]? = some (some b') ∧ b = b'.ren (emb ι σv.length)
theorem FnOk.frame {P : Program} {f : FuncId} {args : List T} {σc : Store} {Qc : T → Store → Prop} (h : FnOk P f args σc Qc) (ι : List Nat) (σv : Store) (hl : ι.length = σc.length) (hd : ι.Nodup) (hlt : ∀ r ∈ ι, r < σv.length)
    (hargs : T.okL σc.length args = true) (hokc : ∀ (i : Id) b, σc[i]? = some (some b) → b.ok σc.length = true) (hlent : ∀ (i : Id) b, σc[i]? = some (some b) → σv[emb ι σv.length i]? = some (some (b.ren (emb ι σv.length))))
    (r'' : T) (σ'' : Store) (hq : ∀ r' σ', Qc r' σ' → r'' = r'.ren (emb ι σv.length) ∧ MergeOk ι σv σ' σ'') : FnOk P f (T.renL (emb ι σv.length) args) σv fun r s => r = r'' ∧ s = σ'' := by
  refine ⟨h.fn, fun Γ vs hΓ hG hlen hrel => ?_⟩
  subst hΓ
  generalize hm : Γ.σ0.length = m at *
  have inj : ∀ {i j : Id}, emb ι m i = emb ι m j → i = j := fun h => emb_inj hd hlt h
  have inι : ∀ {i : Id}, i.1 < σc.length → (emb ι m i).1 ∈ ι := fun {i} hi => by
    obtain ⟨x, x1, x2⟩ := rootAt_lt (m := m) (ι := ι) (r := i.1) (by omega)
    show rootAt ι m i.1 ∈ ι
    rw [x2]; exact List.mem_of_getElem? x1
  have A1 : ∀ b, Al Γ.N Γ.φ0 Γ.σ0 b → Al (fun b => b < Γ.w0.heap.size ∧ (Γ.N b ∨ ∃ (j : Id) (blk : Blk) (base : Nat), j.1 ∉ ι ∧ Γ.σ0[j]? = some (some blk) ∧ Γ.φ0 j = some (b, base))) (fun i => Γ.φ0 (emb ι m i)) σc b := fun b hb =>
    ⟨fun hN => by
      rcases hN.2 with hN | ⟨j, blk, base, _, g1, g2⟩
      · exact hb.1 hN
      · exact hb.2 j blk base g1 g2, fun i blk base hi hp => hb.2 _ _ base (hlent i blk hi) hp⟩
  have hBack : Back Γ.w0 Γ.φ0 (fun i => Γ.φ0 (emb ι m i)) Γ.σ0 σc (Al Γ.N Γ.φ0 Γ.σ0) (Al (fun b => b < Γ.w0.heap.size ∧ (Γ.N b ∨ ∃ (j : Id) (blk : Blk) (base : Nat), j.1 ∉ ι ∧ Γ.σ0[j]? = some (some blk) ∧ Γ.φ0 j = some (b, base))) (fun i => Γ.φ0 (emb ι m i)) σc) (emb ι m) :=
    ⟨fun b hb _ => A1 b hb, fun i b _ hi => ⟨hlent i b hi, rfl⟩⟩
  have okC : ∀ {n k : Nat} {es : List (List C)} {j o : Nat} {e : List C} {x : C}, (Blk.cells k es).ok n = true → es[j]? = some e → e[o]? = some x → x.ok n = true := by
    intro n k es j o e x h1 h2 h3
    simp only [Blk.ok, List.all_eq_true] at h1
    have := h1 e (List.mem_of_getElem? h2)
    rw [okL_eq, List.all_eq_true] at this
    exact this x (List.mem_of_getElem? h3)
  have hGc : Good ⟨Γ.w0, fun b => b < Γ.w0.heap.size ∧ (Γ.N b ∨ ∃ (j : Id) (blk : Blk) (base : Nat), j.1 ∉ ι ∧ Γ.σ0[j]? = some (some blk) ∧ Γ.φ0 j = some (b, base)), fun i => Γ.φ0 (emb ι m i), σc⟩ := by
    refine ⟨⟨fun i b hi => ?_, fun i j bi bj p q hi hj hp hq he => ?_⟩, fun b hb => hb.1, fun i blk b base hi hp hN => ?_⟩
    · have hs := hlent i b hi
      have hb := hG.st.blk _ _ hs
      have ho := hokc i b hi
      cases b with
      | cells k es =>
        simp only [Blk.ren] at hb hs
        rcases hb with ⟨h1, h2⟩ | ⟨b, base, arr, ety, h1, h2, h3, h4, h5⟩
        · exact .inl ⟨h1, by simpa using h2⟩
        · refine .inr ⟨b, base, arr, ety, h1, h2, by simpa using h3, fun j e he => ?_, fun j e o x he hx => ?_⟩
          · have := h4 j (C.renL (emb ι m) e) (by simp [he])
            rw [renL_eq] at this; simpa using this
          · obtain ⟨u, hu, hr⟩ := h5 j (C.renL (emb ι m) e) o (x.ren (emb ι m)) (by simp [he]) (by rw [renL_eq]; simp [hx])
            exact ⟨u, hu, hr.back hBack (okC (k := k) ho he hx)⟩
      | obj p => exact hb
    · exact inj (hG.st.inj _ _ _ _ p q (hlent i bi hi) (hlent j bj hj) hp hq he)
    · rcases hN.2 with hN | ⟨j, blk', base', g0, g1, g2⟩
      · exact hG.own _ _ b base (hlent i blk hi) hp hN
      · have := hG.st.inj _ _ _ _ _ _ (hlent i blk hi) g1 hp g2 rfl
        rw [← this] at g0
        exact g0 (inι (Store.lt_of hi))
  have hargs' : ∀ t ∈ args, t.ok σc.length = true := by rw [TokL_eq, List.all_eq_true] at hargs; exact hargs
  refine (h.run _ vs rfl hGc (by rw [← hlen, TrenL_eq]; simp) (fun i t u ht hu => ?_)).mono ?_
  · exact (hrel i (t.ren (emb ι m)) u (by rw [TrenL_eq]; simp [ht]) hu).back hBack (hargs' t (List.mem_of_getElem? ht))
  · rintro e w' ⟨v, r', σ', φ', rfl, hqc, hr, hs⟩
    obtain ⟨rfl, hM⟩ := hq r' σ' hqc
    have hMb : ∀ (j : Id) b, σ''[j]? = some (some b) → (j.1 < m ∧ j.1 ∉ ι ∧ Γ.σ0[j]? = some (some b)) ∨ ∃ i b', j = emb ι m i ∧ σ'[i]? = some (some b') ∧ b = b'.ren (emb ι m) := by
      have := hM.blk
      rwa [hm] at this
    have hMl : m + (σ'.length - ι.length) ≤ σ''.length := by
      have := hM.len
      rwa [hm] at this
    have hk := hs.kept
    have hlen' := hk.len
    dsimp only at hlen'
    classical
    let φ'' : Phi := fun j => if hx : ∃ i : Id, emb ι m i = j then φ' hx.choose else Γ.φ0 j
    have pnew : ∀ i : Id, φ'' (emb ι m i) = φ' i := fun i => by
      have hx : ∃ i' : Id, emb ι m i' = emb ι m i := ⟨i, rfl⟩
      show (if hx : ∃ i' : Id, emb ι m i' = emb ι m i then φ' hx.choose else _) = _
      rw [dif_pos hx, inj hx.choose_spec]
    have pold : ∀ j : Id, j.1 < m → j.1 ∉ ι → φ'' j = Γ.φ0 j := fun j h1 h2 => by
      show (if hx : ∃ i' : Id, emb ι m i' = j then φ' hx.choose else _) = _
      rw [dif_neg]
      rintro ⟨i, rfl⟩
      rcases Nat.lt_or_ge i.1 ι.length with hi | hi
      · exact h2 (inι (by omega))
      · have : (emb ι m i).1 = m + (i.1 - ι.length) := rootAt_ge hi
        omega
    have hK : ∀ b, b < Γ.w0.heap.size → (∀ (i : Id) blk base, σc[i]? = some (some blk) → Γ.φ0 (emb ι m i) ≠ some (b, base)) → w'.heap[b]? = Γ.w0.heap[b]? := fun b h1 h2 => hs.block b ⟨h1, h2⟩
    have keepOld : ∀ (j : Id) blk b base, j.1 ∉ ι → Γ.σ0[j]? = some (some blk) → Γ.φ0 j = some (b, base) → w'.heap[b]? = Γ.w0.heap[b]? := fun j blk b base hj h1 h2 =>
      hK b (Al.own_lt hG.st h1 h2) fun i blk' base' hi hp => by
        have := hG.st.inj _ _ _ _ _ _ (hlent i blk' hi) h1 hp h2 rfl
        rw [← this] at hj
        exact hj (inι (Store.lt_of hi))
    have A2 : ∀ b, Al Γ.N Γ.φ0 Γ.σ0 b → b < Γ.w0.heap.size → Al Γ.N φ'' σ'' b := fun b hb hlt => ⟨hb.1, fun j blk base hj hp => by
      rcases hMb j blk hj with ⟨h1, h2, h3⟩ | ⟨i, b', rfl, h2, _⟩
      · rw [pold j h1 h2] at hp; exact hb.2 j blk base h3 hp
      · rw [pnew] at hp
        exact hs.keep i b' b base h2 hp ⟨hlt, fun i' blk' base' hi' hp' => hb.2 _ _ base' (hlent i' blk' hi') hp'⟩⟩
    have A3 : ∀ b, Al (fun b => b < Γ.w0.heap.size ∧ (Γ.N b ∨ ∃ (j : Id) (blk : Blk) (base : Nat), j.1 ∉ ι ∧ Γ.σ0[j]? = some (some blk) ∧ Γ.φ0 j = some (b, base))) φ' σ' b → b < w'.heap.size → Al Γ.N φ'' σ'' b := fun b hb _ => ⟨fun hN => hb.1 ⟨hG.lt b hN, .inl hN⟩, fun j blk base hj hp => by
      rcases hMb j blk hj with ⟨h1, h2, h3⟩ | ⟨i, b', rfl, h2, _⟩
      · rw [pold j h1 h2] at hp
        exact hb.1 ⟨Al.own_lt hG.st h3 hp, .inr ⟨j, blk, base, h2, h3, hp⟩⟩
      · rw [pnew] at hp; exact hb.2 i b' base h2 hp⟩
    have hFwd : Fwd w' φ' φ'' σ' σ'' (Al (fun b => b < Γ.w0.heap.size ∧ (Γ.N b ∨ ∃ (j : Id) (blk : Blk) (base : Nat), j.1 ∉ ι ∧ Γ.σ0[j]? = some (some blk) ∧ Γ.φ0 j = some (b, base))) φ' σ') (Al Γ.N φ'' σ'') (emb ι m) := by
      refine ⟨A3, fun i hi => ⟨?_, pnew i, fun b' hb' => ?_⟩⟩
      · rcases Nat.lt_or_ge i.1 ι.length with g | g
        · have := hlt _ (inι (i := i) (by omega)); omega
        · have : (emb ι m i).1 = m + (i.1 - ι.length) := rootAt_ge g
          omega
      · rcases hMb _ _ hb' with ⟨h1, h2, _⟩ | ⟨i', b0, he, h2, h3⟩
        · exfalso
          rcases Nat.lt_or_ge i.1 ι.length with g | g
          · exact h2 (inι (by omega))
          · have : (emb ι m i).1 = m + (i.1 - ι.length) := rootAt_ge g
            omega
        · rw [inj he]; exact ⟨b0, h2, h3⟩
    have hkept : Kept Γ.w0 w' Γ.φ0 φ'' Γ.σ0 σ'' (Al Γ.N Γ.φ0 Γ.σ0) (Al Γ.N φ'' σ'') := by
      refine ⟨fun b hb hl => hK b hl fun i blk base hi hp => hb.2 _ _ base (hlent i blk hi) hp, A2, ?_, fun j k es' hj he => ?_, fun j p' hj he => ?_⟩
      · rw [hm]; omega
      · rw [hm] at hj
        rcases hMb j _ he with ⟨h1, h2, h3⟩ | ⟨i, b', rfl, h2, h3⟩
        · refine ⟨es', h3, rfl, pold j h1 h2, fun b base arr ety hp hb => ⟨arr, ?_, rfl⟩⟩
          rw [keepOld j _ b base h2 h3 hp]; exact hb
        · have hi : i.1 < σc.length := by
            rcases Nat.lt_or_ge i.1 ι.length with g | g
            · omega
            · have : (emb ι m i).1 = m + (i.1 - ι.length) := rootAt_ge g
              omega
          cases b' with
          | obj p => simp [Blk.ren] at h3
          | cells k2 es0 =>
            simp only [Blk.ren, Blk.cells.injEq] at h3
            obtain ⟨rfl, rfl⟩ := h3
            obtain ⟨es, g1, g2, g3, g4⟩ := hk.cells i k es0 hi h2
            refine ⟨es.map (C.renL (emb ι m)), ?_, by simpa using g2, by rw [pnew]; exact g3, fun b base arr ety hp hb => g4 b base arr ety hp hb⟩
            have := hlent i _ g1
            simpa [Blk.ren] using this
      · rw [hm] at hj
        rcases hMb j _ he with ⟨h1, h2, h3⟩ | ⟨i, b', rfl, h2, h3⟩
        · exact ⟨pold j h1 h2, p', h3⟩
        · have hi : i.1 < σc.length := by
            rcases Nat.lt_or_ge i.1 ι.length with g | g
            · omega
            · have : (emb ι m i).1 = m + (i.1 - ι.length) := rootAt_ge g
              omega
          cases b' with
          | cells k2 es0 => simp [Blk.ren] at h3
          | obj p =>
            obtain ⟨g1, p0, g2⟩ := hk.obj i p hi h2
            exact ⟨by rw [pnew]; exact g1, p0, hlent i _ g2⟩
    refine ⟨v, _, σ'', φ'', rfl, ⟨rfl, rfl⟩, hr.fwd hFwd, ⟨hG, ⟨fun j b hj => ?_, fun i j bi bj p q hi hj hp hq he => ?_⟩, fun j blk b base hj hp hK' => ?_, hs.os, hs.tape, hs.output, hs.size, fun b hb => hK b hb.1 fun i blk base hi hp => hb.2 _ _ base (hlent i blk hi) hp, hkept⟩⟩
    · rcases hMb j b hj with ⟨h1, h2, h3⟩ | ⟨i, b', rfl, h2, rfl⟩
      · rw [pold j h1 h2]
        exact (hG.st.blk j b h3).mono hkept fun g base hp => keepOld j b g base h2 h3 hp
      · rw [pnew]
        have hb := hs.st.blk i b' h2
        cases b' with
        | cells k es =>
          rcases hb with ⟨h1, h2'⟩ | ⟨b, base, arr, ety, h1, h2', h3, h4, h5⟩
          · exact .inl ⟨h1, by simpa using h2'⟩
          · refine .inr ⟨b, base, arr, ety, h1, h2', by simpa using h3, fun j e he => ?_, fun j e o x he hx => ?_⟩
            · rw [List.getElem?_map, Option.map_eq_some_iff] at he
              obtain ⟨e0, he0, rfl⟩ := he
              rw [renL_eq, List.length_map]
              exact h4 j e0 he0
            · rw [List.getElem?_map, Option.map_eq_some_iff] at he
              obtain ⟨e0, he0, rfl⟩ := he
              rw [renL_eq, List.getElem?_map, Option.map_eq_some_iff] at hx
              obtain ⟨x0, hx0, rfl⟩ := hx
              obtain ⟨u, hu, hr⟩ := h5 j e0 o x0 he0 hx0
              exact ⟨u, hu, hr.fwd hFwd⟩
        | obj p => exact hb
    · rcases hMb i bi hi with ⟨h1, h2, h3⟩ | ⟨i', b1, rfl, h2, _⟩ <;> rcases hMb j bj hj with ⟨g1, g2, g3⟩ | ⟨j', b2, rfl, g2, _⟩
      · rw [pold i h1 h2] at hp
        rw [pold j g1 g2] at hq
        exact hG.st.inj _ _ _ _ p q h3 g3 hp hq he
      · exfalso
        rw [pold i h1 h2] at hp
        rw [pnew] at hq
        obtain ⟨p1, p2⟩ := p
        obtain ⟨q1, q2⟩ := q
        simp only at he
        subst he
        refine hs.keep j' b2 p1 q2 g2 hq ⟨Al.own_lt hG.st h3 hp, fun i' blk' base' hi' hp' => ?_⟩
        have := hG.st.inj _ _ _ _ _ _ (hlent i' blk' hi') h3 hp' hp rfl
        rw [← this] at h2
        exact h2 (inι (Store.lt_of hi'))
      · exfalso
        rw [pold j g1 g2] at hq
        rw [pnew] at hp
        obtain ⟨p1, p2⟩ := p
        obtain ⟨q1, q2⟩ := q
        simp only at he
        subst he
        refine hs.keep i' b1 p1 p2 h2 hp ⟨Al.own_lt hG.st g3 hq, fun i' blk' base' hi' hp' => ?_⟩
        have := hG.st.inj _ _ _ _ _ _ (hlent i' blk' hi') g3 hp' hq rfl
        rw [← this] at g2
        exact g2 (inι (Store.lt_of hi'))
      · rw [pnew] at hp hq
        rw [hs.st.inj _ _ _ _ p q h2 g2 hp hq he]
    · rcases hMb j blk hj with ⟨h1, h2, h3⟩ | ⟨i, b', rfl, h2, _⟩
      · rw [pold j h1 h2] at hp
        exact hK'.2 j blk base h3 hp
      · rw [pnew] at hp
        exact hs.keep i b' b base h2 hp ⟨hK'.1, fun i' blk' base' hi' hp' => hK'.2 _ _ base' (hlent i' blk' hi') hp'⟩
/-! ### The same by lists of entries -/
theorem vec_ren {α : Type} {π : Id → Id} {k : Nat} {f : α → List I} {l : List α} : (vec k f l).ren π = vec k f l := Blk.im_ren _ _ _
theorem hdr_emb {α : Type} {π : Id → Id} {r r' : Nat} {M : List (List α)} (h : ∀ p, π (r, p) = (r', p)) : (Blk.cells 1 (hdr (r, []) M)).ren π = .cells 1 (hdr (r', []) M) := by
  simp only [Blk.ren]
  congr 1
  apply List.ext_getElem?
  intro j
  simp only [hdr, List.getElem?_map, List.getElem?_mapIdx, Option.map_map]
  cases M[j]? with
  | none => rfl
  | some row => simp [C.renL, C.ren, h]
/-- An entry of the callee's as' the caller's. -/
inductive RenE (π : Id → Id) : Nat → Ent → Nat → Ent → Prop
  | one {r r' : Nat} {b b' : Blk} (h : b.ren π = b') : RenE π r (.one b) r' (.one b')
  | vec {r r' : Nat} {α : Type} {k : Nat} {f : α → List I} {l : List α} : RenE π r (.one (vec k f l)) r' (.one (vec k f l))
  | mat {r r' : Nat} {α : Type} {k : Nat} {f : α → List I} {M : List (List α)} : RenE π r (mat (r, []) k f M) r' (mat (r', []) k f M)
theorem RenE.fwd {π : Id → Id} {r r' : Nat} {e e' : Ent} (h : RenE π r e r' e') (hπ : ∀ p, π (r, p) = (r', p)) : ∀ p b, e.sub p = some b → e'.sub p = some (b.ren π) := by
  intro p b hb
  cases h with
  | one h => cases p with
    | nil => cases hb; rw [h]; rfl
    | cons => cases hb
  | vec => cases p with
    | nil => cases hb; rw [vec_ren]; rfl
    | cons => cases hb
  | mat =>
    rcases mat_sub hb with ⟨rfl, rfl⟩ | ⟨q, row, rfl, hq, rfl⟩
    · rw [hdr_emb hπ]; rfl
    · rw [vec_ren, mat_row, hq]
theorem RenE.bwd {π : Id → Id} {r r' : Nat} {e e' : Ent} (h : RenE π r e r' e') (hπ : ∀ p, π (r, p) = (r', p)) : ∀ p b, e'.sub p = some b → ∃ b0, e.sub p = some b0 ∧ b = b0.ren π := by
  intro p b hb
  cases h with
  | one h => cases p with
    | nil => cases hb; exact ⟨_, rfl, h.symm⟩
    | cons => cases hb
  | vec => cases p with
    | nil => cases hb; exact ⟨_, rfl, vec_ren.symm⟩
    | cons => cases hb
  | mat =>
    rcases mat_sub hb with ⟨rfl, rfl⟩ | ⟨q, row, rfl, hq, rfl⟩
    · exact ⟨_, rfl, (hdr_emb hπ).symm⟩
    · exact ⟨Ab.vec _ _ row, by rw [mat_row, hq], vec_ren.symm⟩
/-- The lent roots. -/
inductive LentE (π : Id → Id) (σv : Store) : Nat → Ent → Nat → Prop
  | dead {r x : Nat} : LentE π σv r .dead x
  | live {r x : Nat} {e e' : Ent} (h : σv[x]? = some e') (he : RenE π r e x e') : LentE π σv r e x
def LentL (π : Id → Id) (σv : Store) : Nat → List Ent → List Nat → Prop
  | _, [], _ => True
  | r, e :: l, x :: ι => LentE π σv r e x ∧ LentL π σv (r + 1) l ι
  | _, _ :: _, [] => False
theorem LentL.get {π : Id → Id} {σv : Store} : ∀ {r : Nat} {l : List Ent} {ι : List Nat}, LentL π σv r l ι → ∀ j e, l[j]? = some e → ∃ x, ι[j]? = some x ∧ LentE π σv (r + j) e x
  | _, _ :: _, x :: _, h, 0, e, he => by simp only [List.getElem?_cons_zero, Option.some.injEq] at he; subst he; exact ⟨x, rfl, h.1⟩
  | r, _ :: l, _ :: ι, h, j + 1, e, he => by
    obtain ⟨x, h1, h2⟩ := LentL.get h.2 j e (by simpa using he)
    exact ⟨x, by simpa using h1, by rwa [show r + 1 + j = r + (j + 1) by omega] at h2⟩
  | _, _ :: _, [], h, _, _, _ => h.elim
/-- The roots behind the call. -/
inductive MrgE (ι : List Nat) (m : Nat) (σv σ' : Store) : Nat → Ent → Prop
  | dead {j : Nat} : MrgE ι m σv σ' j .dead
  | old {j : Nat} {e : Ent} (h1 : Nat.blt j m = true) (h2 : memN j ι = false) (h3 : σv[j]? = some e) : MrgE ι m σv σ' j e
  | new {j : Nat} {e e0 : Ent} (r : Nat) (h1 : rootAt ι m r = j) (h2 : σ'[r]? = some e0) (h3 : RenE (emb ι m) r e0 j e) : MrgE ι m σv σ' j e
def MrgL (ι : List Nat) (m : Nat) (σv σ' : Store) : Nat → List Ent → Prop
  | _, [] => True
  | j, e :: l => MrgE ι m σv σ' j e ∧ MrgL ι m σv σ' (j + 1) l
theorem MrgL.get {ι : List Nat} {m : Nat} {σv σ' : Store} : ∀ {j : Nat} {l : List Ent}, MrgL ι m σv σ' j l → ∀ i e, l[i]? = some e → MrgE ι m σv σ' (j + i) e
  | _, _ :: _, h, 0, e, he => by simp only [List.getElem?_cons_zero, Option.some.injEq] at he; subst he; exact h.1
  | j, _ :: l, h, i + 1, e, he => by
    have := MrgL.get h.2 i e (by simpa using he)
    rwa [show j + 1 + i = j + (i + 1) by omega] at this
theorem dead_sub {p : List Nat} {b : Blk} (h : Ent.dead.sub p = some b) : False := by cases p <;> cases h
theorem ent_of {σ : Store} {i : Id} {b : Blk} (h : σ[i]? = some (some b)) : ∃ e, σ[i.1]? = some e ∧ e.sub i.2 = some b := by
  rw [Store.at_eq] at h
  simp only [Store.at] at h
  cases he : σ[i.1]? with
  | none => simp [he] at h
  | some e => rw [he] at h; simp only [Option.some.injEq] at h; exact ⟨e, rfl, h⟩
def lenB : List Nat → Nat → Bool
  | [], n => Nat.beq n 0
  | _ :: l, n + 1 => lenB l n
  | _ :: _, 0 => false
def nodupB : List Nat → Bool
  | [] => true
  | x :: l => !memN x l && nodupB l
theorem nodupB_iff : ∀ {l : List Nat}, nodupB l = true → l.Nodup
  | [], _ => .nil
  | x :: l, h => by
    simp only [nodupB, Bool.and_eq_true, Bool.not_eq_true'] at h
    refine List.nodup_cons.2 ⟨fun hx => ?_, nodupB_iff h.2⟩
    rw [(memN_iff x l).2 hx] at h
    cases h.1
def allLt (m : Nat) : List Nat → Bool
  | [] => true
  | x :: l => Nat.blt x m && allLt m l
theorem allLt_iff {m : Nat} : ∀ {l : List Nat}, allLt m l = true → ∀ r ∈ l, r < m
  | x :: l, h, r, hr => by
    simp only [allLt, Bool.and_eq_true] at h
    rcases List.mem_cons.1 hr with rfl | hr
    · simpa using h.1
    · exact allLt_iff h.2 r hr
inductive OkE (n : Nat) : Nat → Ent → Prop
  | dead {r : Nat} : OkE n r .dead
  | one {r : Nat} {b : Blk} (h : b.ok n = true) : OkE n r (.one b)
  | vec {r : Nat} {α : Type} {k : Nat} {f : α → List I} {l : List α} : OkE n r (.one (vec k f l))
  | mat {r : Nat} {α : Type} {k : Nat} {f : α → List I} {M : List (List α)} (h : Nat.blt r n = true) : OkE n r (mat (r, []) k f M)
def OkEs (n : Nat) : Nat → List Ent → Prop
  | _, [] => True
  | r, e :: l => OkE n r e ∧ OkEs n (r + 1) l
theorem OkEs.get {n : Nat} : ∀ {r : Nat} {l : List Ent}, OkEs n r l → ∀ j e, l[j]? = some e → OkE n (r + j) e
  | _, _ :: _, h, 0, e, he => by simp only [List.getElem?_cons_zero, Option.some.injEq] at he; subst he; exact h.1
  | r, _ :: l, h, j + 1, e, he => by
    have := OkEs.get h.2 j e (by simpa using he)
    rwa [show r + 1 + j = r + (j + 1) by omega] at this
theorem OkEs.all {n : Nat} {σ : Store} (h : OkEs n 0 σ) (i : Id) (b : Blk) (hi : σ[i]? = some (some b)) : b.ok n = true := by
  obtain ⟨e, h1, h2⟩ := ent_of hi
  have := OkEs.get h _ _ h1
  rw [Nat.zero_add] at this
  cases this with
  | dead => exact (dead_sub h2).elim
  | one h => cases hp : i.2 with
    | nil => rw [hp] at h2; cases h2; exact h
    | cons => rw [hp] at h2; cases h2
  | vec => cases hp : i.2 with
    | nil => rw [hp] at h2; cases h2; exact vec_ok
    | cons => rw [hp] at h2; cases h2
  | mat h =>
    rcases mat_sub h2 with ⟨_, rfl⟩ | ⟨q, row, _, _, rfl⟩
    · exact hdr_ok (by simpa using h) _
    · exact vec_ok
/-- The contract in the caller's store. -/
theorem FnOk.lend {P : Program} {f : FuncId} {args args' : List T} {σc σv τc σ'' : Store} {rr r2 : T} {m n : Nat} (ι : List Nat) (hok : FnOk P f args' σc fun r s => r = rr ∧ s = τc)
    (hm : idF σv = some m) (hn : idF σc = some n) (hl : lenB ι n = true) (hd : nodupB ι = true) (hlt : allLt m ι = true) (hargs : T.okL n args' = true) (hokc : OkEs n 0 σc) (hren : T.renL (emb ι m) args' = args) (hL : LentL (emb ι m) σv 0 σc ι)
    (hr : rr.ren (emb ι m) = r2) (hlen : Nat.ble (m + (τc.length - ι.length)) σ''.length = true) (hM : MrgL ι m σv τc 0 σ'') : FnOk P f args σv fun r s => r = r2 ∧ s = σ'' := by
  have em := idF_eq hm
  have en := idF_eq hn
  subst em en
  have el : ι.length = σc.length := by
    clear hL hd hlt hM hlen hr hren
    have : ∀ (l : List Nat) n, lenB l n = true → l.length = n := by
      intro l
      induction l with
      | nil => intro n h; exact (Nat.eq_of_beq_eq_true h).symm
      | cons x l ih => intro n h; cases n with
        | zero => cases h
        | succ n => simp [ih n h]
    exact this _ _ hl
  have hd' := nodupB_iff hd
  have hlt' := allLt_iff hlt
  have hπ : ∀ r p, emb ι σv.length (r, p) = (rootAt ι σv.length r, p) := fun _ _ => rfl
  subst hren hr
  have hM2 : MergeOk ι σv τc σ'' := by
    refine ⟨Nat.le_of_ble_eq_true hlen, fun j b hj => ?_⟩
    obtain ⟨e, h1, h2⟩ := ent_of hj
    have h3 := MrgL.get hM _ _ h1
    rw [Nat.zero_add] at h3
    cases h3 with
    | dead => exact (dead_sub h2).elim
    | old q1 q2 q3 =>
      refine .inl ⟨by simpa using q1, fun hx => ?_, ?_⟩
      · rw [(memN_iff _ _).2 hx] at q2; cases q2
      · show σv[((j.1, j.2) : Id)]? = _
        rw [ent_at q3, h2]
    | new r q1 q2 q3 =>
      obtain ⟨b0, k1, k2⟩ := q3.bwd (fun p => by rw [hπ, q1]) _ _ h2
      refine .inr ⟨(r, j.2), b0, ?_, ?_, k2⟩
      · rw [hπ, q1]
      · rw [ent_at q2, k1]
  refine FnOk.frame hok ι σv el hd' hlt' hargs (fun i b hi => hokc.all i b hi) (fun i b hi => ?_) _ _ (fun r' σ' hq => ⟨by rw [hq.1], by rw [hq.2]; exact hM2⟩)
  · obtain ⟨e, h1, h2⟩ := ent_of hi
    obtain ⟨x, h3, h4⟩ := LentL.get hL _ _ h1
    rw [Nat.zero_add] at h4
    obtain ⟨y, g1, g2⟩ := rootAt_lt (m := σv.length) (ι := ι) (r := i.1) (by rw [el]; exact Store.lt_of hi)
    rw [h3] at g1; cases g1
    cases h4 with
    | dead => exact (dead_sub h2).elim
    | live h he =>
      have := he.fwd (fun p => by rw [hπ, g2]) _ _ h2
      show σv[((rootAt ι σv.length i.1, i.2) : Id)]? = _
      rw [g2, ent_at h, this]
section
variable {P : Program} {σ0 : Store} {sz : Nat} {Q : Post} {env env' : Env} {σv σ' : Store} {ops : Array Oper} {rest : List Oper} {dst : Option Nat} {ty : TypeId} {pos : String} {after : Array Edge}
/-- A call that writes what it is lent. -/
theorem AOps.callF {x : Operand} {as' : List Operand} {ats : Array TypeId} {f : FuncId} {caps : List C} {ts : List T} {r2 : T} {σ'' : Store} (hx : ev env x = some (.c (.fn f caps))) (ha : evs env as' = some ts) (hd : dstOk sz dst = true)
    (hf : FnOk P f (ts ++ caps.map T.c) σv fun r s => r = r2 ∧ s = σ'') (h : AOps P σ0 sz ops Q rest (St.mk (putE env dst r2) σ'')) :
    AOps P σ0 sz ops Q (⟨dst, .call ⟨.value x, as'.toArray, ats⟩, ty, pos, after, none⟩ :: rest) (St.mk env σv) :=
  .callS hx ha hd hf fun r s ⟨h1, h2⟩ => by
    subst h1 h2
    exact h
end
end Ab
end
section
namespace Ab
open Go
section
variable {P : Program} {σ0 : Store} {sz : Nat} {Q : Post} {ops : List Oper} {base : Env}
/-- What makes a new block behind all others, for a number kept for it. -/
theorem AOps.newAt {ops' : Array Oper} {rest : List Oper} {o : Oper} {dst : Option Nat} {V : List T} {e E : Env} {i m : Nat} {σv σ1 σ' : Store} {c' : T} (n : Nat) (c : T) (blk : Blk) (h1 : σ1 = σv ∨ ∃ id, putF σv id .none = some σ1) (hm : idF σv = some m) (hE : EOk ops V base i E) (hb : envNo (n, []) base = true) (hV : vNo (n, []) ops i V 0 = true) (he : envNo (n, []) e = true)
    (hσ : setF σ1 n (.one blk) = some σ') (hbn : NoE n (.one blk)) (hbo : OkE m n (.one blk)) (hco : c.ok m = true) (hcr : c.ren (mv (n, []) (m, [])) = c') (h0 : Nat.ble σ0.length n = true) (hs : NoL n σ1)
    (hrule : AOps P σ0 sz ops' Q rest (St.mk (putE (e ++ E) dst c') (σ1 ++ [.one blk])) → AOps P σ0 sz ops' Q (o :: rest) (St.mk (e ++ E) σv))
    (h : AOps P σ0 sz ops' Q rest (St.mk (putE (e ++ E) dst c) σ')) : AOps P σ0 sz ops' Q (o :: rest) (St.mk (e ++ E) σv) := fun Γ φ a w hΓ hR => by
  have hm' := idF_eq hm; have h3 := setF_eq hσ
  subst hm'
  obtain ⟨rfl, hlt1⟩ := h3
  have hl1 : σ1.length = σv.length := by
    rcases h1 with rfl | ⟨id, h1⟩
    · rfl
    · rw [putF_eq h1, Store.length_put]
  have hlt : n < σv.length := by omega
  have hold : ∀ (i : Id) (b : Blk), σ1[i]? = some (some b) → σv[i]? = some (some b) := fun i b hi => by
    rcases h1 with rfl | ⟨id, h1⟩
    · exact hi
    · rw [putF_eq h1] at hi
      exact (Store.get_kill hi).2
  have hblk : ∃ n0, n0 = σv.length ∧ blk.ok n0 = true := ⟨_, rfl, by
    cases hbo with
    | one h => exact h
    | vec => exact Blk.im_ok _ _ _⟩
  have hbno : blk.no (n, []) = true := by
    cases hbn with
    | one h => exact h
    | vec => exact Blk.im_no _ _ _
  obtain ⟨n0, hn0, hblk⟩ := hblk
  refine hrule (AOps.sub (s' := St.mk (putE (e ++ E) dst c) (σ1.set n (.one blk))) ?_ h) Γ φ a w hΓ hR
  have h0' := Nat.le_of_ble_eq_true h0
  have hok0 : ∀ (t : Nat) (v : T), lookup t (e ++ E) = some v → v.ok σv.length = true := fun t v ht => by
    obtain ⟨u, _, hr⟩ := hR.env t v ht
    exact hr.ok
  have hno0 : ∀ (t : Nat) (v : T), lookup t (e ++ E) = some v → v.no (n, []) = true := fun t v ht => by
    rw [lookup_append] at ht
    cases hx : lookup t e with
    | some x =>
      rw [hx] at ht; cases ht
      exact envNo_get he t v hx
    | none =>
      rw [hx] at ht
      rcases hE t v ht with g | ⟨j, g1, g2, g3⟩
      · exact envNo_get hb t v g
      · exact vNo_get hV j v g3 (by rw [Nat.zero_add]; exact g1) (by rw [Nat.zero_add]; exact g2)
  have mve : mv (n, []) (σv.length, []) (n, []) = (σv.length, []) := by simp [mv, idb_iff.2 rfl]
  have mvn : ∀ i : Id, i ≠ (n, []) → mv (n, []) (σv.length, []) i = i := fun i h => by simp [mv, idb_ne h]
  have hlt' : ∀ (i : Id) (b : Blk), (σ1.set n (.one blk))[i]? = some (some b) → i.1 < σv.length := fun i b hi => by
    have := Store.lt_of hi
    rw [List.length_set, hl1] at this
    exact this
  refine Sub.mk (mv (n, []) (σv.length, [])) (fun i hi => mvn i (fun e => by subst e; simp at hi; omega)) (by simp only [List.length_set]; omega) (fun i j b b' hi hj h => ?_) (fun i b hi => ?_) (fun t v ht => ?_)
  · have l1 := hlt' i b hi
    have l2 := hlt' j b' hj
    by_cases g1 : i = (n, []) <;> by_cases g2 : j = (n, [])
    · rw [g1, g2]
    · rw [g1, mve, mvn j g2] at h
      rw [← h] at l2; simp at l2
    · rw [g2, mve, mvn i g1] at h
      rw [h] at l1; simp at l1
    · rwa [mvn i g1, mvn j g2] at h
  · have hin := hlt' i b hi
    obtain ⟨j, q⟩ := i
    by_cases hj : j = n
    · subst hj
      have hb' : (Ent.one blk).sub q = some b := by
        rw [Store.at_eq] at hi
        simp only [Store.at, List.getElem?_set_self hlt1, Option.some.injEq] at hi
        exact hi
      cases q with
      | cons => cases hb'
      | nil =>
        cases hb'
        refine ⟨by rw [List.length_set, hl1, ← hn0]; exact hblk, ?_⟩
        rw [mve, Blk.ren_no _ hbno, ← hl1]
        exact Store.get_last σ1 _
    · have hi' : σ1[((j, q) : Id)]? = some (some b) := by
        rw [Store.at_eq] at hi ⊢
        simp only [Store.at] at hi ⊢
        rwa [List.getElem?_set_ne (fun e => hj e.symm)] at hi
      refine ⟨by rw [List.length_set, hl1]; exact hR.st.okB (hold _ _ hi'), ?_⟩
      rw [mvn (j, q) (fun e => hj (by cases e; rfl)), Blk.ren_no _ (hs.all _ _ hi')]
      show (σ1 ++ _)[_]? = _
      rw [Store.get_left (by rw [hl1]; exact hin)]; exact hi'
  · have rest : ∀ v, lookup t (e ++ E) = some v → v.ok (σ1.set n (Ent.one blk)).length = true ∧ lookup t (e ++ E) = some (v.ren (mv (n, []) (σv.length, []))) := fun v hv =>
      ⟨by rw [List.length_set, hl1]; exact hok0 t v hv, by rw [T.ren_no v (hno0 t v hv)]; exact hv⟩
    cases hdst : dst with
    | none => rw [hdst] at ht; exact rest v ht
    | some d =>
      rw [hdst] at ht
      simp only [putE, lookup] at ht ⊢
      split at ht
      · cases ht
        refine ⟨by rw [List.length_set, hl1]; exact hco, ?_⟩
        rw [hcr]
      · exact rest v ht
end
section
variable {P : Program} {σ0 : Store} {sz : Nat} {Q : Post} {env env' : Env} {σv σ' : Store} {ops : Array Oper} {rest : List Oper} {dst : Option Nat} {ty : TypeId} {pos : String} {after : Array Edge}
/-- A pointer that is not nil. -/
theorem AOps.nilCheck {x : Operand} {id : Id} {j o k : Nat} {es : List (List C)} (hx : ev env x = some (.c (.ptr id j o))) (hσ : σv[id]? = some (some (.cells k es))) (hd : dstOk sz dst = true)
    (h : AOps P σ0 sz ops Q rest (St.mk (putE env dst (.c (.ptr id j o))) σv)) : AOps P σ0 sz ops Q (⟨dst, .nilCheck x, ty, pos, after, none⟩ :: rest) (St.mk env σv) :=
  .value rfl hd _ (fun Γ φ a w hR => by
    have hr := ev_rel hR hx
    obtain ⟨hid, b, base, hp, hv⟩ := ptr_inv hr hσ
    exact ⟨a.eval x, by simp [execOp, hv], hr⟩) h
/-- A struct with fields of several cells. -/
theorem W.buildP {t : TypeId} {fs : Array Field} {parts : List (Nat × Operand)} {ps : List (Nat × T)} {zc cs : List C} {places : List (Nat × Nat)} [ht : TyD P t (.struct fs)] [hp : PlacesC P fs.toList places] [hz : TyZ P t zc] (h2 : Nat.ble 2 zc.length = true)
    (hps : evP env parts = some ps) (hf : fillC (fun i => places[i]?) zc ps = some cs) (hd : dstOk sz dst = true)
    (h : AOps P σ0 sz ops Q rest (St.mk (putE env dst (.agg cs)) σv)) : AOps P σ0 sz ops Q (⟨dst, .build t parts.toArray, ty, pos, after, none⟩ :: rest) (St.mk env σv) := by
  obtain ⟨size, bytes, z, v, hs, g1, g2⟩ := hz.h
  cases v with
  | c x => cases g2; cases h2
  | agg cs' => cases g2; exact AOps.build (hs := hs) g1 hps hf hd h
  | tup _ => cases g2
  | undef => cases g2
end
end Ab
end
section
namespace Ab
open Go
theorem Rs.allocO {Γ : Cx} {σ : Store} {φ : Phi} {w : World} (h : Rs Γ σ φ w) {p0 : Obj → Prop} {ob : Obj} (hob : p0 ob) :
    Kept w (w.alloc ob) φ (phiNew σ.length φ w.heap.size) σ (σ ++ [.one (.obj p0)]) (Al Γ.N φ σ) (Al Γ.N (phiNew σ.length φ w.heap.size) (σ ++ [.one (.obj p0)])) ∧
    Rs Γ (σ ++ [.one (.obj p0)]) (phiNew σ.length φ w.heap.size) (w.alloc ob) := by
  have old : ∀ b, b < w.heap.size → (w.alloc ob).heap[b]? = w.heap[b]? := fun b hb => heap_alloc_old w _ hb
  have new : (w.alloc ob).heap[w.heap.size]? = some ob := heap_alloc_new w _
  have plo : ∀ i : Id, i.1 < σ.length → phiNew σ.length φ w.heap.size i = φ i := fun i hi => by
    have : i ≠ (σ.length, []) := fun e => by rw [e] at hi; exact Nat.lt_irrefl _ hi
    simp [phiNew, this]
  have pnew : phiNew σ.length φ w.heap.size (σ.length, []) = some (w.heap.size, 0) := by simp [phiNew]
  have cases2 : ∀ (i : Id) blk, (σ ++ [.one (.obj p0)])[i]? = some (some blk) → (i.1 < σ.length ∧ σ[i]? = some (some blk)) ∨ (i = (σ.length, []) ∧ blk = .obj p0) := fun i blk hi => Store.get_new hi
  have A1 : ∀ b, Al Γ.N φ σ b → b < w.heap.size → Al Γ.N (phiNew σ.length φ w.heap.size) (σ ++ [.one (.obj p0)]) b := fun b hb hl => ⟨hb.1, fun i blk base hi hp => by
    rcases cases2 i blk hi with ⟨h1, h2⟩ | ⟨rfl, rfl⟩
    · rw [plo i h1] at hp; exact hb.2 i blk base h2 hp
    · rw [pnew] at hp; cases hp; omega⟩
  have hK : Kept w (w.alloc ob) φ (phiNew σ.length φ w.heap.size) σ (σ ++ [.one (.obj p0)]) (Al Γ.N φ σ) (Al Γ.N (phiNew σ.length φ w.heap.size) (σ ++ [.one (.obj p0)])) :=
    { imm := fun b _ hl => old b hl, all := A1, len := by simp,
      cells := fun i kk es' hi he => by
        rw [Store.get_left hi] at he
        exact ⟨es', he, rfl, plo i hi, fun b base arr ety hp hb => ⟨arr, (old b (Al.own_lt h.st he hp)).trans hb, rfl⟩⟩,
      obj := fun i p' hi he => by
        rw [Store.get_left hi] at he
        exact ⟨plo i hi, p', he⟩ }
  refine ⟨hK, ?_⟩
  exact {
    good := h.good
    st := ⟨fun i b hi => by
        rcases cases2 i b hi with ⟨h1, h2⟩ | ⟨rfl, rfl⟩
        · rw [plo i h1]
          exact (h.st.blk i b h2).mono hK fun g base hp => old g (Al.own_lt h.st h2 hp)
        · rw [pnew]
          exact ⟨w.heap.size, ob, rfl, new, hob⟩,
      fun i j bi bj p q hi hj hp hq he => by
        obtain ⟨pb, po⟩ := p
        obtain ⟨qb, qo⟩ := q
        dsimp only at he
        subst he
        rcases cases2 i bi hi with ⟨h1, h2⟩ | ⟨rfl, rfl⟩ <;> rcases cases2 j bj hj with ⟨g1, g2⟩ | ⟨rfl, rfl⟩
        · rw [plo i h1] at hp; rw [plo j g1] at hq
          exact h.st.inj i j bi bj _ _ h2 g2 hp hq rfl
        · rw [plo i h1] at hp; rw [pnew] at hq; cases hq
          have := Al.own_lt h.st h2 hp; omega
        · rw [plo j g1] at hq; rw [pnew] at hp; cases hp
          have := Al.own_lt h.st g2 hq; omega
        · rfl⟩
    keep := fun i blk b base hi hp hKb => by
      rcases cases2 i blk hi with ⟨h1, h2⟩ | ⟨rfl, rfl⟩
      · rw [plo i h1] at hp; exact h.keep i blk b base h2 hp hKb
      · rw [pnew] at hp; cases hp
        have := hKb.1; have := h.size; omega
    os := h.os
    tape := h.tape
    output := h.output
    size := Nat.le_trans h.size (by simp)
    block := fun b hKb => (old b (Nat.lt_of_lt_of_le hKb.1 h.size)).trans (h.block b hKb)
    kept := Kept.trans h.size h.kept hK }
/-- An object written. -/
theorem Rs.writeO {Γ : Cx} {σ : Store} {φ : Phi} {w : World} (h : Rs Γ σ φ w) {id : Id} {b : Nat} {q0 q1 : Obj → Prop} {o0 o1 : Obj} (hid : σ[id]? = some (some (.obj q0))) (hp : φ id = some (b, 0)) (hb : w.heap[b]? = some o0) (hq : q1 o1) :
    Kept w ({ w with heap := w.heap.setIfInBounds b o1 } : World) φ φ σ (σ.put id (some (.obj q1))) (Al Γ.N φ σ) (Al Γ.N φ (σ.put id (some (.obj q1)))) ∧ Rs Γ (σ.put id (some (.obj q1))) φ ({ w with heap := w.heap.setIfInBounds b o1 } : World) := by
  have new : ({ w with heap := w.heap.setIfInBounds b o1 } : World).heap[b]? = some o1 := (Go.MapKept.heap_set hb).1
  have old : ∀ g, g ≠ b → ({ w with heap := w.heap.setIfInBounds b o1 } : World).heap[g]? = w.heap[g]? := fun g hg => (Go.MapKept.heap_set hb).2 g hg
  have hsize : ({ w with heap := w.heap.setIfInBounds b o1 } : World).heap.size = w.heap.size := by simp
  have at_ : ∀ (i : Id) x, (σ.put id (some (.obj q1)))[i]? = some (some x) → (i = id ∧ x = .obj q1) ∨ (i ≠ id ∧ σ[i]? = some (some x)) := fun i x hi => by
    rcases Store.get_put hid hi with ⟨h1, h2⟩ | h
    · cases h2; exact .inl ⟨h1, rfl⟩
    · exact .inr h
  have other : ∀ (i : Id) blk g bs, i ≠ id → σ[i]? = some (some blk) → φ i = some (g, bs) → g ≠ b := fun i blk g bs hne hi hpi e => by
    subst e
    exact hne (h.st.inj i id _ _ _ _ hi hid hpi hp rfl)
  have A1 : ∀ g, Al Γ.N φ σ g → Al Γ.N φ (σ.put id (some (.obj q1))) g := fun g hg => ⟨hg.1, fun i blk bs hi hpi => by
    rcases at_ i blk hi with ⟨rfl, _⟩ | ⟨_, hi⟩
    · exact hg.2 i _ bs hid hpi
    · exact hg.2 i blk bs hi hpi⟩
  have hK : Kept w ({ w with heap := w.heap.setIfInBounds b o1 } : World) φ φ σ (σ.put id (some (.obj q1))) (Al Γ.N φ σ) (Al Γ.N φ (σ.put id (some (.obj q1)))) :=
    { imm := fun g hg _ => old g (fun e => by subst e; exact hg.2 id _ 0 hid hp), all := fun g hg _ => A1 g hg, len := by simp,
      cells := fun i kk es2 hi he => by
        rcases at_ i _ he with ⟨rfl, e⟩ | ⟨hne, he⟩
        · cases e
        · refine ⟨es2, he, rfl, rfl, fun b2 base2 arr2 ety2 hp2 hb2 => ⟨arr2, ?_, rfl⟩⟩
          exact (old b2 (other i _ b2 base2 hne he hp2)).trans hb2,
      obj := fun i p' hi he => by
        rcases at_ i _ he with ⟨rfl, e⟩ | ⟨_, he⟩
        · exact ⟨rfl, q0, hid⟩
        · exact ⟨rfl, p', he⟩ }
  refine ⟨hK, ?_⟩
  exact {
    good := h.good
    st := ⟨fun i bk hi => by
        rcases at_ i _ hi with ⟨rfl, e⟩ | ⟨hne, hi⟩
        · cases e
          rw [hp]
          exact ⟨b, o1, rfl, new, hq⟩
        · exact (h.st.blk i bk hi).mono hK fun g bs hpi => old g (other i bk g bs hne hi hpi),
      fun i j bi bj p q hi hj hpi hqj he => by
        have alive : ∀ (i : Id) bi, (σ.put id (some (.obj q1)))[i]? = some (some bi) → ∃ b0, σ[i]? = some (some b0) := fun i bi hi => by
          rcases at_ i _ hi with ⟨rfl, _⟩ | ⟨_, hi⟩
          · exact ⟨_, hid⟩
          · exact ⟨_, hi⟩
        obtain ⟨b1, h1⟩ := alive i bi hi
        obtain ⟨b2, h2⟩ := alive j bj hj
        exact h.st.inj i j b1 b2 p q h1 h2 hpi hqj he⟩
    keep := fun i blk g bs hi hpi hKb => by
      rcases at_ i _ hi with ⟨rfl, _⟩ | ⟨_, hi⟩
      · exact h.keep i _ g bs hid hpi hKb
      · exact h.keep i blk g bs hi hpi hKb
    os := h.os
    tape := h.tape
    output := h.output
    size := by rw [hsize]; exact h.size
    block := fun g hKb => (old g (fun e => by subst e; exact h.keep id _ g 0 hid hp hKb)).trans (h.block g hKb)
    kept := Kept.trans h.size h.kept hK }
/-! ### Words -/
def mget {K V : Type} [DecidableEq K] : List (K × V) → K → Option V
  | [], _ => none
  | p :: r, k => if k = p.1 then some p.2 else mget r k
def mset {K V : Type} [DecidableEq K] : List (K × V) → K → V → List (K × V)
  | [], k, v => [(k, v)]
  | p :: r, k, v => if k = p.1 then (k, v) :: r else p :: mset r k v
def mapP {K V : Type} (fk : K → Value) (fv : V → Value) (m : List (K × V)) : Obj → Prop := fun o => ∃ es c, o = .map es c ∧ es.toList.map (fun e => (e.key, e.val)) = m.map fun p => (fk p.1, fv p.2)
abbrev mapB {K V : Type} (fk : K → Value) (fv : V → Value) (m : List (K × V)) : Blk := .obj (mapP fk fv m)
/-- Keys that are compared as' they stand. -/
structure KeyT (d : TypeDesc) {K : Type} (fk : K → Value) : Prop where
  key : ∀ k, Go.MapKept.IsKey d (fk k)
  inj : ∀ {a b}, fk a = fk b → a = b
theorem keyStr : KeyT .string Value.string := ⟨fun _ => trivial, fun h => by cases h; rfl⟩
section
variable {K V : Type} [DecidableEq K] {fk : K → Value} {fv : V → Value} {d : TypeDesc}
theorem find_rel (hk : KeyT d fk) (k : K) : ∀ (m : List (K × V)) (l : List MapEntry) (i : Nat), l.map (fun e => (e.key, e.val)) = m.map (fun p => (fk p.1, fv p.2)) →
    (mget m k = none ∧ Instr.findNow d (fk k) l i = some none ∧ ∀ v born, (l ++ [({ key := fk k, val := fv v, born := born } : MapEntry)]).map (fun e => (e.key, e.val)) = (mset m k v).map fun p => (fk p.1, fv p.2)) ∨
    ∃ v j e, mget m k = some v ∧ Instr.findNow d (fk k) l i = some (some (i + j, fv v)) ∧ l[j]? = some e ∧ e.key = fk k ∧ ∀ v', (l.modify j fun e => { e with key := fk k, val := fv v' }).map (fun e => (e.key, e.val)) = (mset m k v').map fun p => (fk p.1, fv p.2)
  | [], [], i, _ => .inl ⟨rfl, rfl, fun v born => rfl⟩
  | [], _ :: _, i, h => by simp at h
  | _ :: _, [], i, h => by simp at h
  | p :: m, e :: l, i, h => by
    simp only [List.map_cons, List.cons.injEq, Prod.mk.injEq] at h
    obtain ⟨⟨h1, h2⟩, h3⟩ := h
    have hs : ∃ r, Instr.sameNow d (fk k) e.key = some r ∧ (r = true ↔ fk k = e.key) := Go.MapKept.sameNow_of_keys (hk.key k) (by rw [h1]; exact hk.key p.1)
    obtain ⟨r, hr, hiff⟩ := hs
    by_cases c : k = p.1
    · have : r = true := hiff.2 (by rw [h1, c])
      subst this
      right
      refine ⟨p.2, 0, e, by simp [mget, c], by simp [Instr.findNow, hr, h2], rfl, by rw [h1, c], fun v' => ?_⟩
      simp only [List.modify_zero_cons, List.map_cons, mset, if_pos c]
      rw [h3]
    · have : r = false := by
        cases r with
        | false => rfl
        | true => exact absurd (hk.inj ((hiff.1 rfl).trans h1)) c
      subst this
      rcases find_rel hk k m l (i + 1) h3 with ⟨g1, g2, g3⟩ | ⟨v, j, e', g1, g2, g3, g4, g5⟩
      · left
        refine ⟨by simp [mget, c, g1], by simp [Instr.findNow, hr, g2], fun v born => ?_⟩
        simp only [List.cons_append, List.map_cons, mset, if_neg c]
        rw [g3 v born, h1, h2]
      · right
        refine ⟨v, j + 1, e', by simp [mget, c, g1], by simp [Instr.findNow, hr, g2]; omega, by simpa using g3, g4, fun v' => ?_⟩
        simp only [List.modify_succ_cons, List.map_cons, mset, if_neg c]
        rw [g5 v', h1, h2]
end
section
variable {P : Program} {σ0 : Store} {sz : Nat} {Q : Post} {env env' : Env} {σv σ' : Store} {ops : Array Oper} {rest : List Oper} {dst : Option Nat} {ty : TypeId} {pos : String} {after : Array Edge}
variable {K V : Type} [DecidableEq K] {fk : K → Value} {fv : V → Value} {d : TypeDesc}
theorem map_inv {w : World} {φ : Phi} {σ : Store} {A : Nat → Prop} {id : Id} {p : Obj → Prop} {u : Value} (h : RelT w φ σ A (.c (.map id)) u) (hσ : σ[id]? = some (some (.obj p))) : ∃ b base, φ id = some (b, base) ∧ u = .map (some b) := by
  cases h with | c h => cases h with | map hid h1 h => exact h p hσ
theorem valM_inv {w : World} {φ : Phi} {σ : Store} {A : Nat → Prop} {v u : Value} (h : RelT w φ σ A (.c (.imm (.val v))) u) : u = v ∧ v.oneCell' = true := by
  cases h with | c h => cases h with | imm h => cases h with | val h => exact ⟨rfl, h⟩
/-- A new map. -/
theorem W.makeMap {t : TypeId} {id : Id} (fk : K → Value) (fv : V → Value) (hid : newF σv = some id) (hσ : snocF σv (.one (mapB fk fv [])) = some σ') (hd : dstOk sz dst = true)
    (h : AOps P σ0 sz ops Q rest (St.mk (putE env dst (.c (.map id))) σ')) : AOps P σ0 sz ops Q (⟨dst, .makeMap t none, ty, pos, after, none⟩ :: rest) (St.mk env σv) := by
  have h2 := newF_eq hid; have h3 := snocF_eq hσ
  subst h2 h3
  refine .valueW rfl hd _ _ (fun Γ φ a w hR => ?_) h
  have hA := Rs.allocO (p0 := mapP fk fv []) (ob := .map #[] 0) hR.toRs ⟨#[], 0, rfl, rfl⟩
  refine ⟨.map (some w.heap.size), w.alloc (.map #[] 0), _, by simp [execOp, Instr.makeMap], .c (.map (by simp) rfl fun p hp => ⟨w.heap.size, 0, by simp [phiNew], rfl⟩), hR.of hA.1 hA.2⟩
/-- A look into a map whose values are of one cell. -/
theorem W.lookup {x y : Operand} {t kt vt : TypeId} {id : Id} {m : List (K × V)} {k : K} {z : V} {size bytes : Nat} {zv : Value} [ht : TyD P t (.map kt vt)] [hkt : TyD P kt d] [hs : TyS P vt size bytes zv] (hk : KeyT d fk) (hz : zv = fv z) (h1 : ∀ v, (fv v).oneCell' = true)
    (hx : ev env x = some (.c (.map id))) (hy : ev env y = some (.c (.imm (.val (fk k))))) (hσ : σv[id]? = some (some (mapB fk fv m))) (hd : dstOk sz dst = true)
    (h : AOps P σ0 sz ops Q rest (St.mk (putE env dst (.c (.imm (.val (fv ((mget m k).getD z)))))) σv)) : AOps P σ0 sz ops Q (⟨dst, .lookup t x y false, ty, pos, after, none⟩ :: rest) (St.mk env σv) := by
  refine .valueW rfl hd _ _ (fun Γ φ a w hR => ?_) h
  obtain ⟨b, base, hp, hv⟩ := map_inv (ev_rel hR hx) hσ
  obtain ⟨hv2, _⟩ := valM_inv (ev_rel hR hy)
  obtain ⟨b', o, g1, g2, es, c, rfl, g3⟩ := hR.st.blk _ _ hσ
  rw [hp] at g1; cases g1
  refine ⟨fv ((mget m k).getD z), w, φ, ?_, .c (.imm (.val (h1 _))), hR⟩
  rcases find_rel hk k m es.toList 0 g3 with ⟨q1, q2, _⟩ | ⟨v, j, e, q1, q2, _⟩
  · simp [execOp, hv, hv2, Instr.lookup, run_underlying ht.h, Go.MapKept.run_getObj_map g2, Go.MapKept.run_checkKey hkt.h (hk.key k), Go.MapKept.run_findKey hkt.h q2, run_zero (t := vt), q1, hz, Result.andThen]
  · simp [execOp, hv, hv2, Instr.lookup, run_underlying ht.h, Go.MapKept.run_getObj_map g2, Go.MapKept.run_checkKey hkt.h (hk.key k), Go.MapKept.run_findKey hkt.h q2, q1, Result.andThen]
/-- An entry written. -/
theorem W.mapUpdate {x y v : Operand} {t kt vt : TypeId} {id : Id} {m : List (K × V)} {k : K} {a : V} [ht : TyD P t (.map kt vt)] [hkt : TyD P kt d] (hk : KeyT d fk)
    (hx : ev env x = some (.c (.map id))) (hy : ev env y = some (.c (.imm (.val (fk k))))) (hv : ev env v = some (.c (.imm (.val (fv a))))) (hσ : σv[id]? = some (some (mapB fk fv m))) (hσ' : σv.put id (some (mapB fk fv (mset m k a))) = σ')
    (h : AOps P σ0 sz ops Q rest (St.mk env σ')) : AOps P σ0 sz ops Q (⟨none, .mapUpdate t x y v, ty, pos, after, none⟩ :: rest) (St.mk env σv) := by
  subst hσ'
  refine .skipW rfl rfl _ (fun Γ φ ac w hR => ?_) h
  obtain ⟨b, base, hp, e1⟩ := map_inv (ev_rel hR hx) hσ
  obtain ⟨e2, _⟩ := valM_inv (ev_rel hR hy)
  obtain ⟨e3, _⟩ := valM_inv (ev_rel hR hv)
  obtain ⟨b', o, g1, g2, es, c, rfl, g3⟩ := hR.st.blk _ _ hσ
  rw [hp] at g1; cases g1
  rcases find_rel hk k m es.toList 0 g3 with ⟨q1, q2, q3⟩ | ⟨v0, j, e, q1, q2, q3, q4, q5⟩
  · have hW := Rs.writeO (q1 := mapP fk fv (mset m k a)) (o1 := .map (es.push { key := fk k, val := fv a, born := c }) (c + 1)) hR.toRs hσ hp g2 ⟨_, _, rfl, by rw [Array.toList_push]; exact q3 a c⟩
    refine ⟨_, φ, ?_, hR.of hW.1 hW.2⟩
    simp [execOp, e1, e2, e3, Instr.mapUpdate, run_underlying ht.h, Go.MapKept.run_getObj_map g2, Go.MapKept.run_checkKey hkt.h (hk.key k), Go.MapKept.run_findKey hkt.h q2, Go.MapKept.run_setObj_map _ g2, Result.andThen]
  · have hj : es[j]? = some e := by simpa using q3
    have hW := Rs.writeO (q1 := mapP fk fv (mset m k a)) (o1 := .map (es.modify j fun e => { e with key := fk k, val := fv a }) c) hR.toRs hσ hp g2 ⟨_, _, rfl, by rw [Array.toList_modify]; exact q5 a⟩
    refine ⟨_, φ, ?_, hR.of hW.1 hW.2⟩
    simp [execOp, e1, e2, e3, Instr.mapUpdate, run_underlying ht.h, Go.MapKept.run_getObj_map g2, Go.MapKept.run_checkKey hkt.h (hk.key k), Go.MapKept.run_findKey hkt.h q2, hj, q4, Go.MapKept.run_keyThatStays (hk.key k), Go.MapKept.run_setObj_map _ g2, Result.andThen]
end
/-! ### Functions that call themselves -/
def recN {A R : Type} (F : (A → Option R) → A → Option R) : Nat → A → Option R
  | 0, _ => none
  | n + 1, a => F (recN F n) a
/-- The value of a function that calls itself. -/
noncomputable def Rec {A R : Type} (F : (A → Option R) → A → Option R) (a : A) : Option R := open Classical in
  if h : ∃ r n, recN F n a = some r then some h.choose else none
theorem Rec_some {A R : Type} {F : (A → Option R) → A → Option R} {a : A} {r : R} (h : Rec F a = some r) : ∃ n, recN F n a = some r := by
  unfold Rec at h
  split at h
  · rename_i hx
    cases h
    exact hx.choose_spec
  · cases h
theorem Rec_of {A R : Type} {F : (A → Option R) → A → Option R} {a : A} {r : R} {n : Nat} (h : recN F n a = some r) : ∃ r', Rec F a = some r' ∧ ∃ m, recN F m a = some r' := by
  have hx : ∃ r n, recN F n a = some r := ⟨r, n, h⟩
  refine ⟨hx.choose, ?_, hx.choose_spec⟩
  unfold Rec
  rw [dif_pos hx]
end Ab
end
section
namespace Ab
open Go
def strL (s : ByteArray) : List Int := s.data.toList.map fun b => (b.toNat : Int)
def strB (l : List Int) : ByteArray := ⟨(l.map fun n => UInt8.ofNat n.toNat).toArray⟩
def subS (s : ByteArray) (lo hi : Int) : Option ByteArray := if 0 ≤ lo ∧ lo ≤ hi ∧ hi ≤ s.size then some (s.extract lo.toNat hi.toNat) else none
theorem strL_len (s : ByteArray) : (strL s).length = s.size := by
  simp [strL]
theorem strCells_eq (s : ByteArray) : Lib.strCells s = (strL s).map fun n => Value.int .u8 n := by
  simp [Lib.strCells, strL]
structure ShowsS (w : World) (φ : Phi) (σ : Store) (A : Nat → Prop) (k : Nat) (es : List (List C)) (us : List Value) : Prop where
  len : us.length = es.length * k
  one : ∀ u ∈ us, u.oneCell' = true
  hk : ∀ (j : Nat) (e : List C), es[j]? = some e → e.length = k
  rel : ∀ (j : Nat) (e : List C) (o : Nat) (x : C), es[j]? = some e → e[o]? = some x → ∃ u, us[j * k + o]? = some u ∧ RelC w φ σ A x u
def strE (s : ByteArray) : List (List C) := (strL s).map fun n => [C.imm (.val (.int .u8 n))]
theorem str_shows (w : World) (φ : Phi) (σ : Store) (A : Nat → Prop) (s : ByteArray) : ShowsS w φ σ A 1 (strE s) (Lib.strCells s) := by
  refine ⟨by simp [strE, strL, Lib.strCells], Lib.strCells_oneCell s, fun j e he => ?_, fun j e o x he hx => ?_⟩
  · simp only [strE, List.getElem?_map, Option.map_eq_some_iff] at he
    obtain ⟨n, _, rfl⟩ := he
    rfl
  · simp only [strE, List.getElem?_map, Option.map_eq_some_iff] at he
    obtain ⟨n, h1, rfl⟩ := he
    cases o with
    | succ o => simp at hx
    | zero =>
      simp only [List.getElem?_cons_zero, Option.some.injEq] at hx
      subst hx
      refine ⟨.int .u8 n, ?_, .imm (.val rfl)⟩
      rw [strCells_eq, List.getElem?_map, Nat.mul_one, Nat.add_zero, h1]
      rfl
theorem app_relS {w : World} {φ : Phi} {σ : Store} {A : Nat → Prop} {k : Nat} {es new : List (List C)} {b : Option Addr} {us vs : List Value} (h : Shows w φ σ A k es b us) (g : ShowsS w φ σ A k new vs) :
    (∀ (j : Nat) (e : List C), (es ++ new)[j]? = some e → e.length = k) ∧ ∀ (j : Nat) (e : List C) (o : Nat) (x : C), (es ++ new)[j]? = some e → e[o]? = some x → ∃ u, (us ++ vs)[j * k + o]? = some u ∧ RelC w φ σ A x u := by
  refine ⟨fun j e he => ?_, fun j e o x he hx => ?_⟩
  · rw [List.getElem?_append] at he
    split at he
    · exact h.hk _ _ he
    · exact g.hk _ _ he
  · rw [List.getElem?_append] at he
    split at he
    · rename_i hj
      obtain ⟨u, hu, hr⟩ := h.rel j e o x he hx
      exact ⟨u, by rw [List.getElem?_append_left (List.getElem?_eq_some_iff.1 hu).1]; exact hu, hr⟩
    · rename_i hj
      obtain ⟨u, hu, hr⟩ := g.rel _ e o x he hx
      refine ⟨u, ?_, hr⟩
      have : us.length ≤ j * k + o := by
        rw [h.len]
        have := Nat.mul_le_mul_right k (Nat.not_lt.1 hj)
        omega
      rw [List.getElem?_append_right this, h.len]
      rw [Nat.sub_mul] at hu
      have := Nat.mul_le_mul_right k (Nat.not_lt.1 hj)
      rw [show j * k + o - es.length * k = j * k - es.length * k + o by omega]
      exact hu
section
variable {P : Program} (w : World)
theorem run_append_roomS {t u ty e : TypeId} {k bytes : Nat} {z : Value} [ht : TyD P t (.slice e)] [hu : TyD P u .string] [hs : TyS P e k bytes z] {g off sLen sCap : Nat} {cur : Array Value} {ety : TypeId} (hg : w.heap[g]? = some (.cells cur ety (0, 0)))
    (s : ByteArray) (hk1 : k = 1)
    (hroom : sLen + s.size ≤ sCap) (hfit : off + sCap * k ≤ cur.size) :
    (Builtin.append_ #[t, u] ty #[.slice (some ⟨g, off, none⟩) sLen sCap, .string s]).run P w =
      .ok (.slice (some ⟨g, off, none⟩) (sLen + s.size) sCap) (w.setRow g (cur.toList.take (off + sLen * k) ++ (Lib.strCells s) ++ cur.toList.drop (off + sLen * k + (Lib.strCells s).length)).toArray) := by
  have hl : (Lib.strCells s).length = s.size * k := by rw [Lib.strCells_length, hk1, Nat.mul_one]
  have h1 := Lib.strCells_oneCell s
  have hf := Lib.run_firstCells_string (P := P) w k s
  have hmk : (sLen + s.size) * k ≤ sCap * k := Nat.mul_le_mul_right _ hroom
  rw [Nat.add_mul] at hmk
  have hst := run_storeCells_at P g (off + sLen * k) ety (Lib.strCells s) 0 cur w hg (by omega) h1
  simp only [Nat.add_zero] at hst
  have hsz := run_sizeOf (P := P) (t := e) w
  simp [Builtin.append_, run_underlying ht.h, run_underlying hu.h, hsz, Builtin.lenOf, hroom, hf, add_none, hst]
theorem run_append_growS {t u ty e : TypeId} {k bytes : Nat} {z : Value} [ht : TyD P t (.slice e)] [hu : TyD P u .string] [hs : TyS P e k bytes z] {b0 : Option Addr} {sLen sCap : Nat} {olds : List Value} (hlo : olds.length = sLen * k) (hno : b0 = none → olds = []) (hco : ∀ ad, b0 = some ad → ∀ (j : Nat) (u : Value), olds[j]? = some u → w.cell? (ad.add j) = some u)
    (s : ByteArray) (hk1 : k = 1)
    (hg : sCap < sLen + s.size) (hb : (sLen + s.size) * bytes ≤ 140737488355328) (hmax : sLen + s.size ≤ 9223372036854775807) :
    (Builtin.append_ #[t, u] ty #[.slice b0 sLen sCap, .string s]).run P w =
      .ok (.slice (some ⟨w.heap.size, 0, none⟩) (sLen + s.size) (grownCap w (sLen + s.size) sCap e)) (w.drew.alloc (.cells (olds.toArray ++ (Lib.strCells s).toArray ++ Builtin.zeroCells z.cells (grownCap w (sLen + s.size) sCap e - (sLen + s.size))) e)) := by
  obtain ⟨i, hi1, hi2, hi3, hi4⟩ := hs.h
  subst hi2 hi3
  have hfit := growslice_fits hg hb
  have h48 : ¬ (281474976710656 < Builtin.nextslicecap (sLen + s.size) sCap * i.bytes) := by omega
  have h63 : ¬ (9223372036854775807 < ((sLen : Int) + (s.size : Int))) := by omega
  have hnr : ¬ (sLen + s.size ≤ sCap) := by omega
  have hf := Lib.run_firstCells_string (P := P) w.drew i.size s
  have hfo := run_first (P := P) w.drew (size := i.size) (cap := sCap) hlo hno (fun ad h j u hu => by simpa using hco ad h j u hu)
  simp [Builtin.append_, run_underlying ht.h, run_underlying hu.h, Go.sizeOf, typeInfo, zeroValue, hi1, hi4, Builtin.lenOf, hnr, h63, h48, Question.forced, hf, hfo, newRow, grownCap]
  rw [← Array.append_assoc, List.append_toArray olds (Lib.strCells s)]
end
section
variable {P : Program} {σ0 : Store} {sz : Nat} {Q : Post} {env : Env} {σv : Store} {ops : Array Oper} {rest : List Oper} {dst : Option Nat} {ty : TypeId} {pos : String} {after : Array Edge}
theorem append_newS {Γ : Cx} {φ : Phi} {a : Act} {w : World} (hR : R Γ sz (St.mk env σv) φ a w) {k : Nat} {t u ty' e : TypeId} {bytes : Nat} {z : Value} [ht : TyD P t (.slice e)] [hu : TyD P u .string] [hs : TyS P e k bytes z] (hzk : (z.cells.size == k) = true)
    {b0 : Option Addr} {n cap0 : Nat} {old : List (List C)} {us0 : List Value} (ho : Shows w φ σv (Al Γ.N φ σv) k old b0 us0) (hon : old.length = n)
    {new : List (List C)} (s : ByteArray) (hk1 : k = 1) (hns : new.length = s.size) (hn : ShowsS w φ σv (Al Γ.N φ σv) k new (Lib.strCells s)) (hg : cap0 < n + new.length) (hb : (n + new.length) * bytes ≤ 140737488355328) (hmax : n + new.length ≤ maxLen) (σ1 : Store)
    (hkill : ∀ (φ : Phi) (w : World), Rs Γ σv φ w → Kept w w φ φ σv σ1 (Al Γ.N φ σv) (Al Γ.N φ σ1) ∧ Rs Γ σ1 φ w) (hl1 : σ1.length = σv.length) :
    ∃ v' w' φ', (Builtin.append_ #[t, u] ty' #[.slice b0 n cap0, .string s]).run P w = .ok v' w' ∧
      RelT w' φ' (σ1 ++ [.one (.cells k (old ++ new))]) (Al Γ.N φ' (σ1 ++ [.one (.cells k (old ++ new))])) (.c (.own (σv.length, []) 0 (n + new.length))) v' ∧ R Γ sz ⟨env, σ1 ++ [.one (.cells k (old ++ new))]⟩ φ' a w' := by
  have hmax' : n + new.length ≤ 9223372036854775807 := by simpa [maxLen] using hmax
  have hrun := run_append_growS (P := P) (t := t) (u := u) (ty := ty') (sLen := n) (sCap := cap0) w (by rw [ho.len, hon]) (fun h => by rw [ho.none h] at ho; exact List.eq_nil_of_length_eq_zero (by simpa using ho.len)) ho.cell s hk1 (by omega) (by rw [← hns]; exact hb) (by omega)
  rw [← hns] at hrun
  have hge := grownCap_ge w (n + new.length) cap0 e
  have hcm : grownCap w (n + new.length) cap0 e ≤ maxLen := grownCap_le_maxLen w (n + new.length) cap0 e hmax
  obtain ⟨hK1, hR1⟩ := hkill φ w.drew hR.toRs.drew
  have hK0 := Kept.drew w φ σv (Al Γ.N φ σv)
  have hK01 := Kept.trans (show w.heap.size ≤ w.drew.heap.size from Nat.le_refl _) hK0 hK1
  have hap := app_relS ho hn
  have hz : z.cells.size = k := by simpa using hzk
  generalize hcap : grownCap w (n + new.length) cap0 e = cap at *
  have hsize : (us0.toArray ++ (Lib.strCells s).toArray ++ Builtin.zeroCells z.cells (cap - (n + new.length))).size = cap * k := by
    simp only [Array.size_append, List.size_toArray, size_zeroCells, hz, ho.len, hn.len, hon, ← Nat.add_mul]
    congr 1
    omega
  have hA := Rs.alloc (k := k) (es := old ++ new) (arr := us0.toArray ++ (Lib.strCells s).toArray ++ Builtin.zeroCells z.cells (cap - (n + new.length))) (ety := e) hR1 hap.1 (by
      rw [hsize, List.length_append, hon]
      exact Nat.mul_le_mul_right _ hge) (fun j e' o x he hx => by
      obtain ⟨u, hu, hr⟩ := hap.2 j e' o x he hx
      refine ⟨u, ?_, hr.mono hK01⟩
      rw [Array.getElem?_append_left (by
        have := (List.getElem?_eq_some_iff.1 hu).1
        simpa using this)]
      simpa using hu)
  rw [hl1] at hA
  refine ⟨_, _, phiNew σv.length φ w.heap.size, hrun, cellOwn (k := k) (es := old ++ new) (by rw [← hl1]; exact Store.get_last _ _) rfl (.inr ⟨w.heap.size, 0, cap, _, e, _, by simp [phiNew], rfl, fun _ => by simp, hge, hcm, by simp [hon], heap_alloc_new w.drew _, by rw [hsize]; simp⟩), ?_⟩
  exact hR.of (Kept.trans (show w.heap.size ≤ w.drew.heap.size from Nat.le_refl _) hK01 hA.1) hA.2
theorem AOps.appendStr {x y : Operand} {t u e : TypeId} {k bytes : Nat} {z : Value} {id : Id} {j n : Nat} {es : List (List C)} {s : ByteArray} (hk1 : k = 1) [ht : TyD P t (.slice e)] [hu : TyD P u .string] [hs : TyS P e k bytes z] (hzk : (z.cells.size == k) = true) (hbp : Nat.blt 0 bytes = true)
    (hx : ev env x = some (.c (.own id j n))) (hσ : σv[id]? = some (some (.cells k es))) (hy : ev env y = some (.c (.imm (.val (.string s))))) (hb : (n + s.size) * bytes ≤ 140737488355328) (hd : dstOk sz dst = true)
    (h : AOps P σ0 sz ops Q rest ((St.mk env (σv.put id none ++ [.one (.cells k ((es.drop j).take n ++ strE s))])).put dst (.c (.own (σv.length, []) 0 (n + s.size))))) :
    AOps P σ0 sz ops Q (⟨dst, .call ⟨.builtin .append, #[x, y], #[t, u]⟩, ty, pos, after, none⟩ :: rest) (St.mk env σv) :=
  .valueW rfl hd _ _ (fun Γ φ a w hR => by
    have hy1 : a.eval y = .string s := (valM_inv (ev_rel hR hy)).1
    have hy2 : ShowsS w φ σv (Al Γ.N φ σv) k (strE s) (Lib.strCells s) := by subst hk1; exact str_shows _ _ _ _ s
    have hns : (strE s).length = s.size := by simp [strE, strL_len]
    rw [← hns] at hb ⊢
    generalize hnw : strE s = new at hb hy2 hns ⊢
    generalize hus' : Lib.strCells s = us' at hy2
    have hv := own_inv (ev_rel hR hx) hσ
    obtain ⟨b0, cap0, us0, hx1, hx2, hx3⟩ := view_shows hR hσ hv
    have ex : (execOp a.eval ⟨dst, .call ⟨.builtin .append, #[x, y], #[t, u]⟩, ty, pos, after, none⟩).run P w = ((Builtin.append_ #[t, u] ty #[.slice b0 n cap0, .string s]).run P w).andThen fun v w => .ok (.value v) w := by
      simp [execOp, resolve, invoke, builtin, hx1, hy1]
    rw [ex]
    by_cases hroom : n + new.length ≤ cap0
    · rcases hv with ⟨h1, h2, h3, h4⟩ | ⟨b, base, cap, arr, ety, ad, hp, hv, had, hcap, hmax, hjn, hbk, hsz⟩
      · -- nil, and nothing is appended
        rw [hx1] at h2
        cases h2
        have hnew : new = [] := List.eq_nil_of_length_eq_zero (by omega)
        subst hnew
        subst h3
        obtain ⟨hK1, hR1⟩ := hR.toRs.kill id
        obtain ⟨hK2, hR2⟩ := hR1.virt k
        have hrun : (Builtin.append_ #[t, u] ty #[.slice none 0 0, .string s]).run P w = .ok (.slice none 0 0) w := by
          have hs0 : s.size = 0 := by rw [← hns]; rfl
          have hc0 : us' = [] := List.eq_nil_of_length_eq_zero (by simpa using hy2.len)
          have hf := Lib.run_firstCells_string (P := P) w k s
          rw [hs0, hus', hc0] at hf
          simp [Builtin.append_, run_underlying ht.h, run_underlying hu.h, run_sizeOf (t := e), Builtin.lenOf, hs0, hf]
        refine ⟨.slice none 0 0, w, (fun i => if i = (σv.length, []) then none else φ i), by rw [hrun]; rfl, ?_, ?_⟩
        · simp only [List.take_zero, List.append_nil]
          exact cellOwn (k := k) (es := []) (by rw [← Store.length_put σv id none]; exact Store.get_last _ _) rfl (.inl ⟨by simp, rfl, rfl, rfl⟩)
        · simp only [List.take_zero, List.append_nil]
          rw [Store.length_put] at hK2 hR2
          exact hR.of (Kept.trans (Nat.le_refl _) hK1 hK2) hR2
      · rw [hx1] at hv
        cases hv
        have hpos : 0 < n + new.length ∨ n + new.length = 0 := by omega
        by_cases hc0 : 0 < cap0
        · have := had hc0
          subst this
          have hfit : base + j * k + cap0 * k ≤ arr.size := by rw [Nat.add_mul] at hsz; omega
          have hrun := run_append_roomS (P := P) (t := t) (u := u) (ty := ty) w (sLen := n) (sCap := cap0) hbk s hk1 (by omega) hfit
          rw [← hns, hus'] at hrun
          have hap := app_relS hx3 hy2
          have hmk : (n + new.length) * k ≤ cap0 * k := Nat.mul_le_mul_right _ hroom
          rw [Nat.add_mul] at hmk
          have hus : us'.length = new.length * k := hy2.len
          have hus0 : us0.length = n * k := by rw [hx3.len, hx2]
          have hA := Rs.reown (k := k) (base' := base + j * k) (es' := (es.drop j).take n ++ new) (arr' := (arr.toList.take (base + j * k + n * k) ++ us' ++ arr.toList.drop (base + j * k + n * k + us'.length)).toArray) hR.toRs hσ hp hbk hap.1 (by simp only [List.length_append, hx2, List.size_toArray, List.length_take, List.length_drop, Array.length_toList, Nat.add_mul]; omega) (fun i e' o x' he hx' => by
            obtain ⟨u, hu, hr⟩ := hap.2 i e' o x' he hx'
            refine ⟨u, ?_, hr⟩
            have hsp := getElem?_splice arr.toList us' (base + j * k + n * k) (base + j * k + (i * k + o)) (by simp; omega)
            simp only [List.getElem?_toArray]
            rw [hsp]
            by_cases hio : i * k + o < n * k
            · rw [if_neg (by omega)]
              rw [List.getElem?_append_left (by omega)] at hu
              -- what stood there
              obtain ⟨arr2, ety2, hb2, _, hkk, hcs⟩ := own_cells hR hσ hp
              rw [hbk] at hb2; cases hb2
              have hi : i < n := by
                rcases Nat.lt_or_ge i n with h | h
                · exact h
                · have := Nat.mul_le_mul_right k h; omega
              have hcell := hx3.cell _ rfl _ u hu
              rw [add_none, cell_of hbk] at hcell
              simpa using hcell
            · rw [List.getElem?_append_right (by omega)] at hu
              have hlt := (List.getElem?_eq_some_iff.1 hu).1
              rw [if_pos (by omega), show base + j * k + (i * k + o) - (base + j * k + n * k) = i * k + o - us0.length by omega]
              exact hu)
          refine ⟨_, _, _, by rw [hrun]; rfl, ?_, hR.of hA.1 hA.2⟩
          refine cellOwn (k := k) (es := (es.drop j).take n ++ new) (by rw [← Store.length_put σv id none]; exact Store.get_last _ _) rfl (.inr ⟨b, base + j * k, cap0, _, ety, _, by simp, rfl, fun _ => by simp, hroom, hmax, by simp [hx2], setRow_heap w b arr _ ety (0, 0) hbk, ?_⟩)
          simp only [List.size_toArray, List.length_append, List.length_take, List.length_drop, Array.length_toList, Nat.zero_add]
          omega
        · -- no room at all, and nothing is appended
          have h0 : cap0 = 0 := by omega
          subst h0
          have hn0 : n = 0 := by omega
          have hnew : new = [] := List.eq_nil_of_length_eq_zero (by omega)
          subst hnew
          subst hn0
          have hrun : (Builtin.append_ #[t, u] ty #[.slice (some ad) 0 0, .string s]).run P w = .ok (.slice (some ad) 0 0) w := by
            have hs0 : s.size = 0 := by rw [← hns]; rfl
            have hc0 : us' = [] := List.eq_nil_of_length_eq_zero (by simpa using hy2.len)
            have hf := Lib.run_firstCells_string (P := P) w k s
            rw [hs0, hus', hc0] at hf
            simp [Builtin.append_, run_underlying ht.h, run_underlying hu.h, run_sizeOf (t := e), Builtin.lenOf, hs0, hf, storeCells]
          have hA := Rs.reown (k := k) (base' := base + j * k) (es' := []) (arr' := arr) hR.toRs hσ hp hbk (fun i e' he => by simp at he) (by simp; rw [Nat.add_mul] at hsz; omega) (fun i e' o x' he => by simp at he)
          rw [setRow_self w b arr ety (0, 0) hbk] at hA
          refine ⟨.slice (some ad) 0 0, w, (fun i => if i = (σv.length, []) then some (b, base + j * k) else φ i), by rw [hrun]; rfl, ?_, ?_⟩
          · simp only [List.take_zero, List.append_nil]
            exact cellOwn (k := k) (es := []) (by rw [← Store.length_put σv id none]; exact Store.get_last _ _) rfl (.inr ⟨b, base + j * k, 0, arr, ety, ad, by simp, rfl, fun h => by omega, by simp, by simp [maxLen], by simp, hbk, by simp; rw [Nat.add_mul] at hsz; omega⟩)
          · simp only [List.take_zero, List.append_nil]
            exact hR.of hA.1 hA.2
    · have hmax : n + new.length ≤ maxLen := by
        have hb0 : 0 < bytes := by simpa using hbp
        have : n + new.length ≤ (n + new.length) * bytes := Nat.le_mul_of_pos_right _ hb0
        simp only [maxLen]; omega
      obtain ⟨v', w', φ', g1, g2, g3⟩ := append_newS (P := P) (t := t) (u := u) (e := e) (ty' := ty) hR hzk (cap0 := cap0) hx3 hx2 s hk1 hns (by rw [hus']; exact hy2) (Nat.not_le.1 hroom) hb hmax (σv.put id none) (fun φ w h => h.kill id) (by simp)
      exact ⟨v', w', φ', by rw [g1]; rfl, g2, g3⟩) h
end
abbrev eU8 (n : Int) : List I := [.val (.int .u8 n)]
theorem strE_eq (s : ByteArray) : strE s = ((strL s).map eU8).map (·.map C.imm) := by simp [strE]
section
variable {P : Program} {σ0 : Store} {sz : Nat} {Q : Post} {env env' : Env} {σv σ' : Store} {ops : Array Oper} {rest : List Oper} {dst : Option Nat} {ty : TypeId} {pos : String} {after : Array Edge}
theorem S.appendStr {l l' : List Int} {s : ByteArray} {x y : Operand} {t u e : TypeId} {bytes m : Nat} {n : Id} {z : Value} {id : Id} {σ1 : Store} [ht : TyD P t (.slice e)] [hu : TyD P u .string] [hs : TyS P e 1 bytes z]
    (ha : app bytes l (strL s) = some l') (hzk : (z.cells.size == 1) = true) (hbp : Nat.blt 0 bytes = true)
    (hx : ev env x = some (.c (.own id 0 m))) (hm : m = l.length) (hσ : σv[id]? = some (some (vec 1 eU8 l))) (hy : ev env y = some (.c (.imm (.val (.string s))))) (hn : newF σv = some n) (h1 : putF σv id none = some σ1) (hσ' : snocF σ1 (.one (vec 1 eU8 l')) = some σ') (hd : dstOk sz dst = true)
    (h : AOps P σ0 sz ops Q rest (St.mk (putE env dst (.c (.own n 0 l'.length))) σ')) :
    AOps P σ0 sz ops Q (⟨dst, .call ⟨.builtin .append, #[x, y], #[t, u]⟩, ty, pos, after, none⟩ :: rest) (St.mk env σv) := by
  obtain ⟨hb, rfl⟩ := app_get ha
  have h2 := putF_get h1
  have h3 := newF_eq hn; have h4 := snocF_eq hσ'
  subst hm h2 h3 h4
  refine AOps.appendStr (s := s) (k := 1) rfl hzk hbp hx hσ hy (by rw [← strL_len]; exact hb) hd ?_
  have e1 : (((((l.map eU8).map (·.map C.imm)).drop 0).take l.length) ++ strE s) = ((l ++ strL s).map eU8).map (·.map C.imm) := by
    rw [List.drop_zero, List.take_of_length_le (by simp), strE_eq]; simp
  have e2 : l.length + s.size = (l ++ strL s).length := by simp [strL_len]
  rw [e1, e2]
  exact h
/-- A part of a string. -/
theorem S.subStr {s s' : ByteArray} {x l r : Operand} {t : TypeId} {kk kk' : IntKind} {lo hi : Int} [ht : TyD P t .string]
    (hsub : subS s lo hi = some s') (hx : ev env x = some (.c (.imm (.val (.string s))))) (hl : ev env l = some (.c (.imm (.val (.int kk lo))))) (hr : ev env r = some (.c (.imm (.val (.int kk' hi))))) (hd : dstOk sz dst = true)
    (h : AOps P σ0 sz ops Q rest (St.mk (putE env dst (.c (.imm (.val (.string s'))))) σv)) : AOps P σ0 sz ops Q (⟨dst, .slice t x (some l) (some r) none, ty, pos, after, none⟩ :: rest) (St.mk env σv) := by
  unfold subS at hsub
  split at hsub
  · rename_i hb
    cases hsub
    refine .value rfl hd _ (fun Γ φ a w hR => ?_) h
    refine ⟨.string (s.extract lo.toNat hi.toNat), ?_, .c (.imm (.val rfl))⟩
    have hx1 := ev_val hR hx
    have hl1 := ev_val hR hl
    have hr1 := ev_val hR hr
    obtain ⟨a1, a2, a3⟩ := hb
    obtain ⟨lo', rfl⟩ := Int.eq_ofNat_of_zero_le a1
    obtain ⟨hi', rfl⟩ := Int.eq_ofNat_of_zero_le (Int.le_trans a1 a2)
    have := run_slice_string (P := P) w t s kk kk' (lo' : Int) (hi' : Int) ht.h (by omega) (by omega) (by omega)
    simp only [Int.toNat_natCast] at this
    simp [execOp, hx1, hl1, hr1, Instr.sliceAt, run_underlying ht.h, this, Result.andThen]
  · cases hsub
/-- Bytes as' a string. -/
theorem S.bytesStr {x : Operand} {src d e : TypeId} {id : Id} {m : Nat} {l : List Int} [h1 : TyD P src (.slice e)] [h2 : TyD P e (.int .u8)] [h3 : TyD P d .string]
    (hx : ev env x = some (.c (.own id 0 m))) (hm : m = l.length) (hσ : σv[id]? = some (some (vec 1 eU8 l))) (hd : dstOk sz dst = true)
    (h : AOps P σ0 sz ops Q rest (St.mk (putE env dst (.c (.imm (.val (.string (strB l)))))) σv)) : AOps P σ0 sz ops Q (⟨dst, .convert src d x, ty, pos, after, none⟩ :: rest) (St.mk env σv) := by
  refine .value rfl hd _ (fun Γ φ a w hR => ?_) h
  refine ⟨.string (strB l), ?_, .c (.imm (.val rfl))⟩
  subst hm
  have hv := own_inv (ev_rel hR hx) hσ
  obtain ⟨b0, cap0, us0, hx1, hx2, hx3⟩ := view_shows hR hσ hv
  have hes : (List.take l.length (List.drop 0 ((l.map eU8).map (·.map C.imm)))) = (l.map eU8).map (·.map C.imm) := by
    rw [List.drop_zero, List.take_of_length_le (by simp)]
  rw [hes] at hx3
  have hus : us0 = l.map (Value.int .u8) := by
    apply List.ext_getElem?
    intro j
    rcases Nat.lt_or_ge j l.length with hj | hj
    · obtain ⟨u, hu, hr⟩ := hx3.rel j [C.imm (.val (.int .u8 l[j]))] 0 _ (by simp [hj]) rfl
      rw [Nat.mul_one, Nat.add_zero] at hu
      have hu2 : u = .int .u8 l[j] := by
        cases hr with | imm h => cases h with | val h => rfl
      rw [hu, hu2]; simp [hj]
    · have := hx3.len
      rw [List.getElem?_eq_none (by rw [this]; simpa using hj), List.getElem?_eq_none (by simpa using hj)]
  cases b0 with
  | none =>
    have hl : l = [] := by
      have := hx3.none rfl
      simpa using this
    subst hl
    simp [execOp, hx1, convert, run_underlying h1.h, run_underlying h2.h, run_underlying h3.h, Conv.bytesToString, strB, Result.andThen]
    rfl
  | some ad =>
    have hl := run_loadCells_list (P := P) w ad (l.map (Value.int .u8)) (fun j v hj => hx3.cell ad rfl j v (by rw [hus]; exact hj))
    simp only [List.length_map] at hl
    have hrun : (convert src d (.slice (some ad) l.length cap0)).run P w = .ok (.string (strB l)) w := by
      rw [run_convert_bytes_string w src d e (some ad) l.length cap0 h1.h h2.h h3.h, run_bytesToString w ad l.length cap0 _ hl, foldl_push_bytes]
      have he0 : ByteArray.empty.data = #[] := rfl
      rw [he0]
      simp [strB]
    simp [execOp, hx1, hrun, Result.andThen]
end
/-! ### Arrays of numbers compared -/
section
variable {P : Program}
variable {σ0 : Store} {sz : Nat} {Q : Post} {env env' : Env} {σv σ' : Store} {ops : Array Oper} {rest : List Oper} {dst : Option Nat} {ty : TypeId} {pos : String} {after : Array Edge}
end
end Ab
end
section
namespace Ab
open Go Go.Sort
theorem Rs.refl {Γ : Cx} (h : Good Γ) : Rs Γ Γ.σ0 Γ.φ0 Γ.w0 where
  good := h
  st := h.st
  keep i blk b base hi hp hK := hK.2 i blk base hi hp
  os := rfl
  tape := rfl
  output := rfl
  size := Nat.le_refl _
  block _ _ := rfl
  kept := Kept.refl _ _ _ _
theorem Kept.ahead (w : World) (n : Nat) (φ : Phi) (σ : Store) (A : Nat → Prop) : Kept w (Go.Sort.ahead w n) φ φ σ σ A A :=
  ⟨fun _ _ _ => rfl, fun _ h _ => h, Nat.le_refl _, fun _ _ es _ h => ⟨es, h, rfl, rfl, fun _ _ arr _ _ h2 => ⟨arr, h2, rfl⟩⟩, fun _ p _ h => ⟨rfl, p, h⟩⟩
theorem Rs.ahead {Γ : Cx} {σ : Store} {φ : Phi} {w : World} (h : Rs Γ σ φ w) (n : Nat) : Rs Γ σ φ (Go.Sort.ahead w n) :=
  { good := h.good, st := ⟨fun i b hi => (h.st.blk i b hi).mono (Kept.ahead w n φ σ _) (fun _ _ _ => rfl), h.st.inj⟩,
    keep := h.keep, os := h.os, tape := h.tape, output := h.output, size := h.size, block := h.block,
    kept := Kept.trans h.size h.kept (Kept.ahead w n φ σ _) }
theorem Kept.grow (w : World) (os : Array Obj) (φ : Phi) (σ : Store) (A : Nat → Prop) : Kept w (Go.Sort.grow w os) φ φ σ σ A A :=
  ⟨fun _ _ hl => heap_grow_old w os hl, fun _ h _ => h, Nat.le_refl _, fun _ _ es _ h => ⟨es, h, rfl, rfl, fun _ _ arr _ _ h2 => ⟨arr, (heap_grow_old w os (Array.getElem?_eq_some_iff.1 h2).1).trans h2, rfl⟩⟩, fun _ p _ h => ⟨rfl, p, h⟩⟩
theorem Rs.blk_lt {Γ : Cx} {σ : Store} {φ : Phi} {w : World} (h : Rs Γ σ φ w) {i : Id} {blk : Blk} {b base : Nat} (hi : σ[i]? = some (some blk)) (hp : φ i = some (b, base)) : b < w.heap.size := Al.own_lt h.st hi hp
theorem Rs.grow {Γ : Cx} {σ : Store} {φ : Phi} {w : World} (h : Rs Γ σ φ w) (os : Array Obj) : Rs Γ σ φ (Go.Sort.grow w os) :=
  { good := h.good, st := ⟨fun i b hi => (h.st.blk i b hi).mono (Kept.grow w os φ σ _) (fun g base hp => heap_grow_old w os (h.blk_lt hi hp)), h.st.inj⟩,
    keep := h.keep, os := h.os, tape := h.tape, output := h.output, size := Nat.le_trans h.size (by simp), block := fun b hK => (heap_grow_old w os (Nat.lt_of_lt_of_le hK.1 h.size)).trans (h.block b hK),
    kept := Kept.trans h.size h.kept (Kept.grow w os φ σ _) }
theorem putRow_setRow {w : World} {b off : Nat} {arr : Array Value} {ety : TypeId} {fr : Nat × Nat} {d : Array Int} (hb : w.heap[b]? = some (.cells arr ety fr)) :
    putRow (Value.int .i64) w b off d = w.setRow b (putCells (Value.int .i64) off d arr) := by
  unfold putRow mapBlock World.setRow
  congr 1
  apply Array.ext_getElem?
  intro k
  simp only [Array.getElem?_modify]
  by_cases hk : b = k
  · subst hk; simp only [if_true, hb, Option.map_some, onCells]
  · simp [hk]
theorem setRow_self {w : World} {b : Nat} {arr : Array Value} {ety : TypeId} {fr : Nat × Nat} (hb : w.heap[b]? = some (.cells arr ety fr)) : w.setRow b arr = w := by
  have key : ∀ h : Array Obj, h = w.heap → ({ w with heap := h } : World) = w := by rintro _ rfl; rfl
  refine key _ ?_
  apply Array.ext_getElem?
  intro k
  simp only [Array.getElem?_modify]
  by_cases hk : b = k
  · subst hk; simp only [if_true, hb, Option.map_some]
  · simp [hk]
theorem putCells_size {off : Nat} {d : Array Int} {arr : Array Value} : (putCells (Value.int .i64) off d arr).size = arr.size := by simp [putCells]
theorem putCells_get {off : Nat} {d : List Int} {arr : Array Value} (h : off + d.length ≤ arr.size) {j : Nat} {x : Int} (hj : d[j]? = some x) : (putCells (Value.int .i64) off d.toArray arr)[off + j]? = some (.int .i64 x) := by
  have hjl := (List.getElem?_eq_some_iff.1 hj).1
  have hx := (List.getElem?_eq_some_iff.1 hj).2
  simp only [putCells, Array.getElem?_mapIdx]
  rw [Array.getElem?_eq_getElem (by omega)]
  simp only [Option.map_some, List.size_toArray]
  rw [if_pos (by omega)]
  simp [hjl, hx]
theorem int_cells {w : World} {φ : Phi} {σ : Store} {A : Nat → Prop} {l : List Int} {base : Nat} {arr : Array Value}
    (hc : ∀ (j : Nat) (e : List C) (o : Nat) (x : C), ((l.map intI).map (·.map C.imm))[j]? = some e → e[o]? = some x → ∃ u, arr[base + (j * 1 + o)]? = some u ∧ RelC w φ σ A x u) {j : Nat} {x : Int} (hj : l[j]? = some x) : arr[base + j]? = some (.int .i64 x) := by
  obtain ⟨u, hu, hr⟩ := hc j _ 0 (.imm (.val (.int .i64 x))) (by simp [hj]; rfl) rfl
  cases hr with | imm hr => cases hr; simpa using hu
theorem holds_of {w : World} {l : List Int} {b base : Nat} {arr : Array Value} {ety : TypeId} (hb : w.heap[b]? = some (.cells arr ety (0, 0))) (hc : ∀ (j : Nat) (x : Int), l[j]? = some x → arr[base + j]? = some (.int .i64 x)) : Holds (Value.int .i64) w b base l.toArray := by
  intro j hj
  have hjl : j < l.length := by simpa using hj
  refine ⟨?_, by simp [World.frozen?, hb]⟩
  rw [World.cell?]
  simp only [hb]
  rw [hc j l[j] (List.getElem?_eq_getElem hjl)]
  simp [hjl]
theorem vec_len {l : List Int} : ((l.map intI).map (·.map C.imm)).length = l.length := by simp
theorem vec_hk {l : List Int} {j : Nat} {e : List C} (h : ((l.map intI).map (·.map C.imm))[j]? = some e) : e.length = 1 := by
  simp only [List.map_map, List.getElem?_map, Option.map_eq_some_iff] at h
  obtain ⟨a, _, rfl⟩ := h; rfl
theorem vec_hc {w : World} {φ : Phi} {σ : Store} {A : Nat → Prop} {l : List Int} {base : Nat} {arr : Array Value} (h : ∀ (j : Nat) (x : Int), l[j]? = some x → arr[base + j]? = some (.int .i64 x)) (j : Nat) (e : List C) (o : Nat) (x : C) (he : ((l.map intI).map (·.map C.imm))[j]? = some e) (hx : e[o]? = some x) :
    ∃ u, arr[base + (j * 1 + o)]? = some u ∧ RelC w φ σ A x u := by
  simp only [List.map_map, List.getElem?_map, Option.map_eq_some_iff] at he
  obtain ⟨a, ha, rfl⟩ := he
  match o with
  | 0 =>
    cases hx
    exact ⟨_, by simpa using h j a ha, .imm (.val rfl)⟩
  | o + 1 => simp at hx
abbrev srt (l : List Int) : List Int := l.mergeSort fun x y => decide (x ≤ y)
def fnFacts (P : Program) (f : FuncId) : Prop := ∃ fn, P.funcs[f]? = some fn ∧ (fn.name == "runtime.NumGoroutine") = false ∧ fn.body.isNone = false
theorem sort_fn {P : Program} {f : FuncId} (hf : fnFacts P f)
    (hC : ∀ (blk off cap : Nat) (zs : List Int) (w : World), Holds (Value.int .i64) w blk off zs.toArray → blk < w.heap.size → zs.length < 4611686018427387904 → Calls P f #[.slice (some ⟨blk, off, none⟩) zs.length cap] w fun e w' => e = .returned (.tuple #[]) ∧ ∃ n os, w' = Go.Sort.grow (putRow (Value.int .i64) (Go.Sort.ahead w n) blk off (srt zs).toArray) os)
    (hC0 : ∀ (p : Option Addr) (cap : Nat) (w : World), Calls P f #[.slice p 0 cap] w fun e w' => e = .returned (.tuple #[]) ∧ w' = w)
    {σ : Store} {id : Id} {l : List Int} (hσ : σ[id]? = some (some (vec 1 intI l))) (hl : l.length < 4611686018427387904) :
    FnOk P f [.c (.own id 0 l.length)] σ fun r σ' => r = .tup [] ∧ σ'.length = σ.length ∧ ∀ i : Id, σ'[i]? = (σ.put id (some (vec 1 intI (srt l))))[i]? := by
  refine ⟨hf, fun Γ vs hΓ hG hlen hrel => ?_⟩
  subst hΓ
  match vs, hlen with
  | [u], _ =>
  have hu := own_inv (hrel 0 _ u rfl rfl) hσ
  have tupR : ∀ {w φ σ A}, RelT w φ σ A (.tup []) (.tuple #[]) := fun {w φ σ A} => RelT.tup (ts := []) (fun _ => undef) fun i t h => by simp at h
  rw [vec_len] at hu
  have empty : ∀ (p : Option Addr) (cap : Nat), l = [] → Calls P f #[.slice p 0 cap] Γ.w0 fun e w' => ∃ v r σ' φ', e = .returned v ∧ (r = .tup [] ∧ σ'.length = Γ.σ0.length ∧ ∀ i : Id, σ'[i]? = (Γ.σ0.put id (some (vec 1 intI (srt l))))[i]?) ∧ RelT w' φ' σ' (Al Γ.N φ' σ') r v ∧ Rs Γ σ' φ' w' := fun p cap he => by
    refine (hC0 p cap Γ.w0).mono ?_
    rintro e w' ⟨rfl, rfl⟩
    refine ⟨_, .tup [], Γ.σ0, Γ.φ0, rfl, ⟨rfl, rfl, fun i => ?_⟩, tupR, Rs.refl hG⟩
    have : srt l = l := by rw [he]; simp [srt]
    rw [this]
    by_cases hi : i = id
    · rw [hi, Store.get_put_eq hσ, hσ]
    · rw [Store.get_put_ne hi]
  rcases hu with ⟨_, hv, _, h0⟩ | ⟨b, base, cap, arr, ety, a, hp, hv, ha, hcap, hmax, hjn, hbk, hsz⟩
  · have he : l = [] := List.eq_nil_of_length_eq_zero (by omega)
    rw [hv]
    exact empty none 0 he
  · rw [hv]
    by_cases hc0 : 0 < cap
    · have := ha hc0
      subst this
      simp only [Nat.zero_mul, Nat.add_zero]
      have hR := Rs.refl hG
      rcases hR.st.blk _ _ hσ with ⟨h1, _⟩ | ⟨b', base', arr2, ety2, h1, h2, h3, h4, h5⟩
      · rw [hp] at h1; cases h1
      · rw [hp] at h1; cases h1
        rw [hbk] at h2; cases h2
        rw [vec_len] at h3
        have hcell : ∀ (j : Nat) (x : Int), l[j]? = some x → arr[base + j]? = some (.int .i64 x) := fun j x hj => int_cells h5 hj
        have hls : (srt l).length = l.length := by simp [srt]
        refine (hC b base cap l Γ.w0 (holds_of hbk hcell) (Array.getElem?_eq_some_iff.1 hbk).1 hl).mono ?_
        rintro e w' ⟨rfl, n, os, rfl⟩
        have hW := Rs.write (k := 1) (es' := ((srt l).map intI).map (·.map C.imm)) (arr' := putCells (Value.int .i64) base (srt l).toArray arr) hR hσ hp hbk (by rw [vec_len, vec_len, hls]) putCells_size (fun j e he => vec_hk he) (by rw [vec_len]; omega)
          (vec_hc fun j x hj => putCells_get (by omega) hj)
        rw [putRow_ahead, putRow_setRow hbk]
        refine ⟨_, .tup [], _, Γ.φ0, rfl, ⟨rfl, ?_, fun i => rfl⟩, tupR, (hW.2.ahead n).grow os⟩
        rw [Store.length_put]
    · have he : l = [] := List.eq_nil_of_length_eq_zero (by omega)
      have hl0 : l.length = 0 := by rw [he]; rfl
      rw [hl0]
      exact empty (some a) cap he
theorem compact_len_le (l : List Int) : (Go.Lib.compact l).length ≤ l.length := by
  unfold Go.Lib.compact Go.Lib.compactUpTo
  rw [List.length_map]
  exact Nat.le_trans (List.length_filter_le _ _) (by simp)
theorem compact_fn {P : Program} {f : FuncId} (hf : fnFacts P f)
    (hC : ∀ (blk off cap : Nat) (zs : List Int) (w : World), Holds (Value.int .i64) w blk off zs.toArray → zs.length ≤ 9223372036854775807 → zs.length ≤ cap → Calls P f #[.slice (some ⟨blk, off, none⟩) zs.length cap] w fun e w' => e = .returned (.slice (some ⟨blk, off, none⟩) (Go.Lib.compact zs).length cap) ∧ ∃ q, w' = putRow (Value.int .i64) (Go.Sort.ahead w q) blk off (Go.Lib.compact zs ++ List.replicate (zs.length - (Go.Lib.compact zs).length) 0).toArray)
    (hC0 : ∀ (a : Option Addr) (cap : Nat) (w : World), Calls P f #[.slice a 0 cap] w fun e w' => e = .returned (.slice a 0 cap) ∧ w' = w)
    {σ : Store} {id : Id} {l : List Int} (hσ : σ[id]? = some (some (vec 1 intI l))) :
    FnOk P f [.c (.own id 0 l.length)] σ fun r σ' => r = .c (.own (σ.length, []) 0 (Go.Lib.compact l).length) ∧ σ' = σ.put id none ++ [.one (vec 1 intI (Go.Lib.compact l))] := by
  refine ⟨hf, fun Γ vs hΓ hG hlen hrel => ?_⟩
  subst hΓ
  match vs, hlen with
  | [u], _ =>
  have hu := own_inv (hrel 0 _ u rfl rfl) hσ
  rw [vec_len] at hu
  have hR := Rs.refl hG
  have hidl := Store.lt_of hσ
  have cnil : Go.Lib.compact ([] : List Int) = [] := rfl
  have at_new : ∀ {m : List Int}, (Γ.σ0.put id none ++ [.one (vec 1 intI m)])[((Γ.σ0.length, []) : Id)]? = some (some (vec 1 intI m)) := fun {m} => by
    rw [Store.get_right (by simp)]; simp; rfl
  rcases hu with ⟨hp, hv, _, h0⟩ | ⟨b, base, cap, arr, ety, a, hp, hv, ha, hcap, hmax, hjn, hbk, hsz⟩
  · have he : l = [] := List.eq_nil_of_length_eq_zero (by omega)
    subst he
    rw [hv]
    refine (hC0 none 0 Γ.w0).mono ?_
    rintro e w' ⟨rfl, rfl⟩
    have hK := hR.kill id
    have hV := hK.2.virt 1
    refine ⟨_, _, _, fun i => if i = (Γ.σ0.length, []) then none else Γ.φ0 i, rfl, ⟨rfl, rfl⟩, ?_, ?_⟩
    rotate_left
    · have := hV.2
      rw [Store.length_put] at this
      exact this
    · refine .c (.own (by simp) rfl fun k es hes => .inl ⟨?_, rfl, rfl, rfl⟩)
      simp
  · rw [hv]
    rcases hR.st.blk _ _ hσ with ⟨h1, _⟩ | ⟨b', base', arr2, ety2, h1, h2, h3, h4, h5⟩
    · rw [hp] at h1; cases h1
    · rw [hp] at h1; cases h1
      rw [hbk] at h2; cases h2
      rw [vec_len] at h3
      have hcell : ∀ (j : Nat) (x : Int), l[j]? = some x → arr[base + j]? = some (.int .i64 x) := fun j x hj => int_cells h5 hj
      have hle := compact_len_le l
      by_cases hc0 : 0 < cap
      · have := ha hc0
        subst this
        simp only [Nat.zero_mul, Nat.add_zero]
        have hmx : l.length ≤ 9223372036854775807 := by simp only [maxLen] at hmax; omega
        refine (hC b base cap l Γ.w0 (holds_of hbk hcell) hmx hcap).mono ?_
        rintro e w' ⟨rfl, q, rfl⟩
        have hO := Rs.reown (k := 1) (base' := base) (es' := ((Go.Lib.compact l).map intI).map (·.map C.imm)) (arr' := putCells (Value.int .i64) base (Go.Lib.compact l ++ List.replicate (l.length - (Go.Lib.compact l).length) 0).toArray arr) hR hσ hp hbk (fun j e he => vec_hk he) (by rw [vec_len, putCells_size]; omega)
          (vec_hc fun j x hj => putCells_get (by simp; omega) (by rw [List.getElem?_append_left (List.getElem?_eq_some_iff.1 hj).1]; exact hj))
        rw [putRow_ahead, putRow_setRow hbk]
        refine ⟨_, _, _, _, rfl, ⟨rfl, rfl⟩, ?_, hO.2.ahead q⟩
        refine .c (.own (by simp) rfl fun k es hes => ?_)
        rw [at_new] at hes
        cases hes
        refine .inr ⟨b, base, cap, _, ety, ⟨b, base, none⟩, by simp, rfl, fun _ => by simp, by omega, hmax, by rw [vec_len]; omega, setRow_heap _ _ _ _ _ _ hbk, by rw [putCells_size]; omega⟩
      · have he : l = [] := List.eq_nil_of_length_eq_zero (by omega)
        subst he
        refine (hC0 (some a) cap Γ.w0).mono ?_
        rintro e w' ⟨rfl, rfl⟩
        have hO := Rs.reown (k := 1) (base' := base) (es' := []) (arr' := arr) hR hσ hp hbk (fun j e he => by simp at he) (by simp; omega) (fun j e o x he => by simp at he)
        rw [setRow_self hbk] at hO
        refine ⟨_, _, _, _, rfl, ⟨rfl, rfl⟩, ?_, hO.2⟩
        refine .c (.own (by simp) rfl fun k es hes => ?_)
        rw [at_new] at hes
        cases hes
        exact .inr ⟨b, base, cap, arr, ety, a, by simp, rfl, fun h => absurd h hc0, by omega, hmax, by simp [cnil], hbk, by omega⟩
end Ab
end
section
namespace Ab
open Go
/-- Sorted; so long a list as' Sort's contract allows. -/
def sortL (l : List Int) : Option (List Int) := if l.length < 4611686018427387904 then some (srt l) else none
/-- Runs of equal elements replaced by one. -/
def compactL (l : List Int) : List Int := Go.Lib.compact l
theorem sortL_len {l l' : List Int} (h : sortL l = some l') : l.length = l'.length := by
  unfold sortL at h
  split at h
  · cases h; simp [srt]
  · cases h
def SortOk (P : Program) (f : FuncId) : Prop := ∀ {σ : Store} {id : Id} {l : List Int}, σ[id]? = some (some (vec 1 intI l)) → l.length < 4611686018427387904 →
    FnOk P f [.c (.own id 0 l.length)] σ fun r σ' => r = .tup [] ∧ σ'.length = σ.length ∧ ∀ i : Id, σ'[i]? = (σ.put id (some (vec 1 intI (srt l))))[i]?
def CompactOk (P : Program) (f : FuncId) : Prop := ∀ {σ : Store} {id : Id} {l : List Int}, σ[id]? = some (some (vec 1 intI l)) →
    FnOk P f [.c (.own id 0 l.length)] σ fun r σ' => r = .c (.own (σ.length, []) 0 (Go.Lib.compact l).length) ∧ σ' = σ.put id none ++ [.one (vec 1 intI (Go.Lib.compact l))]
section
variable {P : Program} {σ0 : Store} {sz : Nat} {Q : Post} {env : Env} {σv σ' : Store} {ops : Array Oper} {rest : List Oper} {dst : Option Nat} {ty : TypeId} {pos : String} {after : Array Edge}
theorem S.sort {x : Operand} {al : List Operand} {ats : Array TypeId} {f : FuncId} {id : Id} {n : Nat} {l l' : List Int} (hs : sortL l = some l') (hf : SortOk P f) (hx : ev env x = some (.c (.fn f []))) (ha : evs env al = some [.c (.own id 0 n)]) (hn : n = l.length) (hσ : σv[id]? = some (some (vec 1 intI l)))
    (hd : dstOk sz dst = true) (hσ' : putF σv id (some (vec 1 intI l')) = some σ') (h : AOps P σ0 sz ops Q rest (St.mk (putE env dst (.tup [])) σ')) :
    AOps P σ0 sz ops Q (⟨dst, .call ⟨.value x, al.toArray, ats⟩, ty, pos, after, none⟩ :: rest) (St.mk env σv) := by
  have h2 := putF_get hσ'
  subst h2 hn
  unfold sortL at hs
  split at hs
  · cases hs
    refine AOps.callS hx ha hd (hf hσ ‹_›) ?_
    rintro r σ2 ⟨rfl, hl, he⟩
    refine AOps.sub (s' := ⟨putE env dst (.tup []), σv.put id (some (vec 1 intI (srt l)))⟩) ?_ h
    have := Sub.same (σ0 := σ0) (env := putE env dst (.tup [])) (σ1 := σ2) (σ2 := σv.put id (some (vec 1 intI (srt l)))) (by rw [Store.length_put, hl]) he
    cases dst <;> exact this
  · cases hs
theorem S.compact {x : Operand} {al : List Operand} {ats : Array TypeId} {f : FuncId} {id n' : Id} {n : Nat} {l : List Int} {σ1 : Store} (hf : CompactOk P f) (hx : ev env x = some (.c (.fn f []))) (ha : evs env al = some [.c (.own id 0 n)]) (hn : n = l.length) (hσ : σv[id]? = some (some (vec 1 intI l)))
    (hd : dstOk sz dst = true) (hid : newF σv = some n') (h1 : putF σv id none = some σ1) (hσ' : snocF σ1 (.one (vec 1 intI (compactL l))) = some σ') (h : AOps P σ0 sz ops Q rest (St.mk (putE env dst (.c (.own n' 0 (compactL l).length))) σ')) :
    AOps P σ0 sz ops Q (⟨dst, .call ⟨.value x, al.toArray, ats⟩, ty, pos, after, none⟩ :: rest) (St.mk env σv) := by
  have h2 := putF_get h1
  have h3 := newF_eq hid; have h4 := snocF_eq hσ'
  subst hn h2 h3 h4
  refine AOps.callS hx ha hd (hf hσ) ?_
  rintro r σ2 ⟨rfl, rfl⟩
  cases dst <;> exact h
end
end Ab
end
section
namespace Ab
open Go
section
variable {P : Program} {σ0 : Store} {sz : Nat} {Q : Post} {env : Env} {σv σ' : Store} {ops : Array Oper} {rest : List Oper} {dst : Option Nat} {ty : TypeId} {pos : String} {after : Array Edge}
theorem AOps.eqlNil {x y : Operand} {t t' e : TypeId} {k : Nat} {es : List (List I)} [ht : TyD P t (.slice e)] (hx : ev env x = some (.c (.imm (.sl k es)))) (hy : ev env y = some (.c (.imm (.val (.slice none 0 0))))) (hd : dstOk sz dst = true)
    (h1 : es = [] → AOps P σ0 sz ops Q rest (St.mk (putE env dst (.c (bool true))) σv)) (h2 : AOps P σ0 sz ops Q rest (St.mk (putE env dst (.c (bool false))) σv)) :
    AOps P σ0 sz ops Q (⟨dst, .binOp .eql t x y t', ty, pos, after, none⟩ :: rest) (St.mk env σv) := fun Γ φ a w hΓ hR =>
  wpList_plain rfl fun K hK => by
    have hrel := ev_rel hR hx
    have hyv := ev_val hR hy
    generalize hu : a.eval x = u at hrel
    cases hrel with | c hrel => cases hrel with | imm hrel =>
    unfold Oper.wp
    cases hrel with
    | slNil =>
      have hg : (eqGuard .eql t x y (.slice none 0 0) (.slice none 0 0)).run P w = .ok () w := rfl
      have hr : (binOp .eql t (.slice none 0 0) (.slice none 0 0)).run P w = .ok (.bool true) w := by
        show (do pure (Value.bool (← Op.equal t (.slice none 0 0) (.slice none 0 0)))).run P w = _
        simp [run_equal_slice_nil w t e none 0 0 ht.h]
      have hrun : (execOp a.eval ⟨dst, .binOp .eql t x y t', ty, pos, after, none⟩).run P w = .ok (.value (.bool true)) w := by
        simp [execOp, hu, hyv, hg, hr]
      rw [hrun, Oper.upon_value]
      exact hK _ _ (h1 rfl Γ φ _ w hΓ (hR.put hd (.c (.imm (.val rfl)))))
    | @sl _ _ ad cap us _ _ _ _ _ =>
      have hg : (eqGuard .eql t x y (.slice (some ad) es.length cap) (.slice none 0 0)).run P w = .ok () w := rfl
      have hr : (binOp .eql t (.slice (some ad) es.length cap) (.slice none 0 0)).run P w = .ok (.bool false) w := by
        show (do pure (Value.bool (← Op.equal t (.slice (some ad) es.length cap) (.slice none 0 0)))).run P w = _
        simp [run_equal_slice_nil w t e (some ad) es.length cap ht.h]
      have hrun : (execOp a.eval ⟨dst, .binOp .eql t x y t', ty, pos, after, none⟩).run P w = .ok (.value (.bool false)) w := by
        simp [execOp, hu, hyv, hg, hr]
      rw [hrun, Oper.upon_value]
      exact hK _ _ (h2 Γ φ _ w hΓ (hR.put hd (.c (.imm (.val rfl)))))
end
end Ab
end
section
namespace Ab
open Go Go.Proofs
def slices_Clone_int_int (s : List Int) : Option (List Int) := app 8 [] s
theorem slices_Clone_int_int_ok {s r : List Int} (h : slices_Clone_int_int s = some r) : FreshOk Tryd.prog 43 [.c (row 1 intI s)] 1 (List.map intI r) := by
  unfold slices_Clone_int_int at h
  unfold FreshOk
  refine FnOk.enter (rs := [.t 2]) Tryd.func43 rfl Tryd.ntmps43 Tryd.results43 rfl ⟨trivial, trivial⟩ (by kernel_rfl) rfl ?_
  refine AWP.seq ?_
  refine AWP.region ?_
  refine AOps.assign rfl rfl ?_
  refine AOps.nil ?_
  refine thn_normal ?_
  refine AWP.seq ?_
  refine AWP.seq ?_
  refine AWP.region ?_
  refine AOps.move rfl rfl ?_
  refine AOps.eqlNil rfl rfl rfl (fun he => ?_) ?_
  · have hs : s = [] := by simpa using he
    subst hs
    have hr : r = [] := by
      have := app_get h
      simpa using this.2
    subst hr
    refine AOps.nil ?_
    refine thn_normal ?_
    refine AWP.condT rfl ?_
    refine AWP.seq ?_
    refine AWP.region ?_
    refine AOps.assign rfl rfl ?_
    refine AOps.nil ?_
    refine thn_normal ?_
    refine AWP.virtV 1 intI 2 rfl rfl rfl ?_
    refine AWP.ret ?_
    refine thn_ret ?_
    exact Done.ret rfl (Fresh.mk rfl rfl)
  · refine AOps.nil ?_
    refine thn_normal ?_
    refine AWP.condF rfl ?_
    refine AWP.skip ?_
    refine thn_normal ?_
    refine AWP.seq ?_
    refine AWP.region ?_
    refine S.lit (f := intI) (l := []) (ess := []) rfl rfl rfl rfl rfl rfl rfl trivial rfl rfl rfl ?_
    refine AOps.move rfl rfl ?_
    refine S.append (f := intI) h rfl rfl rfl rfl rfl rfl .row rfl rfl rfl rfl ?_
    refine AOps.assign rfl rfl ?_
    refine AOps.nil ?_
    refine thn_normal ?_
    refine AWP.ret ?_
    exact Done.ret rfl (Fresh.mk rfl rfl)
end Ab
end
