/-
  OWNED ROWS OF DATA, AS THE GENERATOR WALKS THEM: made, read, written, appended to in place, handed on.
-/
import Derived.Test.YtfjbddjoagefkaaSh1
namespace Ab
open Go

/-! ## No mention of a block -/
mutual
def C.no (id : Id) : C → Bool
  | .imm _ => true
  | .own i _ _ => !idb i id
  | .ptr i _ _ => !idb i id
  | .fn _ caps => C.noL id caps
  | .ifc _ cs _ => C.noL id cs
  | .map i => !idb i id
def C.noL (id : Id) : List C → Bool
  | [] => true
  | c :: r => C.no id c && C.noL id r
end
mutual
def T.no (id : Id) : T → Bool
  | .c x => x.no id
  | .agg cs => C.noL id cs
  | .tup ts => T.noL id ts
  | .undef => true
def T.noL (id : Id) : List T → Bool
  | [] => true
  | t :: r => T.no id t && T.noL id r
end
def Blk.no (id : Id) : Blk → Bool
  | .cells _ es => es.all (C.noL id)
  | .obj _ => true
def envNo (id : Id) : Env → Bool
  | [] => true
  | (_, v) :: r => v.no id && envNo id r
theorem noL_eq (id : Id) : ∀ l : List C, C.noL id l = l.all (C.no id)
  | [] => rfl
  | c :: r => by rw [C.noL, noL_eq id r]; rfl
theorem envNo_get {id : Id} : ∀ {env : Env}, envNo id env = true → ∀ t v, lookup t env = some v → v.no id = true
  | [], _, t, v, h => by simp [lookup] at h
  | (k, x) :: r, h, t, v, hv => by
    simp only [envNo, Bool.and_eq_true] at h
    simp only [lookup] at hv
    split at hv
    · cases hv; exact h.1
    · exact envNo_get h.2 t v hv

/-- Block id has been named n anew. -/
def mv (id n : Id) : Id → Id := fun i => if idb i id then n else i

mutual
theorem C.ren_no {id n : Id} : ∀ c : C, c.no id = true → c.ren (mv id n) = c
  | .imm _, _ => rfl
  | .own i _ _, h => by
    have : idb i id = false := by simpa [C.no] using h
    simp [C.ren, mv, this]
  | .ptr i _ _, h => by
    have : idb i id = false := by simpa [C.no] using h
    simp [C.ren, mv, this]
  | .fn _ caps, h => by simp only [C.ren, C.renL_no caps h]
  | .ifc _ cs _, h => by simp only [C.ren, C.renL_no cs h]
  | .map i, h => by
    have : idb i id = false := by simpa [C.no] using h
    simp [C.ren, mv, this]
theorem C.renL_no {id n : Id} : ∀ l : List C, C.noL id l = true → C.renL (mv id n) l = l
  | [], _ => rfl
  | c :: r, h => by
    simp only [C.noL, Bool.and_eq_true] at h
    simp only [C.renL, C.ren_no c h.1, C.renL_no r h.2]
end
mutual
theorem T.ren_no {id n : Id} : ∀ t : T, t.no id = true → t.ren (mv id n) = t
  | .c x, h => by simp only [T.ren, C.ren_no x h]
  | .agg cs, h => by simp only [T.ren, C.renL_no cs h]
  | .tup ts, h => by simp only [T.ren, T.renL_no ts h]
  | .undef, _ => rfl
theorem T.renL_no {id n : Id} : ∀ l : List T, T.noL id l = true → T.renL (mv id n) l = l
  | [], _ => rfl
  | x :: r, h => by
    simp only [T.noL, Bool.and_eq_true] at h
    simp only [T.renL, T.ren_no x h.1, T.renL_no r h.2]
end
theorem Blk.ren_no {id n : Id} (b : Blk) (h : b.no id = true) : b.ren (mv id n) = b := by
  cases b with
  | cells k es =>
    simp only [Blk.no, List.all_eq_true] at h
    simp only [Blk.ren]
    congr 1
    conv => rhs; rw [← List.map_id es]
    exact List.map_congr_left fun l hl => C.renL_no l (h l hl)
  | obj p => rfl
theorem noL_imm (id : Id) (l : List I) : C.noL id (l.map .imm) = true := by rw [noL_eq]; simp [C.no]
theorem Blk.im_no (id : Id) (k : Nat) (es : List (List I)) : (Blk.im k es).no id = true := by
  simp only [Blk.im, Blk.no, List.all_map, List.all_eq_true]
  exact fun l _ => noL_imm id l

section
variable {P : Program} {σ0 : Store} {sz : Nat} {Q : Post} {env env' : Env} {σv σ' : Store} {ops : Array Oper} {rest : List Oper} {dst : Option Nat} {ty : TypeId} {pos : String} {after : Array Edge}

/-- What can be read as a row of data. -/
inductive SrcF {α : Type} (σ : Store) (k : Nat) (f : α → List I) : T → List α → Prop
  | own {id : Id} {n : Nat} {l : List α} (h : σ[id]? = some (some (vec k f l))) (hn : n = l.length) : SrcF σ k f (.c (.own id 0 n)) l
  | row {l : List α} : SrcF σ k f (.c (row k f l)) l
  | nil : SrcF σ k f (.c (.imm (.val (.slice none 0 0)))) []

theorem SrcF.src {α : Type} {σ : Store} {k : Nat} {f : α → List I} {v : T} {l : List α} (h : SrcF σ k f v l) : Src σ k v ((l.map f).map (·.map .imm)) := by
  cases h with
  | @own id n l h hn =>
    subst hn
    have := Src.own (j := 0) (n := l.length) h
    have e : List.take l.length (List.drop 0 ((l.map f).map (·.map C.imm))) = (l.map f).map (·.map C.imm) := by
      rw [List.drop_zero, List.take_of_length_le (by simp)]
    rwa [e] at this
  | row => exact .imm
  | nil => exact .nil

theorem app_get {α : Type} {b : Nat} {l new r : List α} (h : app b l new = some r) : (l.length + new.length) * b ≤ 140737488355328 ∧ r = l ++ new := by
  unfold app at h
  split at h
  · cases h; exact ⟨‹_›, rfl⟩
  · cases h

theorem putF_get {σ r : Store} {i : Id} {b : Option Blk} (h : putF σ i b = some r) : r = σ.put i b := putF_eq h

/-- Appended to what is owned: the block takes a new number. -/
theorem S.append {α : Type} {f : α → List I} {l new l' : List α} {x y : Operand} {t e : TypeId} {k bytes m : Nat} {n : Id} {z : Value} {id : Id} {v : T} {σ1 : Store} [ht : TyD P t (.slice e)] [hs : TyS P e k bytes z]
    (ha : app bytes l new = some l') (hzk : (z.cells.size == k) = true) (hbp : Nat.blt 0 bytes = true)
    (hx : ev env x = some (.c (.own id 0 m))) (hm : m = l.length) (hσ : σv[id]? = some (some (vec k f l))) (hy : ev env y = some v) (hsrc : SrcF σv k f v new) (hn : newF σv = some n) (h1 : putF σv id none = some σ1) (hσ' : snocF σ1 (.one (vec k f l')) = some σ') (hd : dstOk sz dst = true)
    (h : AOps P σ0 sz ops Q rest (St.mk (putE env dst (.c (.own n 0 l'.length))) σ')) :
    AOps P σ0 sz ops Q (⟨dst, .call ⟨.builtin .append, #[x, y], #[t, t]⟩, ty, pos, after, none⟩ :: rest) (St.mk env σv) := by
  obtain ⟨hb, rfl⟩ := app_get ha
  have h2 := putF_get h1
  have h3 := newF_eq hn; have h4 := snocF_eq hσ'
  subst hm h2 h3 h4
  refine AOps.append (new := (new.map f).map (·.map .imm)) hzk hbp hx hσ hy hsrc.src (by simpa using hb) hd ?_
  have e1 : (((((l.map f).map (·.map C.imm)).drop 0).take l.length) ++ (new.map f).map (·.map C.imm)) = ((l ++ new).map f).map (·.map C.imm) := by
    rw [List.drop_zero, List.take_of_length_le (by simp)]; simp
  have e2 : l.length + ((new.map f).map (·.map C.imm)).length = (l ++ new).length := by simp
  rw [e1, e2]
  exact h

theorem S.appendNil {α : Type} {f : α → List I} {new l' : List α} {x y : Operand} {t e : TypeId} {k bytes : Nat} {n : Id} {z : Value} {v : T} [ht : TyD P t (.slice e)] [hs : TyS P e k bytes z]
    (ha : app bytes [] new = some l') (hzk : (z.cells.size == k) = true) (hbp : Nat.blt 0 bytes = true)
    (hx : ev env x = some (.c (.imm (.val (.slice none 0 0))))) (hy : ev env y = some v) (hsrc : SrcF σv k f v new) (hn : newF σv = some n) (hσ' : snocF σv (.one (vec k f l')) = some σ') (hd : dstOk sz dst = true)
    (h : AOps P σ0 sz ops Q rest (St.mk (putE env dst (.c (.own n 0 l'.length))) σ')) :
    AOps P σ0 sz ops Q (⟨dst, .call ⟨.builtin .append, #[x, y], #[t, t]⟩, ty, pos, after, none⟩ :: rest) (St.mk env σv) := by
  obtain ⟨hb, hl⟩ := app_get ha
  rw [List.nil_append] at hl
  subst hl
  have h1 := newF_eq hn; have h2 := snocF_eq hσ'
  subst h1 h2
  refine AOps.appendNil (new := (l'.map f).map (·.map .imm)) hzk hbp hx hy hsrc.src (by simpa using hb) hd ?_
  have e2 : ((l'.map f).map (·.map C.imm)).length = l'.length := by simp
  rw [e2]
  exact h

/-- Zero cells, as data. -/
inductive ZI : List I → List C → Prop
  | nil : ZI [] []
  | val {v : Value} {l : List I} {cs : List C} (h : ZI l cs) : ZI (.val v :: l) (.imm (.val v) :: cs)
  | row {k : Nat} {l : List I} {cs : List C} (h : ZI l cs) : ZI (.sl k [] :: l) (.imm (.val (.slice none 0 0)) :: cs)
theorem ZI.get {w : World} {φ : Phi} {σ : Store} {A : Nat → Prop} {l : List I} {cs : List C} (h : ZI l cs) : ∀ (o : Nat) (x : I), l[o]? = some x → ∃ c, cs[o]? = some c ∧ ∀ u, RelC w φ σ A c u → RelI w A x u := by
  induction h with
  | nil => intro o x h; simp at h
  | @val v l cs _ ih =>
    intro o x hx
    cases o with
    | zero =>
      simp only [List.getElem?_cons_zero, Option.some.injEq] at hx
      subst hx
      exact ⟨_, rfl, fun u hu => by cases hu with | imm hu => exact hu⟩
    | succ o => simpa using ih o x (by simpa using hx)
  | @row k l cs _ ih =>
    intro o x hx
    cases o with
    | zero =>
      simp only [List.getElem?_cons_zero, Option.some.injEq] at hx
      subst hx
      exact ⟨_, rfl, fun u hu => by cases hu with | imm hu => cases hu; exact .slNil⟩
    | succ o => simpa using ih o x (by simpa using hx)
theorem ZI.len {l : List I} {cs : List C} (h : ZI l cs) : l.length = cs.length := by
  induction h with
  | nil => rfl
  | val _ ih => simp [ih]
  | row _ ih => simp [ih]

/-- The cells of a block say no more than before. -/
theorem Sub.blk {id : Id} {k : Nat} {es es' : List (List C)} (hσ : σv[id]? = some (some (.cells k es))) (hl : es'.length = es.length) (hk : ∀ (j : Nat) (e : List C), es'[j]? = some e → e.length = k)
    (hc : ∀ (j : Nat) (e : List C) (o : Nat) (x : C), es'[j]? = some e → e[o]? = some x → ∃ e0 x0, es[j]? = some e0 ∧ e0[o]? = some x0 ∧ ∀ w φ σ A u, RelC w φ σ A x0 u → RelC w φ σ A x u) :
    Sub σ0 ⟨env, σv⟩ ⟨env, σv.put id (some (.cells k es'))⟩ := fun Γ sz φ a w hΓ hR => by
  have hidl : id.1 < σv.length := Store.lt_of hσ
  have get : ∀ (i : Id) x, (σv.put id (some (.cells k es')))[i]? = some (some x) → (i = id ∧ x = .cells k es') ∨ (i ≠ id ∧ σv[i]? = some (some x)) := fun i x hi => by
    rcases Store.get_put hσ hi with ⟨h1, h2⟩ | h
    · cases h2; exact .inl ⟨h1, rfl⟩
    · exact .inr h
  have back : ∀ (i : Id) x, (σv.put id (some (.cells k es')))[i]? = some (some x) → ∃ y, σv[i]? = some (some y) := fun i x hi => by
    rcases get i x hi with ⟨rfl, _⟩ | ⟨_, h⟩
    · exact ⟨_, hσ⟩
    · exact ⟨x, h⟩
  have A1 : ∀ b, Al Γ.N φ σv b → Al Γ.N φ (σv.put id (some (.cells k es'))) b := fun b hb => ⟨hb.1, fun i blk base hi => by
    obtain ⟨y, hy⟩ := back i blk hi
    exact hb.2 i y base hy⟩
  have hK : Kept w w φ φ σv (σv.put id (some (.cells k es'))) (Al Γ.N φ σv) (Al Γ.N φ (σv.put id (some (.cells k es')))) :=
    { imm := fun _ _ _ => rfl, all := fun b hb _ => A1 b hb, len := by simp,
      cells := fun i kk es2 hi he => by
        rcases get i _ he with ⟨rfl, h⟩ | ⟨_, h⟩
        · cases h
          exact ⟨es, hσ, hl.symm, rfl, fun _ _ arr _ _ h2 => ⟨arr, h2, rfl⟩⟩
        · exact ⟨es2, h, rfl, rfl, fun _ _ arr _ _ h2 => ⟨arr, h2, rfl⟩⟩,
      obj := fun i p' hi he => by
        rcases get i _ he with ⟨_, h⟩ | ⟨_, h⟩
        · cases h
        · exact ⟨rfl, p', h⟩ }
  have hRs : Rs Γ (σv.put id (some (.cells k es'))) φ w :=
    { good := hR.good
      st := ⟨fun i b hi => by
          rcases get i b hi with ⟨rfl, rfl⟩ | ⟨_, h⟩
          · rcases hR.st.blk _ _ hσ with ⟨h1, h2⟩ | ⟨b, base, arr, ety, g1, g2, g3, g4, g5⟩
            · exact .inl ⟨h1, by subst h2; exact List.eq_nil_of_length_eq_zero (by simpa using hl)⟩
            · refine .inr ⟨b, base, arr, ety, g1, g2, by rw [hl]; exact g3, hk, fun j e o x he hx => ?_⟩
              obtain ⟨e0, x0, k1, k2, k3⟩ := hc j e o x he hx
              obtain ⟨u, hu, hr⟩ := g5 j e0 o x0 k1 k2
              exact ⟨u, hu, (k3 _ _ _ _ _ hr).mono hK⟩
          · exact (hR.st.blk i b h).mono hK fun _ _ _ => rfl,
        fun i j bi bj p q hi hj hp hq he => by
          obtain ⟨x, hx⟩ := back i bi hi
          obtain ⟨y, hy⟩ := back j bj hj
          exact hR.st.inj i j x y p q hx hy hp hq he⟩
      keep := fun i blk b base hi => by
        obtain ⟨x, hx⟩ := back i blk hi
        exact hR.keep i x b base hx
      os := hR.os
      tape := hR.tape
      output := hR.output
      size := hR.size
      block := hR.block
      kept := Kept.trans hR.size hR.kept hK }
  exact ⟨φ, hR.of hK hRs⟩

theorem mkL_get {α : Type} {b : Nat} {n : Int} {z : α} {r : List α} (h : mkL b n z = some r) : (0 ≤ n ∧ n ≤ 9223372036854775807 ∧ (b : Int) * n ≤ 281474976710656) ∧ r = List.replicate n.toNat z := by
  unfold mkL at h
  split at h
  · cases h; exact ⟨‹_›, rfl⟩
  · cases h

theorem S.make {α : Type} {f : α → List I} {a : α} {l : List α} {x y : Operand} {t e : TypeId} {id : Id} {k bytes : Nat} {z : Value} {n : Int} {cs : List C} [ht : TyD P t (.slice e)] [hz : TyZ P e cs] [hs : TyS P e k bytes z]
    (hm : mkL bytes n a = some l) (hf : ZI (f a) cs) (hk : idF cs = some k)
    (hx : ev env x = some (.c (int n))) (hy : ev env y = some (.c (int n))) (hid : newF σv = some id) (hσ : snocF σv (.one (vec k f l)) = some σ') (hd : dstOk sz dst = true)
    (h : AOps P σ0 sz ops Q rest (St.mk (putE env dst (.c (.own id 0 l.length))) σ')) : AOps P σ0 sz ops Q (⟨dst, .makeSlice t x y, ty, pos, after, none⟩ :: rest) (St.mk env σv) := by
  obtain ⟨⟨h1, h2, h3⟩, rfl⟩ := mkL_get hm
  have g1 := idF_eq hk; have g2 := newF_eq hid; have g3 := snocF_eq hσ
  subst g2 g3
  obtain ⟨size', bytes', z', v, hs', k1, k2⟩ := hz.h
  obtain ⟨i, e1, e2, e3, e4⟩ := hs.h
  obtain ⟨i', e1', e2', e3', e4'⟩ := hs'.h
  rw [e1] at e1'; cases e1'
  rw [e4] at e4'; cases e4'
  refine AOps.make (hs := hs) k1 k2 (by rw [g1]; simp) hx hy h1 h2 h3 hd ?_
  rw [List.length_replicate] at h
  have hset : Store.put (σv ++ [.one (Blk.cells k (List.replicate n.toNat cs))]) (σv.length, []) (some (.cells k (((List.replicate n.toNat a).map f).map (·.map .imm)))) = σv ++ [.one (vec k f (List.replicate n.toNat a))] := Store.put_last _ _ σv
  have hsub := Sub.blk (σ0 := σ0) (env := putE env dst (.c (.own (σv.length, []) 0 n.toNat))) (σv := σv ++ [.one (Blk.cells k (List.replicate n.toNat cs))]) (id := (σv.length, [])) (k := k) (es := List.replicate n.toNat cs) (es' := ((List.replicate n.toNat a).map f).map (·.map .imm)) (Store.get_last _ _) (by simp)
    (fun j e he => by
      simp only [List.map_replicate, List.getElem?_replicate] at he
      split at he <;> cases he
      rw [List.length_map, hf.len, g1]) (fun j e o x he hx => by
      simp only [List.map_replicate, List.getElem?_replicate] at he
      split at he <;> cases he
      rw [List.getElem?_map, Option.map_eq_some_iff] at hx
      obtain ⟨x0, hx0, rfl⟩ := hx
      cases hc : cs[o]? with
      | none =>
        have := (List.getElem?_eq_some_iff.1 hx0).1
        rw [hf.len] at this
        rw [List.getElem?_eq_none_iff] at hc
        omega
      | some c =>
        refine ⟨cs, c, by rw [List.getElem?_replicate, if_pos ‹_›], hc, fun w φ σ A u hu => ?_⟩
        obtain ⟨c', hc', hr⟩ := hf.get (w := w) (φ := φ) (σ := σ) (A := A) o x0 hx0
        rw [hc] at hc'; cases hc'
        exact .imm (hr u hu))
  rw [hset] at hsub
  exact AOps.sub hsub h

theorem S.lit1 {α : Type} {f : α → List I} {a : α} {x : Operand} {t e : TypeId} {id : Id} {k bytes : Nat} {z : Value} {v : T} {cs : List C} [ht : TyD P t (.slice e)] [hs : TyS P e k bytes z] (hf : (f a).map .imm = cs) (hzk : (z.cells.size == k) = true) (hks : Nat.ble k 16777216 = true) (hkp : Nat.blt 0 k = true) (hx : ev env x = some v) (hc : cellsT v = some cs) (hl : idF cs = some k) (hid : newF σv = some id) (hσ : snocF σv (.one (vec k f [a])) = some σ') (hd : dstOk sz dst = true)
    (h : AOps P σ0 sz ops Q rest (St.mk (putE env dst (.c (.own id 0 [a].length))) σ')) : AOps P σ0 sz ops Q (⟨dst, .buildSlice t 1 #[(0, x)], ty, pos, after, none⟩ :: rest) (St.mk env σv) := by
  subst hf
  exact W.lit1 hzk hks hkp hx hc hl hid hσ hd h

/-! ### Reading and writing -/
theorem ix_lt {α : Type} {l : List α} {i : Int} {a : α} (h : ix l i = some a) : i.toNat < l.length := (List.getElem?_eq_some_iff.1 (ix_get h).2).1
theorem ix_set {α : Type} {l : List α} {i : Int} {a b : α} (h : ix l i = some a) : ix (l.set i.toNat b) i = some b := by
  have h1 := ix_get h
  have h2 := ix_lt h
  simp [ix, h1.1, h2]
theorem lt_set {α : Type} {l : List α} {i j : Nat} {b : α} (h : i < l.length) : i < (l.set j b).length := by rw [List.length_set]; exact h

theorem S.idxO {α : Type} {f : α → List I} {l : List α} {x y : Operand} {t e : TypeId} {id : Id} {k bytes n : Nat} {z : Value} {kk : IntKind} {i : Int} {a : α} [ht : TyD P t (.slice e)] [hs : TyS P e k bytes z]
    (he : ix l i = some a) (hx : ev env x = some (.c (.own id 0 n))) (hn : n = l.length) (hσ : σv[id]? = some (some (vec k f l))) (hy : ev env y = some (.c (.imm (.val (.int kk i))))) (hd : dstOk sz dst = true)
    (h : AOps P σ0 sz ops Q rest (St.mk (putE env dst (.c (.ptr id i.toNat 0))) σv)) : AOps P σ0 sz ops Q (⟨dst, .indexAddr t x y, ty, pos, after, none⟩ :: rest) (St.mk env σv) :=
  .indexAddrOwn hx hσ hy (by have := ix_get he; have := ix_lt he; omega) hd (by rw [Nat.zero_add]; exact h)

theorem vec_get {α : Type} {f : α → List I} {l : List α} {i : Nat} {a : α} (h : l[i]? = some a) : ((l.map f).map (·.map C.imm))[i]? = some ((f a).map .imm) := by simp [h]

theorem S.loadO {α : Type} {f : α → List I} {l : List α} {x : Operand} {t : TypeId} {d : TypeDesc} {id : Id} {k o : Nat} {i : Int} {a : α} {c : I} [ht : TyD P t d] (he : ix l i = some a) (ha : isAggD d = false) (hx : ev env x = some (.c (.ptr id i.toNat o))) (hσ : σv[id]? = some (some (vec k f l)))
    (hc : (f a)[o]? = some c) (hd : dstOk sz dst = true) (h : AOps P σ0 sz ops Q rest (St.mk (putE env dst (.c (.imm c))) σv)) : AOps P σ0 sz ops Q (⟨dst, .load t x, ty, pos, after, none⟩ :: rest) (St.mk env σv) :=
  .load ha hx hσ (vec_get (ix_get he).2) (by rw [List.getElem?_map, hc]; rfl) hd h

theorem S.loadOAgg {α : Type} {f : α → List I} {l : List α} {x : Operand} {t : TypeId} {d : TypeDesc} {id : Id} {k o size bytes : Nat} {z : Value} {i : Int} {a : α} {e1 cs : List I} {cc : List C} [ht : TyD P t d] [hs : TyS P t size bytes z] (he : ix l i = some a) (ha : isAggD d = true) (hx : ev env x = some (.c (.ptr id i.toNat o))) (hσ : σv[id]? = some (some (vec k f l)))
    (h1 : dropF o (f a) = some e1) (h2 : takeF size e1 = some cs) (h3 : immF cs = some cc) (hd : dstOk sz dst = true) (h : AOps P σ0 sz ops Q rest (St.mk (putE env dst (.agg cc)) σv)) : AOps P σ0 sz ops Q (⟨dst, .load t x, ty, pos, after, none⟩ :: rest) (St.mk env σv) := by
  obtain ⟨h1, g1⟩ := dropF_eq h1
  obtain ⟨h2, g2⟩ := takeF_eq h2
  have h3 := immF_eq h3
  subst h1 h2 h3
  refine .loadAgg ha hx hσ (vec_get (ix_get he).2) (by simp at g2 ⊢; omega) hd ?_
  rw [← List.map_drop, ← List.map_take]
  exact h

theorem vec_set {α : Type} {f : α → List I} {l : List α} {i : Nat} {a : α} {k : Nat} : Blk.cells k (((l.map f).map (·.map C.imm)).set i ((f a).map .imm)) = vec k f (l.set i a) := by
  simp only [vec, Blk.im, List.map_set]

/-- A cell of an element written. -/
theorem S.storeO {α : Type} {f : α → List I} {l : List α} {x y : Operand} {t : TypeId} {bytes : Nat} {z : Value} {id : Id} {k o : Nat} {i : Nat} {a a' : α} {c : I} [hs : TyS P t 1 bytes z] (he : l[i]? = some a) (hf : setF (f a) o c = some (f a')) (hx : ev env x = some (.c (.ptr id i o))) (hy : ev env y = some (.c (.imm c))) (hσ : σv[id]? = some (some (vec k f l)))
    (hσ' : putF σv id (some (vec k f (l.set i a'))) = some σ') (h : AOps P σ0 sz ops Q rest (St.mk env σ')) : AOps P σ0 sz ops Q (⟨none, .store t x y, ty, pos, after, none⟩ :: rest) (St.mk env σv) := by
  have h1 := setF_eq hf
  have h2 := putF_get hσ'
  subst h2
  refine AOps.store hx hy hσ (vec_get he) (by simpa using h1.2) ?_
  rw [show (((f a).map C.imm).set o (.imm c)) = (f a').map .imm by rw [← List.map_set, ← h1.1]]
  rw [vec_set]
  exact h

/-- An element of one cell written. -/
theorem S.storeO1 {α : Type} {f : α → List I} {l : List α} {x y : Operand} {t : TypeId} {bytes : Nat} {z : Value} {id : Id} {k : Nat} {i : Nat} {a' : α} {c : I} [hs : TyS P t 1 bytes z] (hi : i < l.length) (hf : ∀ a, ∃ u, f a = [u]) (hf' : f a' = [c]) (hx : ev env x = some (.c (.ptr id i 0))) (hy : ev env y = some (.c (.imm c))) (hσ : σv[id]? = some (some (vec k f l)))
    (hσ' : putF σv id (some (vec k f (l.set i a'))) = some σ') (h : AOps P σ0 sz ops Q rest (St.mk env σ')) : AOps P σ0 sz ops Q (⟨none, .store t x y, ty, pos, after, none⟩ :: rest) (St.mk env σv) := by
  obtain ⟨u, hu⟩ := hf l[i]
  exact S.storeO (a := l[i]) (List.getElem?_eq_getElem hi) (by rw [hu, hf']; rfl) hx hy hσ hσ' h

/-- An element of several cells written as a whole. -/
theorem S.storeOAgg {α : Type} {f : α → List I} {l : List α} {x y : Operand} {t : TypeId} {size bytes : Nat} {z : Value} {id : Id} {k : Nat} {i : Nat} {a' : α} {cs : List C} [hs : TyS P t size bytes z] (hi : i < l.length) (hn : ∀ a, (f a).length = size) (hz : Nat.blt 0 size = true) (hf : (f a').map .imm = cs) (hx : ev env x = some (.c (.ptr id i 0))) (hy : ev env y = some (.agg cs)) (hσ : σv[id]? = some (some (vec k f l)))
    (hσ' : putF σv id (some (vec k f (l.set i a'))) = some σ') (h : AOps P σ0 sz ops Q rest (St.mk env σ')) : AOps P σ0 sz ops Q (⟨none, .store t x y, ty, pos, after, none⟩ :: rest) (St.mk env σv) := by
  have h2 := putF_get hσ'
  subst h2
  have hl : cs.length = size := by rw [← hf, List.length_map, hn]
  refine AOps.storeAgg hx hy hσ (vec_get (List.getElem?_eq_getElem hi)) (by simp [hn, hl]) hl ?_
  have : ((f l[i]).map C.imm).take 0 ++ cs ++ ((f l[i]).map C.imm).drop (0 + cs.length) = (f a').map .imm := by
    rw [List.drop_of_length_le (by simp [hn, hl]), hf]; simp
  rw [this, vec_set]
  exact h

theorem S.lenO {α : Type} {f : α → List I} {l : List α} {x : Operand} {t e : TypeId} {id : Id} {k n : Nat} [ht : TyD P t (.slice e)] (hx : ev env x = some (.c (.own id 0 n))) (hσ : σv[id]? = some (some (vec k f l))) (hd : dstOk sz dst = true)
    (h : n ≤ 9223372036854775807 → AOps P σ0 sz ops Q rest (St.mk (putE env dst (.c (int n))) σv)) : AOps P σ0 sz ops Q (⟨dst, .call ⟨.builtin .len, #[x], #[t]⟩, ty, pos, after, none⟩ :: rest) (St.mk env σv) :=
  .lenOwnB hx hσ hd h

/-! ### A block takes the place of another one -/
def EntMv (id n : Id) (σ : Store) (m i : Nat) : Ent → Prop
  | .dead => True
  | .one b => b.ok m = true ∧ σ[mv id n (i, [])]? = some (some (b.ren (mv id n)))
  | .node x s => ∀ (p : List Nat) (b : Blk), (Ent.node x s).sub p = some b → b.ok m = true ∧ σ[mv id n (i, p)]? = some (some (b.ren (mv id n)))
def StMv (id n : Id) (σ : Store) (m : Nat) : Nat → Store → Prop
  | _, [] => True
  | i, e :: r => EntMv id n σ m i e ∧ StMv id n σ m (i + 1) r
theorem EntMv.get {id n : Id} {σ : Store} {m i : Nat} {e : Ent} (h : EntMv id n σ m i e) {p : List Nat} {b : Blk} (hb : e.sub p = some b) : b.ok m = true ∧ σ[mv id n (i, p)]? = some (some (b.ren (mv id n))) := by
  cases e with
  | dead => cases p <;> cases hb
  | one c => cases p with
    | nil => cases hb; exact h
    | cons => cases hb
  | node x s => exact h p b hb
theorem StMv.get {id n : Id} {m : Nat} {σ : Store} : ∀ {i : Nat} {σ' : Store}, StMv id n σ m i σ' → ∀ (j : Nat) (p : List Nat) (b : Blk), σ'[((j, p) : Id)]? = some (some b) → b.ok m = true ∧ σ[mv id n (i + j, p)]? = some (some (b.ren (mv id n)))
  | _, [], _, j, p, b, h => by simp at h
  | i, e :: r, h, 0, p, b, hb => by
    rw [Store.at_eq] at hb
    simp only [Store.at, List.getElem?_cons_zero, Option.some.injEq] at hb
    exact h.1.get hb
  | i, e :: r, h, j + 1, p, b, hb => by
    have := StMv.get (i := i + 1) h.2 j p b (by
      rw [Store.at_eq] at hb ⊢
      simpa [Store.at] using hb)
    rwa [show i + 1 + j = i + (j + 1) by omega] at this
def EnvMv (id n : Id) (env : Env) : Env → Prop
  | [] => True
  | (t, v) :: r => lookup t env = some (v.ren (mv id n)) ∧ EnvMv id n env r
theorem EnvMv.get {id n : Id} : ∀ {env' : Env}, EnvMv id n env env' → ∀ t v, lookup t env' = some v → lookup t env = some (v.ren (mv id n))
  | [], _, t, v, h => by simp [lookup] at h
  | (k, x) :: r, ⟨h1, h2⟩, t, v, h => by
    simp only [lookup] at h
    split at h
    · rename_i he; cases h; rw [← Nat.eq_of_beq_eq_true he]; exact h1
    · exact EnvMv.get h2 t v h
def deadAt (σ : Store) (n : Id) : Bool := match σ[n]? with
  | some (some _) => false
  | _ => true

/-- Block n takes the number id. -/
theorem Sub.move (id n : Id) (h0 : Nat.ble σ0.length id.1 = true) (hl : Nat.ble σ0.length σ'.length = true) (hn : deadAt σ' n = true) (henv : EnvMv id n env env') (he : envOk σ'.length env' = true) (hst : StMv id n σv σ'.length 0 σ') : Sub σ0 ⟨env, σv⟩ ⟨env', σ'⟩ := by
  have h0' := Nat.le_of_ble_eq_true h0
  have hd : ∀ b, σ'[n]? ≠ some (some b) := fun b hb => by simp [deadAt, hb] at hn
  have mve : mv id n id = n := by simp [mv, idb_iff.2 rfl]
  have mvn : ∀ i, i ≠ id → mv id n i = i := fun i h => by simp [mv, idb_ne h]
  refine Sub.mk (mv id n) (fun i hi => mvn i (fun e => by subst e; omega)) (Nat.le_of_ble_eq_true hl) (fun i j b b' hi hj h => ?_) (fun i b hi => ?_) (fun t v ht => ⟨envOk_get he t v ht, henv.get t v ht⟩)
  · by_cases h1 : i = id <;> by_cases h2 : j = id
    · rw [h1, h2]
    · rw [h1, mve, mvn j h2] at h
      subst h; exact absurd hj (hd _)
    · rw [h2, mve, mvn i h1] at h
      subst h; exact absurd hi (hd _)
    · rwa [mvn i h1, mvn j h2] at h
  · have := hst.get i.1 i.2 b hi
    rwa [Nat.zero_add] at this
theorem AWP.move {c : Code} (id n : Id) (h0 : Nat.ble σ0.length id.1 = true) (hl : Nat.ble σ0.length σ'.length = true) (hn : deadAt σ' n = true) (henv : EnvMv id n env env') (he : envOk σ'.length env' = true) (hst : StMv id n σv σ'.length 0 σ') (h : AWP P σ0 sz c Q (St.mk env' σ')) : AWP P σ0 sz c Q (St.mk env σv) :=
  AWP.sub (Sub.move id n h0 hl hn henv he hst) h
theorem vec_mv {α : Type} {π : Id → Id} {k : Nat} {i : Id} {f : α → List I} {l : List α} {σ : Store} (h : σ[i]? = some (some (vec k f l))) : σ[i]? = some (some ((vec k f l).ren π)) := by rw [Blk.im_ren]; exact h
theorem own_len {id : Id} {a b : Nat} (h : a = b) : some (T.c (C.own id 0 a)) = some (T.c (C.own id 0 b)) := by rw [h]
end
end Ab
