/-
  Texts that the proof stands on.
-/
import Derived.Test.YtbffiagfngopaaaGreatDoorKRwStrongSpec2
import Derived.Laws.CopyRow
import Derived.Laws.Cover3
import Derived.WalkSmall
import Derived.Shelf.RegionOpenPlain
import Derived.Lib.Walk
import Derived.Lib.SliceRun
import Derived.Lib.JoinLaws
import Derived.Lib.AppendZerosOnto
import Derived.Lib.Overlaps
import Derived.Laws.Externs
import Derived.Laws.IdiomCopy
import Derived.Laws.NewBlocks
import Derived.Shelf.Small.Bits
import Derived.Shelf.Strconv.Itoa0
import Derived.Shelf.Sort.Plain
import Derived.Shelf.Bits.Mul64
import Derived.Shelf.Slices.Equal
import Derived.Ground.Names2Prog
import Derived.Shelf.Slices.Clone
import Derived.Shelf.Slices.SearchI
import Derived.Shelf.Slices.Cells
import Derived.Shelf.Slices.In.SortNone
import Derived.Shelf.Slices.Empties
import Derived.Shelf.Slices.Empties2
import Derived.Ground.SlgnProg
import Derived.Shelf.SlicesE.Clone
import Derived.Ground.SlsfProg
import Derived.Shelf.SlSortCmp.Insertion
import Derived.Shelf.SlSortCmp.SiftDown1
import Derived.Shelf.SlSortCmp.HeapSort1
import Derived.Shelf.SlSortCmp.Insertion1
import Derived.Shelf.SlSortCmp.Median1
import Derived.Shelf.SlSortCmp.Pivot1
import Derived.Shelf.SlSortCmp.ReverseRange1
import Derived.Shelf.SlSortCmp.PartialInsertion1
import Derived.Shelf.SlSortCmp.PartitionEqual1
import Derived.Shelf.SlSortCmp.Partition1
import Derived.Shelf.SlSortCmp.Pdq1
import Derived.Shelf.SlSortCmp.NoneTotal
import Derived.Test.YtbffiagfngopaaaGreatDoorProg
set_option linter.all false
section
namespace Ab
open Go
def vw {α : Type} (l : List α) (off len : Int) : Option Unit := if 0 ≤ off ∧ 0 ≤ len ∧ off + len ≤ l.length then some () else none
def cutV (len lo hi : Int) : Option Unit := if 0 ≤ lo ∧ lo ≤ hi ∧ hi ≤ len then some () else none
def ixV {α : Type} (l : List α) (off len i : Int) : Option α := if 0 ≤ off ∧ 0 ≤ i ∧ i < len ∧ off + len ≤ l.length then ix l (off + i) else none
def w8 {α : Type} (l : List α) (off len : Int) : List α := (l.drop off.toNat).take len.toNat
def clrL {α : Type} (l : List α) (off len : Int) (z : α) : List α := l.take off.toNat ++ List.replicate len.toNat z ++ l.drop (off.toNat + len.toNat)
theorem P5 {α : Type} {l : List α} {off len : Int} {u : Unit} (h : vw l off len = some u) : 0 ≤ off ∧ 0 ≤ len ∧ off + len ≤ l.length := by
 unfold vw at h
 split at h
 ·assumption
 ·cases h
theorem ad3 {len lo hi : Int} {u : Unit} (h : cutV len lo hi = some u) : 0 ≤ lo ∧ lo ≤ hi ∧ hi ≤ len := by
 unfold cutV at h
 split at h
 ·assumption
 ·cases h
theorem ixV_get {α : Type} {l : List α} {off len i : Int} {a : α} (h : ixV l off len i = some a) : (0 ≤ off ∧ 0 ≤ i ∧ i < len ∧ off + len ≤ l.length) ∧ ix l (off + i) = some a := by
 unfold ixV at h
 split at h
 ·exact ⟨‹_›, h⟩
 ·cases h
theorem ixV_ix {α : Type} {l : List α} {off len i : Int} {a : α} (h : ixV l off len i = some a) : ix l (off + i) = some a := (ixV_get h).2
theorem viewL_len {α : Type} {l : List α} {off len : Int} {u : Unit} (h : vw l off len = some u) : (w8 l off len).length = len.toNat := by
 have := P5 h
 simp [w8]; omega
section
variable {α : Type} {f : α → List I} {l : List α} {P : Program} {σ0 : b6} {sz : Nat} {Q : Post} {env env' : Env} {σv σ' : b6} {ops : Array Oper} {rest : List Oper} {dst : Option Nat} {ty : TypeId} {pos : String} {after : Array Edge} {id : Id} {k : Nat}
theorem S.lenV {x : Operand} {t e : TypeId} {n : Int} {j : Nat} [ht : TyD P t (.slice e)] (hn : 0 ≤ n) (hx : ev env x = some (.c (.own id j n.toNat))) (hσ : σv[id]? = some (some (vec k f l))) (hd : h9 sz dst = true)
  (h : n ≤ 9223372036854775807 → AOps P σ0 sz ops Q rest (St.mk (putE env dst (.c (int n))) σv)) : AOps P σ0 sz ops Q (⟨dst, .call ⟨.builtin .len, #[x], #[t]⟩, ty, pos, after, none⟩ :: rest) (St.mk env σv) :=
 AOps.lenOwnB hx hσ hd fun hb => by
  have e1 : ((n.toNat : Nat) : Int) = n := by omega
  rw [e1]
  exact h (by omega)
theorem S.idxV {x y : Operand} {t e : TypeId} {bytes : Nat} {z : Value} {kk : IntKind} {off len i : Int} {a : α} [ht : TyD P t (.slice e)] [hs : TyS P e k bytes z]
  (he : ixV l off len i = some a) (hx : ev env x = some (.c (.own id off.toNat len.toNat))) (hσ : σv[id]? = some (some (vec k f l))) (hy : ev env y = some (.c (.imm (.val (.int kk i))))) (hd : h9 sz dst = true)
  (h : AOps P σ0 sz ops Q rest (St.mk (putE env dst (.c (.ptr id (off + i).toNat 0))) σv)) : AOps P σ0 sz ops Q (⟨dst, .indexAddr t x y, ty, pos, after, none⟩ :: rest) (St.mk env σv) := by
 obtain ⟨⟨h1, h2, h3, h4⟩, _⟩ := ixV_get he
 refine .indexAddrOwn hx hσ hy (by omega) hd ?_
 rw [show off.toNat + i.toNat = (off + i).toNat by omega]
 exact h
theorem S.vFrom {x y : Operand} {t e : TypeId} {bytes : Nat} {z : Value} {kk : IntKind} {off len lo : Int} {j n : Nat} {u u' : Unit} [ht : TyD P t (.slice e)] [hs : TyS P e k bytes z]
  (hv : vw l off len = some u) (hc : cutV len lo len = some u') (hx : ev env x = some (.c (.own id j n))) (hj : j = off.toNat) (hn : n = len.toNat) (hσ : σv[id]? = some (some (vec k f l))) (hy : ev env y = some (.c (.imm (.val (.int kk lo))))) (hd : h9 sz dst = true)
  (h : AOps P σ0 sz ops Q rest (St.mk (putE env dst (.c (.own id (off + lo).toNat (len - lo).toNat))) σv)) : AOps P σ0 sz ops Q (⟨dst, .slice t x (some y) none none, ty, pos, after, none⟩ :: rest) (St.mk env σv) := by
 have h1 := P5 hv; have h2 := ad3 hc
 subst hj hn
 have e1 : lo = ((lo.toNat : Nat) : Int) := by omega
 rw [e1] at hy
 refine AOps.sliceOwnFrom hx hσ hy (by omega) hd ?_
 rw [show off.toNat + lo.toNat = (off + lo).toNat by omega, show len.toNat - lo.toNat = (len - lo).toNat by omega]
 exact h
theorem S.vTo {x y : Operand} {t e : TypeId} {bytes : Nat} {z : Value} {kk : IntKind} {off len hi : Int} {j n : Nat} {u u' : Unit} [ht : TyD P t (.slice e)] [hs : TyS P e k bytes z]
  (hv : vw l off len = some u) (hc : cutV len 0 hi = some u') (hx : ev env x = some (.c (.own id j n))) (hj : j = off.toNat) (hn : n = len.toNat) (hσ : σv[id]? = some (some (vec k f l))) (hy : ev env y = some (.c (.imm (.val (.int kk hi))))) (hd : h9 sz dst = true)
  (h : AOps P σ0 sz ops Q rest (St.mk (putE env dst (.c (.own id off.toNat hi.toNat))) σv)) : AOps P σ0 sz ops Q (⟨dst, .slice t x none (some y) none, ty, pos, after, none⟩ :: rest) (St.mk env σv) := by
 have h1 := P5 hv; have h2 := ad3 hc
 subst hj hn
 have e1 : hi = ((hi.toNat : Nat) : Int) := by omega
 rw [e1] at hy
 exact AOps.sliceOwnTo hx hσ hy (by omega) hd h
theorem S.v3 {x y y' : Operand} {t e : TypeId} {bytes : Nat} {z : Value} {kk kk' : IntKind} {off len lo hi : Int} {j n : Nat} {u u' : Unit} [ht : TyD P t (.slice e)] [hs : TyS P e k bytes z]
  (hv : vw l off len = some u) (hc : cutV len lo hi = some u') (hx : ev env x = some (.c (.own id j n))) (hj : j = off.toNat) (hn : n = len.toNat) (hσ : σv[id]? = some (some (vec k f l))) (hy : ev env y = some (.c (.imm (.val (.int kk lo))))) (hy' : ev env y' = some (.c (.imm (.val (.int kk' hi))))) (hd : h9 sz dst = true)
  (h : AOps P σ0 sz ops Q rest (St.mk (putE env dst (.c (.own id (off + lo).toNat (hi - lo).toNat))) σv)) : AOps P σ0 sz ops Q (⟨dst, .slice t x (some y) (some y') none, ty, pos, after, none⟩ :: rest) (St.mk env σv) := by
 have h1 := P5 hv; have h2 := ad3 hc
 subst hj hn
 refine AOps.sliceOwn hx hσ hy hy' (by omega) hd ?_
 rw [show off.toNat + lo.toNat = (off + lo).toNat by omega, show hi.toNat - lo.toNat = (hi - lo).toNat by omega]
 exact h
def ReE (env : Env) (t : Nat) (c' : C) : Env → Prop
 | [] => True
 | (t', v) :: r => (t' = t ∧ v = .c c' ∨ lookup t' env = some v) ∧ ReE env t c' r
theorem ReE.get {t : Nat} {c' : C} : ∀ {env' : Env}, ReE env t c' env' → ∀ t' v, lookup t' env' = some v → t' = t ∧ v = .c c' ∨ lookup t' env = some v
 | [], _, t, v, h => by simp [lookup] at h
 | (k, x) :: r, ⟨h1, h2⟩, t', v, h => by
  simp only [lookup] at h
  split at h
  ·cases h
   rename_i e
   have : k = t' := by simpa using e
   subst this
   exact h1
  ·exact ReE.get h2 t' v h
theorem Sub.reown {off len : Int} {j n : Nat} {n' : Id} {σ1 : b6} {u : Unit} (t : Nat) (hv : vw l off len = some u) (hx : lookup t env = some (.c (.own id j n))) (hj : j = off.toNat) (hn : n = len.toNat) (hσ : σv[id]? = some (some (vec k f l))) (h0 : Nat.ble σ0.length id.1 = true) (hid : newF σv = some n')
  (h1 : putF σv id none = some σ1) (hσ' : A6 σ1 (.one (vec k f (w8 l off len))) = some σ') (henv : ReE env t (.own n' 0 (w8 l off len).length) env') : Sub σ0 ⟨env, σv⟩ ⟨env', σ'⟩ := fun Γ sz φ a w hΓ hR => by
 have h2 := I0 h1
 have h3 := E2 hid; have h4 := q8 hσ'
 have hvl := viewL_len hv
 have hvg := P5 hv
 subst hj hn h2 h3 h4
 have hidl := b6.lt_of hσ
 have at_new : (σv.put id none ++ [.one (vec k f (w8 l off len))])[((σv.length, []) : Id)]? = some (some (vec k f (w8 l off len))) := by
  rw [b6.get_right (by simp)]; simp; rfl
 obtain ⟨u0, hu0, hrel⟩ := hR.env t _ hx
 have ho := z6 hrel hσ
 have fin : ∀ (φ' : Phi) (hk : Kept w w φ φ' σv (σv.put id none ++ [.one (vec k f (w8 l off len))]) (Al Γ.N φ σv) (Al Γ.N φ' (σv.put id none ++ [.one (vec k f (w8 l off len))]))) (hs : Rs Γ (σv.put id none ++ [.one (vec k f (w8 l off len))]) φ' w) (hview : O3 w (φ' (σv.length, [])) k (w8 l off len).length 0 (w8 l off len).length u0),
   R Γ sz ⟨env', σv.put id none ++ [.one (vec k f (w8 l off len))]⟩ φ' a w := fun φ' hk hs hview => by
  have hR1 := hR.of hk hs
  refine { toRs := hs, defers := hR.defers, asize := hR.asize, env := fun t' v' ht' => ?_ }
  rcases henv.get t' v' ht' with ⟨rfl, rfl⟩ | h
  ·refine ⟨u0, hu0, .c (.own (by simp) (by cases hrel with | c g2 => exact g2.one) fun k' es' he => ?_)⟩
   rw [at_new] at he
   cases he
   simpa using hview
  ·obtain ⟨u1, g1, g2⟩ := hR1.env t' v' h
   exact ⟨u1, g1, g2⟩
 rcases ho with ⟨p1, p2, p3, p4⟩ | ⟨b, base, cap, arr, ety, ad, hp, hvv, had, hcap, hmax, hjn, hbk, hsz⟩
 ·have hnil : w8 l off len = [] := List.eq_nil_of_length_eq_zero (by rw [hvl, p4])
  have hK := hR.toRs.kill id
  have hV := hK.2.virt k
  have e1 : σv.put id none ++ [.one (vec k f (w8 l off len))] = σv.put id none ++ [.one (.cells k [])] := by rw [hnil]; rfl
  rw [b6.length_put] at hV
  refine ⟨fun i => if i = (σv.length, []) then none else φ i, ?_⟩
  have := fin (fun i => if i = (σv.length, []) then none else φ i) (by rw [e1]; exact Kept.trans (Nat.le_refl _) hK.1 hV.1) (by rw [e1]; exact hV.2) (.inl ⟨by simp, p2, rfl, by rw [hnil]; rfl⟩)
  exact this
 ·obtain ⟨arr2, ety2, q1, q2, q3, q4⟩ := F4 hR hσ hp
  rw [hbk] at q1; cases q1
  have hO := Rs.reown (k := k) (base' := base + off.toNat * k) (es' := ((w8 l off len).map f).map (·.map C.imm)) (arr' := arr) hR.toRs hσ hp hbk (fun j e he => by
    have : ((w8 l off len).map f).map (·.map C.imm) = ((((l.map f).map (·.map C.imm)).drop off.toNat).take len.toNat) := by simp [w8, List.map_drop, List.map_take]
    rw [this, List.getElem?_take] at he
    split at he
    ·rw [List.getElem?_drop] at he
     exact q3 _ e he
    ·cases he) (by
    simp only [List.length_map, hvl]
    have : (off.toNat + cap) * k = off.toNat * k + cap * k := Nat.add_mul ..
    have : len.toNat * k ≤ cap * k := Nat.mul_le_mul_right k hcap
    omega) (fun j e o x he hx => by
    have : ((w8 l off len).map f).map (·.map C.imm) = ((((l.map f).map (·.map C.imm)).drop off.toNat).take len.toNat) := by simp [w8, List.map_drop, List.map_take]
    rw [this, List.getElem?_take] at he
    split at he
    ·rw [List.getElem?_drop] at he
     obtain ⟨u2, g1, g2⟩ := q4 _ e o x he hx
     refine ⟨u2, ?_, g2⟩
     rw [← g1, Nat.add_mul]
     congr 1; omega
    ·cases he)
  rw [Go.setRow_self w b arr ety (0, 0) hbk] at hO
  refine ⟨fun i => if i = (σv.length, []) then some (b, base + off.toNat * k) else φ i, ?_⟩
  refine fin _ hO.1 hO.2 (.inr ⟨b, base + off.toNat * k, cap, arr, ety, ad, by simp, ?_, fun hc => ?_, ?_, hmax, by omega, hbk, ?_⟩)
  ·rw [hvv, hvl]
  ·rw [had hc, Nat.zero_mul, Nat.add_zero]
  ·rw [hvl]; exact hcap
  ·have : (off.toNat + cap) * k = off.toNat * k + cap * k := Nat.add_mul ..
   rw [Nat.zero_add]; omega
theorem AWP.reown {c : Code} {off len : Int} {j n : Nat} {n' : Id} {σ1 : b6} {u : Unit} (t : Nat) (hv : vw l off len = some u) (hx : lookup t env = some (.c (.own id j n))) (hj : j = off.toNat) (hn : n = len.toNat) (hσ : σv[id]? = some (some (vec k f l))) (h0 : Nat.ble σ0.length id.1 = true) (hid : newF σv = some n')
  (h1 : putF σv id none = some σ1) (hσ' : A6 σ1 (.one (vec k f (w8 l off len))) = some σ') (henv : ReE env t (.own n' 0 (w8 l off len).length) env') (h : AWP P σ0 sz c Q ⟨env', σ'⟩) : AWP P σ0 sz c Q ⟨env, σv⟩ :=
 AWP.sub (Sub.reown t hv hx hj hn hσ h0 hid h1 hσ' henv) h
theorem zeroCells_one {v : Value} (n : Nat) : (Builtin.zeroCells #[v] n).toList = List.replicate n v := by
 refine List.ext_getElem? fun i => ?_
 simp only [Builtin.zeroCells, Array.toList_map, List.getElem?_map, List.getElem?_replicate]
 by_cases h : i < n
 ·have : (Array.range (n * (#[v] : Array Value).size)).toList[i]? = some i := by simp [h]
  rw [this, if_pos h]
  simp [Nat.mod_one]
 ·have : (Array.range (n * (#[v] : Array Value).size)).toList[i]? = none := by simp; omega
  rw [this, if_neg h]; rfl
theorem S.clear {x : Operand} {t e : TypeId} {bytes : Nat} {z : Value} {off len : Int} {j n : Nat} {u : Unit} {a0 : α} {c0 : C} [ht : TyD P t (.slice e)] [hs : TyS P e 1 bytes z] (hz1 : z.cells = #[z]) (hzc : z.oneCell' = true)
  (hf : (f a0).map C.imm = [c0]) (hrel : ∀ w φ σ A, RelC w φ σ A c0 z)
  (hv : vw l off len = some u) (hx : ev env x = some (.c (.own id j n))) (hj : j = off.toNat) (hn : n = len.toNat) (hσ : σv[id]? = some (some (vec 1 f l))) (hσ' : putF σv id (some (vec 1 f (clrL l off len a0))) = some σ')
  (h : AOps P σ0 sz ops Q rest (St.mk env σ')) : AOps P σ0 sz ops Q (⟨none, .call ⟨.builtin .clear, #[x], #[t]⟩, ty, pos, after, none⟩ :: rest) (St.mk env σv) := by
 have hvg := P5 hv
 have h2 := I0 hσ'
 subst hj hn h2
 refine .valueW rfl rfl (.tup []) (σv.put id (some (vec 1 f (clrL l off len a0)))) (fun Γ φ a w hR => ?_) h
 have tupR : ∀ {w φ σ A}, RelT w φ σ A (.tup []) (.tuple #[]) := fun {w φ σ A} => RelT.tup (ts := []) (fun _ => undef) fun i t h => by simp at h
 have ho := z6 (j8 hR hx) hσ
 have clen : (clrL l off len a0).length = l.length := by simp [clrL]; omega
 have nothing : len.toNat = 0 → clrL l off len a0 = l := fun e => by simp [clrL, e]
 have same : len.toNat = 0 → (execOp a.eval ⟨none, .call ⟨.builtin .clear, #[x], #[t]⟩, ty, pos, after, none⟩).run P w = .ok (.value (.tuple #[])) w → ∃ u w' φ', (execOp a.eval ⟨none, .call ⟨.builtin .clear, #[x], #[t]⟩, ty, pos, after, none⟩).run P w = .ok (.value u) w' ∧ RelT w' φ' (σv.put id (some (vec 1 f (clrL l off len a0)))) (Al Γ.N φ' (σv.put id (some (vec 1 f (clrL l off len a0))))) (.tup []) u ∧ R Γ sz ⟨env, σv.put id (some (vec 1 f (clrL l off len a0)))⟩ φ' a w' := fun e0 hrun => by
  rw [nothing e0]
  have hsub := Sub.blk (σ0 := Γ.σ0) (env := env) (id := id) (k := 1) (es := (l.map f).map (·.map C.imm)) (es' := (l.map f).map (·.map C.imm)) hσ rfl (fun i e' he => by
   rcases hR.st.blk _ _ hσ with ⟨_, g2⟩ | ⟨_, _, _, _, _, _, _, g4, _⟩
   ·rw [g2] at he; simp at he
   ·exact g4 i e' he) (fun i e' o x' he hx' => ⟨e', x', he, hx', fun _ _ _ _ _ hr => hr⟩)
  obtain ⟨φ', hR'⟩ := hsub Γ sz φ a w rfl hR
  exact ⟨_, w, φ', hrun, tupR, hR'⟩
 rcases ho with ⟨p1, p2, p3, p4⟩ | ⟨b, base, cap, arr, ety, ad, hp, hvv, had, hcap, hmax, hjn, hbk, hsz⟩
 ·exact same p4 (by simp [execOp, resolve, invoke, builtin, p2, Builtin.clear_, run_underlying ht.h])
 ·by_cases e0 : len.toNat = 0
  ·refine same e0 ?_
   rw [e0] at hvv
   simp [execOp, resolve, invoke, builtin, hvv, Builtin.clear_, run_underlying ht.h]
  ·have hc0 : 0 < cap := by omega
   have := had hc0
   subst this
   obtain ⟨arr2, ety2, q1, q2, q3, q4⟩ := F4 hR hσ hp
   rw [hbk] at q1; cases q1
   simp only [List.length_map] at q2 hjn
   have hst := run_storeCells_at P b (base + off.toNat * 1) ety (List.replicate len.toNat z) 0 arr w hbk (by simp; omega) (fun v hv => by rw [List.eq_of_mem_replicate hv]; exact hzc)
   simp only [Nat.add_zero, Nat.mul_one, List.length_replicate] at hst
   have hl1 : ∀ b : α, ((f b).map C.imm).length = (f b).length := fun b => by simp
   have hW := Rs.write (k := 1) (es' := ((clrL l off len a0).map f).map (·.map C.imm)) (arr' := (arr.toList.take (base + off.toNat) ++ List.replicate len.toNat z ++ arr.toList.drop (base + off.toNat + len.toNat)).toArray) hR.toRs hσ hp hbk (by simp [clen]) (by simp; omega) (fun i e' he => by
     simp only [List.map_map, List.getElem?_map, Option.map_eq_some_iff] at he
     obtain ⟨y, hy, rfl⟩ := he
     by_cases hyl : y ∈ l
     ·obtain ⟨i', hi'⟩ := List.getElem?_of_mem hyl
      exact q3 i' _ (by simp [hi'])
     ·have hy := List.mem_of_getElem? hy
      simp only [clrL, List.mem_append] at hy
      rcases hy with (hy | hy) | hy
      ·exact absurd (List.mem_of_mem_take hy) hyl
      ·rw [List.eq_of_mem_replicate hy]
       simp only [Function.comp_apply, hf]; rfl
      ·exact absurd (List.mem_of_mem_drop hy) hyl) (by simp; omega) (fun i e' o x' he hx' => by
     simp only [List.map_map, List.getElem?_map, Option.map_eq_some_iff, Function.comp_apply] at he
     obtain ⟨y, hy, rfl⟩ := he
     simp only [List.getElem?_toArray]
     have hsp := r8 arr.toList (List.replicate len.toNat z) (base + off.toNat) (base + (i * 1 + o)) (by simp; omega)
     simp only [List.length_replicate] at hsp
     rw [hsp]
     have hy' : (clrL l off len a0)[i]? = if off.toNat ≤ i ∧ i < off.toNat + len.toNat then some a0 else l[i]? := by
      have := r8 l (List.replicate len.toNat a0) off.toNat i (by simp; omega)
      simp only [List.length_replicate] at this
      rw [clrL, this]
      split
      ·rw [List.getElem?_replicate, if_pos (by omega)]
      ·rfl
     rw [hy'] at hy
     split at hy
     ·rename_i hi
      cases hy
      rw [hf] at hx'
      match o with
      | 0 =>
       cases hx'
       rw [if_pos (by omega), List.getElem?_replicate, if_pos (by omega)]
       exact ⟨z, rfl, hrel _ _ _ _⟩
      | o + 1 => simp at hx'
     ·rename_i hi
      have ho : o = 0 := by
       have h1 := q3 i ((f y).map C.imm) (by simp [hy])
       have := (List.getElem?_eq_some_iff.1 hx').1
       omega
      subst ho
      rw [if_neg (by omega)]
      obtain ⟨u2, g1, g2⟩ := q4 i ((f y).map C.imm) 0 x' (by simp [hy]) hx'
      exact ⟨u2, by simpa using g1, g2⟩)
   have hz := X8 (P := P) (t := e) w
   refine ⟨.tuple #[], _, φ, ?_, tupR, hR.of hW.1 hW.2⟩
   have hne : ¬ (len.toNat = 0) := e0
   simp [execOp, resolve, invoke, builtin, hvv, Builtin.clear_, run_underlying ht.h, hz, hz1, zeroCells_one, hst]
end
end Ab
end
section
namespace Ab
open Go Go.Sort
def CmpOk {α : Type} (cmp : α → α → Option Int) (cf : α → α → Int) : Prop := (∀ a b, cmp a b = some (cf a b)) ∧ SWO (Go.Proofs.ltOf cf) ∧ ∀ a b, ¬ cf a b < 0 → ¬ cf b a < 0 → a = b
noncomputable def sortFL {α : Type} (cmp : α → α → Option Int) (l : List α) : Option (List α) := open Classical in
 if h : l.length < 4611686018427387904 ∧ ∃ cf, CmpOk cmp cf then some (l.mergeSort fun x y => decide (¬ h.2.choose y x < 0)) else none
theorem sortFL_eq {α : Type} {cmp : α → α → Option Int} {cf : α → α → Int} {l : List α} (h : l.length < 4611686018427387904) (hc : CmpOk cmp cf) : sortFL cmp l = some (l.mergeSort fun x y => decide (¬ cf y x < 0)) := by
 unfold sortFL
 have hx : l.length < 4611686018427387904 ∧ ∃ cf, CmpOk cmp cf := ⟨h, cf, hc⟩
 rw [dif_pos hx]
 have e : hx.2.choose = cf := by
  funext a b
  have := hx.2.choose_spec.1 a b
  rw [hc.1 a b] at this
  exact (Option.some.inj this).symm
 rw [e]
theorem sortFL_len {α : Type} {cmp : α → α → Option Int} {l l' : List α} (h : sortFL cmp l = some l') : l.length = l'.length := by
 unfold sortFL at h
 split at h
 ·cases h; simp
 ·cases h
def SortFOk (P : Program) (f : FuncId) : Prop := ∀ {α : Type} {g : FuncId} {g0 : α → I} {cf : α → α → Int}, R1 P g → SWO (Go.Proofs.ltOf cf) → (∀ a b, ¬ cf a b < 0 → ¬ cf b a < 0 → a = b) → (∀ a b, d9 P g [.c (.imm (g0 a)), .c (.imm (g0 b))] (.c (int (cf a b)))) →
 ∀ {σ : b6} {id : Id} {l : List α}, σ[id]? = some (some (vec 1 (fun a => [g0 a]) l)) → l.length < 4611686018427387904 →
  FnOk P f [.c (.own id 0 l.length), .c (.fn g [])] σ fun r σ' => r = .tup [] ∧ σ'.length = σ.length ∧ ∀ i : Id, σ'[i]? = (σ.put id (some (vec 1 (fun a => [g0 a]) (l.mergeSort fun x y => decide (¬ cf y x < 0)))))[i]?
section
variable {P : Program} {σ0 : b6} {sz : Nat} {Q : Post} {env : Env} {σv σ' : b6} {ops : Array Oper} {rest : List Oper} {dst : Option Nat} {ty : TypeId} {pos : String} {after : Array Edge}
theorem S.sortF {α : Type} {f : α → List I} (g0 : α → I) {cmp : α → α → Option Int} {x : Operand} {al : List Operand} {ats : Array TypeId} {fs g : FuncId} {id : Id} {n : Nat} {l l' : List α} (hs : sortFL cmp l = some l') (hfg : f = fun a => [g0 a])
  (hcmp : ∀ {a b r}, cmp a b = some r → d9 P g [.c (.imm (g0 a)), .c (.imm (g0 b))] (.c (int r))) (hf : SortFOk P fs) (hgn : R1 P g) (hx : ev env x = some (.c (.fn fs []))) (ha : evs env al = some [.c (.own id 0 n), .c (.fn g [])]) (hn : n = l.length) (hσ : σv[id]? = some (some (vec 1 f l)))
  (hd : h9 sz dst = true) (hσ' : putF σv id (some (vec 1 f l')) = some σ') (h : AOps P σ0 sz ops Q rest (St.mk (putE env dst (.tup [])) σ')) :
  AOps P σ0 sz ops Q (⟨dst, .call ⟨.value x, al.toArray, ats⟩, ty, pos, after, none⟩ :: rest) (St.mk env σv) := by
 have h2 := I0 hσ'
 subst h2 hn hfg
 unfold sortFL at hs
 split at hs
 ·rename_i hx0
  cases hs
  obtain ⟨c1, c2, c3⟩ := hx0.2.choose_spec
  refine AOps.callS hx ha hd (hf hgn c2 c3 (fun a b => hcmp (c1 a b)) hσ hx0.1) ?_
  rintro r σ2 ⟨rfl, hl, he⟩
  refine AOps.sub (s' := ⟨putE env dst (.tup []), σv.put id (some (vec 1 (fun a => [g0 a]) (l.mergeSort fun x y => decide (¬ hx0.2.choose y x < 0))))⟩) ?_ h
  have := Sub.same (σ0 := σ0) (env := putE env dst (.tup [])) (σ1 := σ2) (σ2 := σv.put id (some (vec 1 (fun a => [g0 a]) (l.mergeSort fun x y => decide (¬ hx0.2.choose y x < 0))))) (by rw [b6.length_put, hl]) he
  cases dst <;> exact this
 ·cases hs
end
/-! ### Views in chains -/
theorem V2 {α : Type} (l : List α) : vw l 0 (l.length : Int) = some () := by unfold vw; rw [if_pos]; omega
theorem vw_cut {α : Type} {l : List α} {off len lo hi : Int} {u u' : Unit} (h : vw l off len = some u) (hc : cutV len lo hi = some u') : vw l (off + lo) (hi - lo) = some () := by
 have := P5 h; have := ad3 hc
 unfold vw; rw [if_pos]; omega
theorem vw_to {α : Type} {l : List α} {off len hi : Int} {u u' : Unit} (h : vw l off len = some u) (hc : cutV len 0 hi = some u') : vw l off hi = some () := by
 have := P5 h; have := ad3 hc
 unfold vw; rw [if_pos]; omega
theorem clrL_len {α : Type} {l : List α} {off len : Int} {u : Unit} {z : α} (h : vw l off len = some u) : (clrL l off len z).length = l.length := by
 have := P5 h
 simp [clrL]; omega
end Ab
end
section
namespace Ab
open Go
def shlW (k : IntKind) (a b : Int) : Int := k.wrap (a * 2 ^ (min b.toNat k.bits))
def chk0 (b : Int) : Option Unit := if b < 0 then none else some ()
theorem chk0_get {b : Int} {u : Unit} (h : chk0 b = some u) : ¬ b < 0 := by
 unfold chk0 at h
 split at h
 ·cases h
 ·assumption
section
variable {P : Program} {σ0 : b6} {sz : Nat} {Q : Post} {env : Env} {σv : b6} {ops : Array Oper} {rest : List Oper} {dst : Option Nat} {ty : TypeId} {pos : String} {after : Array Edge}
theorem S.shl {t t' : TypeId} {x y : Operand} {k k' : IntKind} {a b : Int} {u : Unit} (hb : chk0 b = some u) (hx : ev env x = some (.c (.imm (.val (.int k a))))) (hy : ev env y = some (.c (.imm (.val (.int k' b))))) (hd : h9 sz dst = true)
  (h : AOps P σ0 sz ops Q rest (St.mk (putE env dst (.c (.imm (.val (.int k (shlW k a b)))))) σv)) : AOps P σ0 sz ops Q (⟨dst, .binOp .shl t x y t', ty, pos, after, none⟩ :: rest) (St.mk env σv) :=
 .bin hx hy hd rfl (fun w => by simp [go_sem]) (fun w => by simp [binOp, Op.shift, chk0_get hb, shlW]) h
end
section
variable {P : Program} {σ0 : b6} {sz : Nat} {Q : Post} {env env' : Env} {σv σ' : b6}
def NilB : List C → List C → Prop
 | [], [] => True
 | c :: r, c' :: r' => (c' = c ∨ c = .imm (.val (.slice none 0 0)) ∧ ∃ k, c' = .imm (.sl k [])) ∧ NilB r r'
 | _, _ => False
theorem NilB.len : ∀ {l l' : List C}, NilB l l' → l'.length = l.length
 | [], [], _ => rfl
 | _ :: r, _ :: r', ⟨_, h⟩ => by simp [NilB.len h]
 | [], _ :: _, h => h.elim
 | _ :: _, [], h => h.elim
theorem NilB.get : ∀ {l l' : List C}, NilB l l' → ∀ (o : Nat) (x : C), l'[o]? = some x → ∃ x0, l[o]? = some x0 ∧ (x = x0 ∨ x0 = .imm (.val (.slice none 0 0)) ∧ ∃ k, x = .imm (.sl k []))
 | [], [], _, o, x, h => by simp at h
 | c :: r, c' :: r', ⟨h1, h2⟩, o, x, h => by
  match o with
  | 0 => cases h; exact ⟨c, rfl, h1⟩
  | o + 1 => simpa using NilB.get h2 o x (by simpa using h)
 | [], _ :: _, h, _, _, _ => h.elim
 | _ :: _, [], h, _, _, _ => h.elim
theorem Sub.nilB {b : Id} {kb : Nat} {cs : List C} (cs' : List C) (hb : σv[b]? = some (some (.cells kb [cs]))) (h : NilB cs cs') (hlen : cs.length = kb) (hσ' : putF σv b (some (.cells kb [cs'])) = some σ') : Sub σ0 ⟨env, σv⟩ ⟨env, σ'⟩ := by
 have g := I0 hσ'
 subst g
 refine Sub.blk hb rfl (fun j e he => ?_) (fun j e o x he hx => ?_)
 ·match j with
  | 0 => cases he; rw [h.len, hlen]
  | j + 1 => simp at he
 ·match j with
  | 0 =>
   cases he
   obtain ⟨x0, h1, h2⟩ := h.get o x hx
   refine ⟨cs, x0, rfl, h1, fun w φ σ A u hr => ?_⟩
   rcases h2 with rfl | ⟨rfl, k, rfl⟩
   ·exact hr
   ·cases hr with | imm hr => cases hr with | val => exact .imm .slNil
  | j + 1 => simp at he
theorem AWP.nilB {c : Code} {b : Id} {kb : Nat} {cs : List C} (cs' : List C) (hb : σv[b]? = some (some (.cells kb [cs]))) (h : NilB cs cs') (hlen : cs.length = kb) (hσ' : putF σv b (some (.cells kb [cs'])) = some σ') (hn : AWP P σ0 sz c Q ⟨env, σ'⟩) : AWP P σ0 sz c Q ⟨env, σv⟩ := AWP.sub (Sub.nilB cs' hb h hlen hσ') hn
end
end Ab
end
section
namespace Ab
open Go
section
variable {α : Type} {f : α → List I} {l : List α} {p m : Nat} {n id : Id}
abbrev vecS (f : α → List I) (l : List α) (p : Nat) (n : Id) (m : Nat) : Blk := .cells 1 (((l.map f).map (·.map C.imm)).set p [.own n 0 m])
theorem mem_set {β : Type} {x a : β} : ∀ {l : List β} {p : Nat}, x ∈ l.set p a → x ∈ l ∨ x = a
 | [], _, h => by simp at h
 | b :: l, 0, h => by
  rcases List.mem_cons.1 h with h | h
  ·exact .inr h
  ·exact .inl (List.mem_cons_of_mem _ h)
 | b :: l, p + 1, h => by
  rcases List.mem_cons.1 h with h | h
  ·exact .inl (h ▸ List.mem_cons_self ..)
  ·rcases mem_set h with h | h
   ·exact .inl (List.mem_cons_of_mem _ h)
   ·exact .inr h
theorem vs_no (h : idb n id = false) : (vecS f l p n m).no id = true := by
 simp only [Blk.no, List.all_eq_true]
 intro e he
 rcases mem_set he with h1 | rfl
 ·have := Blk.im_no id 1 (l.map f)
  simp only [Blk.im, Blk.no, List.all_eq_true] at this
  exact this e h1
 ·simp [C.noL, C.no, h]
theorem FrzB.vs {X : C → C → Prop} (h : idb n id = false) : FrzB id X (.one (vecS f l p n m)) (.one (vecS f l p n m)) := by
 have hno := vs_no (f := f) (l := l) (p := p) (m := m) h
 have imm : ∀ e ∈ ((l.map f).map (·.map C.imm)).set p [.own n 0 m], FrzL id X e e := fun e he => by
  rcases mem_set he with h1 | rfl
  ·simp only [List.map_map, List.mem_map, Function.comp_apply] at h1
   obtain ⟨a, _, rfl⟩ := h1
   exact FrzL.imm _
  ·exact ⟨.inl ⟨rfl, by simp [C.no, h]⟩, trivial⟩
 unfold FrzB
 split
 ·rename_i h1 _; cases h1
 ·rename_i k1 e k2 e' h1 h2
  simp only [Ent.one.injEq, Blk.cells.injEq] at h1 h2
  obtain ⟨rfl, h1⟩ := h1
  obtain ⟨rfl, h2⟩ := h2
  have : e = e' := by rw [h1] at h2; simpa using h2
  subst this
  exact ⟨rfl, imm e (by rw [h1]; simp)⟩
 ·rename_i h1 h2
  cases h1; cases h2
  exact ⟨rfl, hno⟩
 ·rename_i h1; cases h1
 ·rename_i h1 h2 h3 h4
  first | exact (h3 _ _ rfl rfl).elim | exact (h4 _ _ rfl rfl).elim | exact (h2 _ _ rfl rfl).elim
end
section
variable {P : Program} {σ0 : b6} {sz : Nat} {Q : Post} {env : Env} {σv σ' : b6} {ops : Array Oper} {rest : List Oper} {dst : Option Nat} {ty : TypeId} {pos : String} {after : Array Edge}
variable {α β : Type} {f : α → List I} {l : List α} {p m : Nat} {n id : Id}
inductive FrzE (id : Id) (k : Nat) (es : List (List I)) (X : C → C → Prop) : Ent → Ent → Prop
 | old {e e' : Ent} (h : FrzB id X e e') : FrzE id k es X e e'
 | vs {α : Type} {f : α → List I} {l : List α} {p m : Nat} {b : Blk} (h : Blk.frz id k es (vecS f l p id m) = b) : FrzE id k es X (.one (vecS f l p id m)) (.one b)
def FrzS2 (id : Id) (k : Nat) (es : List (List I)) (X : C → C → Prop) : b6 → b6 → Prop
 | [], [] => True
 | b :: r, b' :: r' => FrzE id k es X b b' ∧ FrzS2 id k es X r r'
 | _, _ => False
theorem FrzE.get {k : Nat} {es : List (List I)} {X : C → C → Prop} (hX : ∀ c c', X c c' → c.frz id k es = c') {e e' : Ent} (h : FrzE id k es X e e') (p : List Nat) : (e.sub p).map (Blk.frz id k es) = e'.sub p := by
 cases h with
 | old h => exact FrzB.get hX h p
 | vs h =>
  cases p with
  | nil => simp only [Ent.sub, Option.map_some, h]
  | cons => rfl
theorem FrzS2.get {k : Nat} {es : List (List I)} {X : C → C → Prop} (hX : ∀ c c', X c c' → c.frz id k es = c') : ∀ {σ σ2 : b6}, FrzS2 id k es X σ σ2 → ∀ i : Id, (σ[i]?).map (Option.map (Blk.frz id k es)) = σ2[i]?
 | [], [], _, i => rfl
 | [], _ :: _, h, _ => h.elim
 | _ :: _, [], h, _ => h.elim
 | e :: r, e' :: r', h, (0, p) => by
  rw [b6.at_eq, b6.at_eq]
  simp only [b6.at, List.getElem?_cons_zero, Option.map_some, FrzE.get hX h.1 p]
 | e :: r, e' :: r', h, (i + 1, p) => by
  have := FrzS2.get hX h.2 (i, p)
  rw [b6.at_eq, b6.at_eq] at this ⊢
  simpa [b6.at] using this
theorem FrzS2.len {k : Nat} {es : List (List I)} {X : C → C → Prop} : ∀ {σ σ2 : b6}, FrzS2 id k es X σ σ2 → σ2.length = σ.length
 | [], [], _ => rfl
 | [], _ :: _, h => h.elim
 | _ :: _, [], h => h.elim
 | e :: r, e' :: r', h => by simp [FrzS2.len h.2]
end
end Ab
end
section
namespace Ab
open Go
theorem Rs.adopt {Γ : Cx} {σ : b6} {φ : Phi} {w w' : World} (h : Rs Γ σ φ w) (hos : w'.os = w.os) (ht : w'.tape = w.tape) (hdr : w.drawn ≤ w'.drawn) (ho : w'.output = w.output) (hs : w.heap.size ≤ w'.heap.size) (hold : ∀ b, b < w.heap.size → w'.heap[b]? = w.heap[b]?)
  {k : Nat} {es : List (List C)} {q : Option (Nat × Nat)} (hq : ∀ b base, q = some (b, base) → w.heap.size ≤ b) (hblk : ∀ φ σ A, BlkR w' φ σ A q (.cells k es)) :
  Kept w w' φ (fun i => if i = (σ.length, []) then q else φ i) σ (σ ++ [.one (.cells k es)]) (Al Γ.N φ σ) (Al Γ.N (fun i => if i = (σ.length, []) then q else φ i) (σ ++ [.one (.cells k es)])) ∧
  Rs Γ (σ ++ [.one (.cells k es)]) (fun i => if i = (σ.length, []) then q else φ i) w' := by
 generalize hφ : (fun i => if i = (σ.length, []) then q else φ i) = φ'
 have plo : ∀ i : Id, i.1 < σ.length → φ' i = φ i := fun i hi => by
  have : i ≠ (σ.length, []) := fun e => by rw [e] at hi; exact Nat.lt_irrefl _ hi
  rw [← hφ]; simp [this]
 have pnew : φ' (σ.length, []) = q := by rw [← hφ]; simp
 have cases2 : ∀ (i : Id) blk, (σ ++ [.one (.cells k es)])[i]? = some (some blk) → (i.1 < σ.length ∧ σ[i]? = some (some blk)) ∨ (i = (σ.length, []) ∧ blk = .cells k es) := fun i blk hi => b6.get_new hi
 have A1 : ∀ b, Al Γ.N φ σ b → b < w.heap.size → Al Γ.N φ' (σ ++ [.one (.cells k es)]) b := fun b hb hl => ⟨hb.1, fun i blk base hi hp => by
  rcases cases2 i blk hi with ⟨h1, h2⟩ | ⟨rfl, rfl⟩
  ·rw [plo i h1] at hp; exact hb.2 i blk base h2 hp
  ·rw [pnew] at hp; have := hq b base hp; omega⟩
 have hK : Kept w w' φ φ' σ (σ ++ [.one (.cells k es)]) (Al Γ.N φ σ) (Al Γ.N φ' (σ ++ [.one (.cells k es)])) :=
  {imm := fun b _ hl => hold b hl, all := A1, len := by simp,
   cells := fun i kk es' hi he => by
    rw [b6.get_left hi] at he
    exact ⟨es', he, rfl, plo i hi, fun b base arr ety hp hb => ⟨arr, (hold b (Al.own_lt h.st he hp)).trans hb, rfl⟩⟩,
   obj := fun i p' hi he => by
    rw [b6.get_left hi] at he
    exact ⟨plo i hi, p', he⟩ }
 refine ⟨hK, ?_⟩
 exact {
  good := h.good
  st := ⟨fun i b hi => by
    rcases cases2 i b hi with ⟨h1, h2⟩ | ⟨rfl, rfl⟩
    ·rw [plo i h1]
     exact (h.st.blk i b h2).mono hK fun g base hp => hold g (Al.own_lt h.st h2 hp)
    ·rw [pnew]
     exact hblk _ _ _,
   fun i j bi bj p1 q1 hi hj hp hq1 he => by
    obtain ⟨pb, po⟩ := p1
    obtain ⟨qb, qo⟩ := q1
    dsimp only at he
    subst he
    rcases cases2 i bi hi with ⟨h1, h2⟩ | ⟨rfl, rfl⟩ <;> rcases cases2 j bj hj with ⟨g1, g2⟩ | ⟨rfl, rfl⟩
    ·rw [plo i h1] at hp; rw [plo j g1] at hq1
     exact h.st.inj i j bi bj _ _ h2 g2 hp hq1 rfl
    ·rw [plo i h1] at hp; rw [pnew] at hq1
     have := Al.own_lt h.st h2 hp; have := hq _ _ hq1; omega
    ·rw [plo j g1] at hq1; rw [pnew] at hp
     have := Al.own_lt h.st g2 hq1; have := hq _ _ hp; omega
    ·rfl⟩
  keep := fun i blk b base hi hp hKb => by
   rcases cases2 i blk hi with ⟨h1, h2⟩ | ⟨rfl, rfl⟩
   ·rw [plo i h1] at hp; exact h.keep i blk b base h2 hp hKb
   ·rw [pnew] at hp
    have := hq _ _ hp
    have := hKb.1; have := h.size; omega
  os := hos.trans h.os
  tape := ht.trans h.tape
  drawn := Nat.le_trans h.drawn hdr
  output := ho.trans h.output
  size := Nat.le_trans h.size hs
  block := fun b hKb => (hold b (Nat.lt_of_lt_of_le hKb.1 h.size)).trans (h.block b hKb)
  kept := Kept.trans h.size h.kept hK }
section
variable {P : Program} {σ0 : b6} {sz : Nat} {Q : Post} {env : Env} {σv σ' : b6} {ops : Array Oper} {rest : List Oper} {dst : Option Nat} {ty : TypeId} {pos : String} {after : Array Edge}
theorem S.freshL {α : Type} {g : α → List I} {l : List α} {x : Operand} {as' : List Operand} {ats : Array TypeId} {f : FuncId} {caps : List C} {ts ts' : List T} {k : Nat} {n : Id} (hg : ∀ a, ((g a).map C.imm).all C.scal = true) (hx : ev env x = some (.c (.fn f caps))) (ha : evs env as' = some ts) (hl : V9 σv (ts ++ caps.map T.c) ts') (hd : h9 sz dst = true)
  (hf : m5 P f ts' k (l.map g)) (hn : newF σv = some n) (hσ : A6 σv (.one (vec k g l)) = some σ') (h : AOps P σ0 sz ops Q rest (St.mk (putE env dst (.c (.own n 0 l.length))) σ')) :
  AOps P σ0 sz ops Q (⟨dst, .call ⟨.value x, as'.toArray, ats⟩, ty, pos, after, none⟩ :: rest) (St.mk env σv) := by
 have h1 := E2 hn; have h2 := q8 hσ
 subst h1 h2
 intro Γ φ a w hΓ hR
 refine wpList_plain rfl fun K hK => ?_
 obtain ⟨vs, h1, h2, h3⟩ := ab4 (P := P) (dst := dst) (ty := ty) (pos := pos) (after := after) (ats := ats) hR hx ha hf.fn
 obtain ⟨l1, l2⟩ := hl.get
 unfold Oper.wp
 rw [h1, Oper.upon_enter]
 refine (hf.run (Cx.open w) vs rfl (good_open w) (by rw [l1]; exact h2) (fun i t u hi hu => ?_)).mono ?_
 ·obtain ⟨t0, ht0, hlend⟩ := l2 i t hi
  exact hlend.rel hR (al_open w) (h3 i t0 u ht0 hu)
 ·rintro e w' ⟨v, r', σ2, φ', rfl, ⟨id', rfl, hid⟩, hrel, hs⟩
  have hview := z6 hrel hid
  have hb := hs.st.blk _ _ hid
  have hnew : ∀ b base, φ' id' = some (b, base) → w.heap.size ≤ b := fun b base hp => by
   have := hs.keep id' _ b base hid hp
   rcases Nat.lt_or_ge b w.heap.size with c | c
   ·exact absurd ⟨c, fun i blk base hi => by simp [Cx.open] at hi⟩ this
   ·exact c
  have scal : ∀ (j : Nat) (e : List C) (o : Nat) (y : C), ((l.map g).map (·.map C.imm))[j]? = some e → e[o]? = some y → y.scal = true := fun j e o y he hy => by
   simp only [List.map_map, List.getElem?_map, Option.map_eq_some_iff, Function.comp_apply] at he
   obtain ⟨z, _, rfl⟩ := he
   have := List.all_eq_true.1 (hg z)
   exact this y (List.mem_of_getElem? hy)
  obtain ⟨hK1, hR1⟩ := hR.toRs.adopt (w' := w') hs.os hs.tape hs.drawn hs.output hs.size (fun b hb => hs.block b ⟨hb, fun i blk base hi => by simp [Cx.open] at hi⟩) (k := k) (es := (l.map g).map (·.map C.imm)) (q := φ' id') hnew (fun φ σ A => by
   rcases hb with h | ⟨b, base, arr, ety, p1, p2, p3, p4, p5⟩
   ·exact .inl h
   ·refine .inr ⟨b, base, arr, ety, p1, p2, p3, p4, fun j e o y he hy => ?_⟩
    obtain ⟨u, hu, hr⟩ := p5 j e o y he hy
    exact ⟨u, hu, C.scal_rel (scal j e o y he hy) hr⟩)
  have hlen : (l.map g).length = l.length := List.length_map ..
  refine hK _ _ (h Γ _ _ w' hΓ ((hR.of hK1 hR1).put hd ?_))
  refine E3 (k := k) (es := (l.map g).map (·.map C.imm)) (b6.get_last _ _) (by cases hrel with | c hr => exact hr.one) ?_
  rw [hlen] at hview
  simpa using hview
end
end Ab
end
section
namespace Ab
open Go
section
variable {P : Program} {σ0 : b6} {sz : Nat} {Q : Post} {env : Env} {σv σ' : b6} {ops : Array Oper} {rest : List Oper} {dst : Option Nat} {ty : TypeId} {pos : String} {after : Array Edge}
theorem AOps.eqlNil {x y : Operand} {t t' e : TypeId} {k : Nat} {es : List (List I)} [ht : TyD P t (.slice e)] (hx : ev env x = some (.c (.imm (.sl k es)))) (hy : ev env y = some (.c (.imm (.val (.slice none 0 0))))) (hd : h9 sz dst = true)
  (h1 : es = [] → AOps P σ0 sz ops Q rest (St.mk (putE env dst (.c (bool true))) σv)) (h2 : AOps P σ0 sz ops Q rest (St.mk (putE env dst (.c (bool false))) σv)) :
  AOps P σ0 sz ops Q (⟨dst, .binOp .eql t x y t', ty, pos, after, none⟩ :: rest) (St.mk env σv) := fun Γ φ a w hΓ hR =>
 wpList_plain rfl fun K hK => by
  have hrel := j8 hR hx
  have hyv := u6 hR hy
  generalize hu : a.eval x = u at hrel
  cases hrel with | c hrel => cases hrel with | imm hrel =>
  unfold Oper.wp
  cases hrel with
  | slNil =>
   have hg : (eqGuard .eql t x y (.slice none 0 0) (.slice none 0 0)).run P w = .ok () w := rfl
   have hr : (binOp .eql t (.slice none 0 0) (.slice none 0 0)).run P w = .ok (.bool true) w := by
    show (do pure (Value.bool (← Op.equal t (.slice none 0 0) (.slice none 0 0)))).run P w = _
    simp [run_equal_slice_nil w t e none 0 0 ht.h]
   have hrun : (execOp a.eval ⟨dst, .binOp .eql t x y t', ty, pos, after, none⟩).run P w = .ok (.value (.bool true)) w := by
    simp [execOp, hu, hyv, hg, hr]
   rw [hrun, Oper.upon_value]
   exact hK _ _ (h1 rfl Γ φ _ w hΓ (hR.put hd (.c (.imm (.val rfl)))))
  | @sl _ _ ad cap us _ _ _ _ _ =>
   have hg : (eqGuard .eql t x y (.slice (some ad) es.length cap) (.slice none 0 0)).run P w = .ok () w := rfl
   have hr : (binOp .eql t (.slice (some ad) es.length cap) (.slice none 0 0)).run P w = .ok (.bool false) w := by
    show (do pure (Value.bool (← Op.equal t (.slice (some ad) es.length cap) (.slice none 0 0)))).run P w = _
    simp [run_equal_slice_nil w t e (some ad) es.length cap ht.h]
   have hrun : (execOp a.eval ⟨dst, .binOp .eql t x y t', ty, pos, after, none⟩).run P w = .ok (.value (.bool false)) w := by
    simp [execOp, hu, hyv, hg, hr]
   rw [hrun, Oper.upon_value]
   exact hK _ _ (h2 Γ φ _ w hΓ (hR.put hd (.c (.imm (.val rfl)))))
end
end Ab
end
section
namespace Ab
open Go Go.Proofs
def u4 (s : List Int) : Option (List Int) := app 8 [] s
theorem I7 {s r : List Int} (h : u4 s = some r) : m5 Tryz.prog 66 [.c (row 1 intI s)] 1 (List.map intI r) := by
 unfold u4 at h
 unfold m5
 refine FnOk.enter (rs := [.t 2]) Tryz.func66 rfl Tryz.ntmps66 Tryz.results66 rfl ⟨trivial, trivial⟩ (by kernel_rfl) rfl ?_
 refine AWP.d ?_
 refine AWP.f ?_
 refine AOps.e rfl rfl ?_
 refine AOps.nil ?_
 refine b5 ?_
 refine AWP.d ?_
 refine AWP.d ?_
 refine AWP.f ?_
 refine AOps.a rfl rfl ?_
 refine AOps.eqlNil rfl rfl rfl (fun he => ?_) ?_
 ·have hs : s = [] := by simpa using he
  subst hs
  have hr : r = [] := by
   have := app_get h
   simpa using this.2
  subst hr
  refine AOps.nil ?_
  refine b5 ?_
  refine AWP.condT rfl ?_
  refine AWP.d ?_
  refine AWP.f ?_
  refine AOps.e rfl rfl ?_
  refine AOps.nil ?_
  refine b5 ?_
  refine AWP.virtV 1 intI 2 rfl rfl rfl ?_
  refine AWP.ret ?_
  refine d8 ?_
  exact Done.ret rfl (Fresh.mk rfl rfl)
 ·refine AOps.nil ?_
  refine b5 ?_
  refine AWP.condF rfl ?_
  refine AWP.skip ?_
  refine b5 ?_
  refine AWP.d ?_
  refine AWP.f ?_
  refine S.lit (f := intI) (l := []) (ess := []) rfl rfl rfl rfl rfl rfl rfl trivial rfl rfl rfl ?_
  refine AOps.a rfl rfl ?_
  refine S.append (f := intI) h rfl rfl rfl rfl rfl rfl .row rfl rfl rfl rfl ?_
  refine AOps.e rfl rfl ?_
  refine AOps.nil ?_
  refine b5 ?_
  refine AWP.ret ?_
  exact Done.ret rfl (Fresh.mk rfl rfl)
end Ab
end
section
namespace Ab
open Go Go.Proofs
abbrev rowI (l : List Int) : List I := [.sl 1 (l.map intI)]
def A9 (s : LL) : Option LL := app 24 [] s
theorem ac2 {s r : LL} (h : A9 s = some r) : m5 Tryz.prog 88 [.c (row 1 rowI s)] 1 (List.map rowI r) := by
 unfold A9 at h
 unfold m5
 refine FnOk.enter (rs := [.t 2]) Tryz.func88 rfl Tryz.ntmps88 Tryz.results88 rfl ⟨trivial, trivial⟩ (by kernel_rfl) rfl ?_
 refine AWP.d ?_
 refine AWP.f ?_
 refine AOps.e rfl rfl ?_
 refine AOps.nil ?_
 refine b5 ?_
 refine AWP.d ?_
 refine AWP.d ?_
 refine AWP.f ?_
 refine AOps.a rfl rfl ?_
 refine AOps.eqlNil rfl rfl rfl (fun he => ?_) ?_
 ·have hs : s = [] := by simpa using he
  subst hs
  have hr : r = [] := by
   have := app_get h
   simpa using this.2
  subst hr
  refine AOps.nil ?_
  refine b5 ?_
  refine AWP.condT rfl ?_
  refine AWP.d ?_
  refine AWP.f ?_
  refine AOps.e rfl rfl ?_
  refine AOps.nil ?_
  refine b5 ?_
  refine AWP.virtV 1 rowI 2 rfl rfl rfl ?_
  refine AWP.ret ?_
  refine d8 ?_
  exact Done.ret rfl (Fresh.mk rfl rfl)
 ·refine AOps.nil ?_
  refine b5 ?_
  refine AWP.condF rfl ?_
  refine AWP.skip ?_
  refine b5 ?_
  refine AWP.d ?_
  refine AWP.f ?_
  refine S.lit (f := rowI) (l := []) (ess := []) rfl rfl rfl rfl rfl rfl rfl trivial rfl rfl rfl ?_
  refine AOps.a rfl rfl ?_
  refine S.append (f := rowI) h rfl rfl rfl rfl rfl rfl .row rfl rfl rfl rfl ?_
  refine AOps.e rfl rfl ?_
  refine AOps.nil ?_
  refine b5 ?_
  refine AWP.ret ?_
  exact Done.ret rfl (Fresh.mk rfl rfl)
end Ab
end
section
namespace Ab
open Go Go.Proofs
set_option maxHeartbeats 4000000
attribute [local irreducible] AWP AOps thn inB Done d9 m5 Sub
abbrev u64 (n : Int) : C := .imm (.val (.int .u64 n))
theorem and32 (n : Nat) (hn : n ≤ 4294967295) : Go.bits .and .u64 (n : Int) 4294967295 = n := by
 have h := bits_and_u64_nat n 4294967295 (by omega) (by omega)
 rw [show (4294967295 : Nat) = 2 ^ 32 - 1 from rfl, Nat.and_two_pow_sub_one_eq_mod] at h
 rw [show ((4294967295 : Int)) = ((2 ^ 32 - 1 : Nat) : Int) from rfl, h]
 omega
theorem small_facts (n : Nat) (hn : n ≤ 4294967295) : Go.bits .and .u64 (n : Int) 4294967295 = n ∧ Int.fdiv (n : Int) (2 ^ (min (32 : Int).toNat (IntKind.bits .u64))) = 0 ∧ IntKind.u64.wrap (1 * (n : Int)) = n ∧ IntKind.u64.wrap (0 * (n : Int)) = 0 := by
 refine ⟨and32 n hn, ?_, ?_, ?_⟩
 ·show Int.fdiv (n : Int) 4294967296 = 0
  rw [Int.fdiv_eq_ediv_of_nonneg _ (by omega)]; omega
 ·simp only [IntKind.wrap, IntKind.bits, IntKind.signed, Bool.false_and]; simp; omega
 ·simp [IntKind.wrap, IntKind.bits, IntKind.signed]
theorem mul64_ok (n : Nat) (hn : n ≤ 4294967295) : d9 Tryz.prog 112 [.c (u64 1), .c (u64 n)] (.tup [.c (u64 0), .c (u64 n)]) := by
 obtain ⟨f1, f2, f3, f4⟩ := small_facts n hn
 unfold d9
 refine FnOk.enter (rs := [.t 4, .t 5]) Tryz.func112 rfl Tryz.ntmps112 Tryz.results112 rfl ⟨trivial, trivial, trivial⟩ (by kernel_rfl) rfl ?_
 repeat (first | refine AOps.a rfl rfl ?_ | refine AOps.e rfl rfl ?_ | refine AOps.nil ?_ | refine AWP.d ?_ | refine AWP.f ?_ | refine b5 ?_ | refine AOps.andE (c := (n : Int)) rfl rfl rfl f1 ?_ | refine AOps.andE (c := 1) rfl rfl rfl (by decide) ?_ | refine AOps.andE (c := 0) rfl rfl rfl (by decide) ?_ | refine AOps.shr (c := 0) rfl rfl rfl (by decide) (by first | exact f2 | decide) ?_ | refine AOps.mulE (c := (n : Int)) rfl rfl rfl f3 ?_ | refine AOps.mulE (c := 0) rfl rfl rfl (by first | exact f4 | decide) ?_ | refine AOps.addE (c := 0) rfl rfl rfl (by decide) ?_)
 repeat (first | refine AWP.d ?_ | refine AWP.ret ?_ | refine d8 ?_ | refine g7 ?_ | refine AWP.skip ?_ | refine b5 ?_ | refine d5 ?_ | refine AWP.exit ?_ | refine d6 ?_ | refine f9 ?_ | refine Y6 rfl ?_)
 exact Done.ret rfl rfl
theorem mul_ok (n : Nat) (hn : n ≤ 4294967295) : d9 Tryz.prog 94 [.c (u64 1), .c (u64 n)] (.tup [.c (u64 0), .c (u64 n)]) := by
 unfold d9
 refine FnOk.enter (rs := [.t 4, .t 5]) Tryz.func94 rfl Tryz.ntmps94 Tryz.results94 rfl ⟨trivial, trivial, trivial⟩ (by kernel_rfl) rfl ?_
 repeat (first | refine AWP.d ?_ | refine AWP.l ?_ | refine AWP.skip ?_ | refine b5 ?_ | refine d5 ?_ | refine AWP.condT rfl ?_ | refine AWP.condF rfl ?_)
 refine AWP.f ?_
 refine AOps.e rfl rfl ?_
 refine AOps.e rfl rfl ?_
 refine AOps.nil ?_
 repeat (first | refine b5 ?_ | refine d5 ?_)
 repeat (first | refine AWP.d ?_ | refine AWP.l ?_ | refine AWP.skip ?_ | refine b5 ?_ | refine d5 ?_ | refine AWP.condT rfl ?_ | refine AWP.condF rfl ?_)
 refine AWP.f ?_
 refine AOps.a rfl rfl ?_
 refine AOps.a rfl rfl ?_
 refine AOps.k rfl rfl rfl rfl (mul64_ok n hn) rfl ?_
 refine AOps.a rfl rfl ?_
 refine AOps.w rfl rfl rfl ?_
 refine AOps.w rfl rfl rfl ?_
 refine AOps.e rfl rfl ?_
 refine AOps.e rfl rfl ?_
 refine AOps.nil ?_
 repeat (first | refine b5 ?_ | refine d5 ?_)
 repeat (first | refine AWP.d ?_ | refine AWP.l ?_ | refine AWP.skip ?_ | refine b5 ?_ | refine d5 ?_ | refine AWP.condT rfl ?_ | refine AWP.condF rfl ?_)
 refine AWP.f ?_
 refine AOps.a rfl rfl ?_
 refine AOps.a rfl rfl ?_
 refine AOps.e rfl rfl ?_
 refine AOps.e rfl rfl ?_
 refine AOps.nil ?_
 repeat (first | refine b5 ?_ | refine d5 ?_)
 repeat (first | refine AWP.d ?_ | refine AWP.ret ?_ | refine d8 ?_ | refine g7 ?_ | refine AWP.skip ?_ | refine b5 ?_ | refine d5 ?_ | refine AWP.exit ?_ | refine d6 ?_ | refine f9 ?_ | refine Y6 rfl ?_)
 exact Done.ret rfl rfl
theorem wrap_facts (n : Nat) (hn : n ≤ 4294967295) : IntKind.u64.wrap (n : Int) = n ∧ IntKind.i64.wrap (n : Int) = n := by
 refine ⟨?_, wrap_i64 (by omega)⟩
 simp only [IntKind.wrap, IntKind.bits, IntKind.signed, Bool.false_and]; simp; omega
def repC (c : Int) (n i : Nat) : List (List C) := (List.range n).map fun j => [int (if j < i then c else 0)]
theorem rep_first {c : Int} {n : Nat} (h : 1 ≤ n) : (List.replicate n [C.imm (.val (.int .i64 0))]).take 0 ++ (([c] : List Int).map intI |>.map (·.map C.imm)).take 1 ++ (List.replicate n [C.imm (.val (.int .i64 0))]).drop (0 + 1) = repC c n 1 := by
 apply List.ext_getElem?
 intro j
 simp only [repC, List.getElem?_map]
 match j with
 | 0 => simp [show 0 < n by omega]
 | j + 1 =>
  simp only [List.take_zero, List.nil_append, List.map_cons, List.map_nil, List.take_succ_cons, List.take_nil, List.cons_append, List.getElem?_cons_succ, List.getElem?_drop, List.getElem?_replicate]
  by_cases hj : j + 1 < n
  ·rw [if_pos (by omega), List.getElem?_range hj]; simp
  ·rw [if_neg (by omega), List.getElem?_eq_none (by simp; omega)]; rfl
theorem rep_more {c : Int} {n i m : Nat} (h1 : m ≤ i) (h2 : i + m ≤ n) : (repC c n i).take (0 + i) ++ (((repC c n i).drop 0).take i).take m ++ (repC c n i).drop (0 + i + m) = repC c n (i + m) := by
 apply List.ext_getElem?
 intro j
 have len : (repC c n i).length = n := by simp [repC]
 have hg : ∀ k j, (repC c n k)[j]? = if j < n then some [int (if j < k then c else 0)] else none := fun k j => by
  simp only [repC, List.getElem?_map]
  by_cases hj : j < n
  ·rw [List.getElem?_range hj, if_pos hj]; rfl
  ·rw [List.getElem?_eq_none (by simp; omega), if_neg hj]; rfl
 rw [Nat.zero_add, List.drop_zero, hg]
 rcases Nat.lt_or_ge j i with hl | hl
 ·rw [List.append_assoc, List.getElem?_append_left (by simp [len]; omega), List.getElem?_take, if_pos hl, hg]
  simp [show j < n by omega, hl, show j < i + m by omega]
 ·rcases Nat.lt_or_ge j (i + m) with hl2 | hl2
  ·rw [List.getElem?_append_left (by simp [len]; omega), List.getElem?_append_right (by simp [len]; omega), List.getElem?_take, if_pos (by simp [len]; omega), List.getElem?_take, if_pos (by simp [len]; omega), hg]
   have e : (List.take i (repC c n i)).length = i := by simp [len]; omega
   rw [e, if_pos (by omega), if_pos (by omega), if_pos (by omega), if_pos (by omega)]
  ·rw [List.getElem?_append_right (by simp [len]; omega), List.getElem?_drop, hg]
   have e : (List.take i (repC c n i) ++ List.take m (List.take i (repC c n i))).length = i + m := by simp [len]; omega
   rw [e, show i + m + (j - (i + m)) = j by omega]
   split
   ·rw [if_neg (by omega), if_neg (by omega)]
   ·rfl
theorem rep_full (c : Int) (n : Nat) : Blk.cells 1 (repC c n n) = Blk.im 1 (List.replicate n [.val (.int .i64 c)]) := by
 rw [Blk.im, repC]
 congr 1
 apply List.ext_getElem?
 intro j
 simp only [List.getElem?_map, List.getElem?_replicate]
 by_cases hj : j < n
 ·rw [List.getElem?_range hj, if_pos hj]; simp [hj]
 ·rw [List.getElem?_eq_none (by simp; omega), if_neg hj]; rfl
theorem repeat_ok (c : Int) (n : Nat) (h1 : 1 ≤ n) (hn : n ≤ 4294967295) : m5 Tryz.prog 70 [.c (ints [c]), .c (int n)] 1 (List.replicate n [.val (.int .i64 c)]) := by
 obtain ⟨w1, w2⟩ := wrap_facts n hn
 unfold m5
 refine FnOk.enter (rs := [.t 4]) Tryz.func70 rfl Tryz.ntmps70 Tryz.results70 rfl ⟨trivial, trivial⟩ (by kernel_rfl) rfl ?_
 repeat (first | refine AWP.d ?_ | refine AWP.l ?_ | refine AWP.skip ?_ | refine b5 ?_ | refine d5 ?_ | refine AWP.condT rfl ?_ | refine AWP.condF rfl ?_)
 refine AWP.f ?_
 refine AOps.e rfl rfl ?_
 refine AOps.nil ?_
 repeat (first | refine b5 ?_ | refine d5 ?_)
 have hd : decide ((n : Int) < 0) = false := decide_eq_false (by omega)
 repeat (first | refine AWP.d ?_ | refine AWP.l ?_ | refine AWP.skip ?_ | refine b5 ?_ | refine d5 ?_ | refine AWP.condT rfl ?_ | refine AWP.condF rfl ?_)
 refine AWP.f ?_
 refine AOps.a rfl rfl ?_
 refine AOps.j rfl rfl rfl ?_
 refine AOps.nil ?_
 repeat (first | refine b5 ?_ | refine d5 ?_)
 (repeat (refine AWP.d ?_)); first | refine AWP.condD rfl (fun hc => ?_) (fun hc => ?_) | refine AWP.condN rfl (fun hc => ?_) (fun hc => ?_) | refine AWP.condE rfl (fun hc => ?_) (fun hc hc' => ?_) | refine AWP.condB rfl (fun hc => ?_) (fun hc => ?_) | refine AWP.cond rfl (fun hc => ?_) (fun hc => ?_)
 ·omega
 repeat (first | refine AWP.skip ?_ | refine b5 ?_ | refine d5 ?_ | refine AWP.condT rfl ?_ | refine AWP.condF rfl ?_)
 repeat (first | refine AWP.d ?_ | refine AWP.l ?_ | refine AWP.skip ?_ | refine b5 ?_ | refine d5 ?_ | refine AWP.condT rfl ?_ | refine AWP.condF rfl ?_)
 refine AWP.f ?_
 refine AOps.a rfl rfl ?_
 first | refine AOps.lenB rfl rfl (fun _ => ?_) | refine AOps.lenOwnB rfl rfl rfl (fun _ => ?_) | refine AOps.lenNil rfl rfl ?_
 refine AOps.convE (c := 1) rfl rfl (show IntKind.u64.wrap ((1 : Nat) : Int) = 1 by decide) ?_
 refine AOps.a rfl rfl ?_
 refine AOps.convE (c := (n : Int)) rfl rfl w1 ?_
 refine AOps.k rfl rfl rfl rfl (mul_ok n hn) rfl ?_
 refine AOps.a rfl rfl ?_
 refine AOps.w rfl rfl rfl ?_
 refine AOps.w rfl rfl rfl ?_
 refine AOps.e rfl rfl ?_
 refine AOps.e rfl rfl ?_
 refine AOps.nil ?_
 repeat (first | refine b5 ?_ | refine d5 ?_)
 have hd2 : decide ((0 : Int) < 0) = false := by decide
 repeat (first | refine AWP.d ?_ | refine AWP.l ?_ | refine AWP.skip ?_ | refine b5 ?_ | refine d5 ?_ | refine AWP.condT rfl ?_ | refine AWP.condF rfl ?_)
 refine AWP.f ?_
 refine AOps.a rfl rfl ?_
 refine AOps.gtr rfl rfl rfl ?_
 refine AOps.a rfl rfl ?_
 first | (refine AOps.i rfl rfl rfl (by assumption) ?_) | (refine AOps.x rfl rfl rfl ?_) | (refine AOps.g rfl rfl rfl (by assumption) ?_; refine AOps.a rfl rfl ?_)
 first | (refine AOps.i rfl rfl rfl (by assumption) ?_) | (refine AOps.x rfl rfl rfl ?_) | (refine AOps.g rfl rfl rfl (by assumption) ?_; refine AOps.gtr rfl rfl rfl ?_)
 first | refine AOps.o rfl (by assumption) rfl rfl ?_ | refine AOps.n rfl (by assumption) rfl rfl ?_
 refine AOps.nil ?_
 repeat (first | refine b5 ?_ | refine d5 ?_)
 (repeat (refine AWP.d ?_)); first | refine AWP.condD rfl (fun hc => ?_) (fun hc => ?_) | refine AWP.condN rfl (fun hc => ?_) (fun hc => ?_) | refine AWP.condE rfl (fun hc => ?_) (fun hc hc' => ?_) | refine AWP.condB rfl (fun hc => ?_) (fun hc => ?_) | refine AWP.cond rfl (fun hc => ?_) (fun hc => ?_)
 ·omega
 repeat (first | refine AWP.skip ?_ | refine b5 ?_ | refine d5 ?_ | refine AWP.condT rfl ?_ | refine AWP.condF rfl ?_)
 repeat (first | refine AWP.d ?_ | refine AWP.l ?_ | refine AWP.skip ?_ | refine b5 ?_ | refine d5 ?_ | refine AWP.condT rfl ?_ | refine AWP.condF rfl ?_)
 refine AWP.f ?_
 refine AOps.a rfl rfl ?_
 refine AOps.convE (c := (n : Int)) rfl rfl w2 ?_
 refine W.make rfl rfl rfl (by omega) (by omega) rfl rfl rfl ?_
 refine AOps.e rfl rfl ?_
 refine AOps.nil ?_
 repeat (first | refine b5 ?_ | refine d5 ?_)
 repeat (first | refine AWP.d ?_ | refine AWP.l ?_ | refine AWP.skip ?_ | refine b5 ?_ | refine d5 ?_ | refine AWP.condT rfl ?_ | refine AWP.condF rfl ?_)
 refine AWP.f ?_
 refine AOps.a rfl rfl ?_
 refine AOps.a rfl rfl ?_
 refine AOps.copyE (m := 1) (es' := repC c n 1) rfl rfl (by omega) rfl .imm rfl (Nat.min_eq_left h1) (rep_first h1) rfl ?_
 refine AOps.e rfl rfl ?_
 refine AOps.nil ?_
 repeat (first | refine b5 ?_ | refine d5 ?_)
 refine AWP.d ?_
 refine AWP.l ?_
 refine AWP.loop (X := Nat) (fun i => ⟨[(7, .c (.own 0 0 n)), (8, .c (int i))], [.one (.cells 1 (repC c n i))]⟩) (fun i => 1 ≤ i ∧ i ≤ n) (fun i => n - i) 1 (Sub.env ⟨rfl, rfl, trivial⟩) ⟨Nat.le_refl _, h1⟩ ?_
 rintro i ⟨i1, i2⟩
 repeat (first | refine AWP.d ?_ | refine AWP.l ?_ | refine AWP.skip ?_ | refine b5 ?_ | refine d5 ?_ | refine AWP.condT rfl ?_ | refine AWP.condF rfl ?_)
 refine AWP.f ?_
 refine AOps.a rfl rfl ?_
 refine AOps.a rfl rfl ?_
 first | refine AOps.lenB rfl rfl (fun _ => ?_) | refine AOps.lenOwnB rfl rfl rfl (fun _ => ?_) | refine AOps.lenNil rfl rfl ?_
 refine AOps.j rfl rfl rfl ?_
 refine AOps.nil ?_
 repeat (first | refine b5 ?_ | refine d5 ?_)
 (repeat (refine AWP.d ?_)); first | refine AWP.condD rfl (fun hc => ?_) (fun hc => ?_) | refine AWP.condN rfl (fun hc => ?_) (fun hc => ?_) | refine AWP.condE rfl (fun hc => ?_) (fun hc hc' => ?_) | refine AWP.condB rfl (fun hc => ?_) (fun hc => ?_) | refine AWP.cond rfl (fun hc => ?_) (fun hc => ?_)
 ·have hi : i < n := by omega
  obtain ⟨m, hm⟩ : ∃ m, m = Nat.min i (n - i) := ⟨_, rfl⟩
  have hm1 : 1 ≤ m := by rw [hm]; exact Nat.le_min.2 ⟨i1, by omega⟩
  have hm2 : m ≤ i ∧ i + m ≤ n := by
   have := Nat.min_le_left i (n - i)
   have := Nat.min_le_right i (n - i)
   change m = min i (n - i) at hm
   omega
  have hcm : Nat.min (((repC c n i).drop 0).take i).length (n - i) = m := by
   rw [hm]
   congr 1
   simp [repC]; omega
  have hce : (repC c n i).take (0 + i) ++ (((repC c n i).drop 0).take i).take m ++ (repC c n i).drop (0 + i + m) = repC c n (i + m) := rep_more hm2.1 hm2.2
  repeat (first | refine AWP.skip ?_ | refine b5 ?_ | refine d5 ?_ | refine AWP.condT rfl ?_ | refine AWP.condF rfl ?_)
  repeat (first | refine AWP.d ?_ | refine AWP.l ?_ | refine AWP.skip ?_ | refine b5 ?_ | refine d5 ?_ | refine AWP.condT rfl ?_ | refine AWP.condF rfl ?_)
  refine AWP.drawEI [7] mixed rfl rfl rfl ?_
  apply g8.consN; exact rfl; exact rfl; intro E
  refine AOps.a rfl rfl ?_
  exact AOps.nil ⟨rfl, rfl⟩
  exact rfl
  apply g8.consN; exact rfl; exact rfl; intro E
  refine AOps.a rfl rfl ?_
  exact AOps.nil ⟨rfl, rfl⟩
  exact rfl
  apply g8.consN; exact rfl; exact rfl; intro E
  refine AOps.a rfl rfl ?_
  exact AOps.nil ⟨rfl, rfl⟩
  exact rfl
  apply g8.consN; exact rfl; exact rfl; intro E
  first | refine AOps.sliceArrI rfl (Nat.le_of_ble_eq_true rfl) rfl rfl ?_ | refine AOps.sliceOwnTo rfl rfl rfl (by omega) rfl ?_ | refine AOps.sliceOwnFrom rfl rfl rfl (by omega) rfl ?_
  exact AOps.nil ⟨rfl, rfl⟩
  exact rfl
  apply g8.consN; exact rfl; exact rfl; intro E
  refine AOps.a rfl rfl ?_
  exact AOps.nil ⟨rfl, rfl⟩
  exact rfl
  apply g8.consN; exact rfl; exact rfl; intro E
  refine AOps.a rfl rfl ?_
  exact AOps.nil ⟨rfl, rfl⟩
  exact rfl
  apply g8.consN; exact rfl; exact rfl; intro E
  first | refine AOps.sliceArrI rfl (Nat.le_of_ble_eq_true rfl) rfl rfl ?_ | refine AOps.sliceOwnTo rfl rfl rfl (by omega) rfl ?_ | refine AOps.sliceOwnFrom rfl rfl rfl (by omega) rfl ?_
  exact AOps.nil ⟨rfl, rfl⟩
  exact rfl
  apply g8.consE; exact rfl; exact rfl; intro E
  refine AOps.copyE rfl rfl (by omega) rfl (Src.own rfl) rfl hcm hce rfl ?_
  exact AOps.nil ⟨rfl, rfl⟩
  exact rfl
  exact rfl
  apply g8.consN; exact rfl; exact rfl; intro E
  refine AOps.add rfl rfl rfl (by omega) ?_
  exact AOps.nil ⟨rfl, rfl⟩
  exact rfl
  apply g8.consN; exact rfl; exact rfl; intro E
  refine AOps.e rfl rfl ?_
  exact AOps.nil ⟨rfl, rfl⟩
  exact rfl
  refine g8.done rfl ?_ ?_
  ·apply e8.cons; exact rfl; exact rfl
   first | refine b8.skip rfl ?_ | (apply b8.go; exact rfl; exact rfl; intro E; (refine AOps.a rfl rfl ?_); exact AOps.nil ⟨rfl, rfl⟩)
   first | refine b8.skip rfl ?_ | (apply b8.go; exact rfl; exact rfl; intro E; (refine AOps.a rfl rfl ?_); exact AOps.nil ⟨rfl, rfl⟩)
   exact b8.nil
   apply e8.cons; exact rfl; exact rfl
   first | refine b8.skip rfl ?_ | (apply b8.go; exact rfl; exact rfl; intro E; (refine AOps.a rfl rfl ?_); exact AOps.nil ⟨rfl, rfl⟩)
   first | refine b8.skip rfl ?_ | (apply b8.go; exact rfl; exact rfl; intro E; (refine AOps.a rfl rfl ?_); exact AOps.nil ⟨rfl, rfl⟩)
   exact b8.nil
   apply e8.cons; exact rfl; exact rfl
   first | refine b8.skip rfl ?_ | (apply b8.go; exact rfl; exact rfl; intro E; (refine AOps.a rfl rfl ?_); exact AOps.nil ⟨rfl, rfl⟩)
   first | refine b8.skip rfl ?_ | (apply b8.go; exact rfl; exact rfl; intro E; (refine AOps.a rfl rfl ?_); exact AOps.nil ⟨rfl, rfl⟩)
   exact b8.nil
   apply e8.cons; exact rfl; exact rfl
   first | refine b8.skip rfl ?_ | (apply b8.go; exact rfl; exact rfl; intro E; (first | refine AOps.sliceArrI rfl (Nat.le_of_ble_eq_true rfl) rfl rfl ?_ | refine AOps.sliceOwnTo rfl rfl rfl (by omega) rfl ?_ | refine AOps.sliceOwnFrom rfl rfl rfl (by omega) rfl ?_); exact AOps.nil ⟨rfl, rfl⟩)
   first | refine b8.skip rfl ?_ | (apply b8.go; exact rfl; exact rfl; intro E; (first | refine AOps.sliceArrI rfl (Nat.le_of_ble_eq_true rfl) rfl rfl ?_ | refine AOps.sliceOwnTo rfl rfl rfl (by omega) rfl ?_ | refine AOps.sliceOwnFrom rfl rfl rfl (by omega) rfl ?_); exact AOps.nil ⟨rfl, rfl⟩)
   exact b8.nil
   apply e8.cons; exact rfl; exact rfl
   first | refine b8.skip rfl ?_ | (apply b8.go; exact rfl; exact rfl; intro E; (refine AOps.a rfl rfl ?_); exact AOps.nil ⟨rfl, rfl⟩)
   first | refine b8.skip rfl ?_ | (apply b8.go; exact rfl; exact rfl; intro E; (refine AOps.a rfl rfl ?_); exact AOps.nil ⟨rfl, rfl⟩)
   exact b8.nil
   apply e8.cons; exact rfl; exact rfl
   first | refine b8.skip rfl ?_ | (apply b8.go; exact rfl; exact rfl; intro E; (refine AOps.a rfl rfl ?_); exact AOps.nil ⟨rfl, rfl⟩)
   first | refine b8.skip rfl ?_ | (apply b8.go; exact rfl; exact rfl; intro E; (refine AOps.a rfl rfl ?_); exact AOps.nil ⟨rfl, rfl⟩)
   exact b8.nil
   apply e8.cons; exact rfl; exact rfl
   first | refine b8.skip rfl ?_ | (apply b8.go; exact rfl; exact rfl; intro E; (first | refine AOps.sliceArrI rfl (Nat.le_of_ble_eq_true rfl) rfl rfl ?_ | refine AOps.sliceOwnTo rfl rfl rfl (by omega) rfl ?_ | refine AOps.sliceOwnFrom rfl rfl rfl (by omega) rfl ?_); exact AOps.nil ⟨rfl, rfl⟩)
   first | refine b8.skip rfl ?_ | (apply b8.go; exact rfl; exact rfl; intro E; (first | refine AOps.sliceArrI rfl (Nat.le_of_ble_eq_true rfl) rfl rfl ?_ | refine AOps.sliceOwnTo rfl rfl rfl (by omega) rfl ?_ | refine AOps.sliceOwnFrom rfl rfl rfl (by omega) rfl ?_); exact AOps.nil ⟨rfl, rfl⟩)
   exact b8.nil
   refine e8.skip rfl ?_
   apply e8.cons; exact rfl; exact rfl
   first | refine b8.skip rfl ?_ | (apply b8.go; exact rfl; exact rfl; intro E; (refine AOps.add rfl rfl rfl (by omega) ?_); exact AOps.nil ⟨rfl, rfl⟩)
   first | refine b8.skip rfl ?_ | (apply b8.go; exact rfl; exact rfl; intro E; (refine AOps.add rfl rfl rfl (by omega) ?_); exact AOps.nil ⟨rfl, rfl⟩)
   exact b8.nil
   apply e8.cons; exact rfl; exact rfl
   first | refine b8.skip rfl ?_ | (apply b8.go; exact rfl; exact rfl; intro E; (refine AOps.e rfl rfl ?_); exact AOps.nil ⟨rfl, rfl⟩)
   first | refine b8.skip rfl ?_ | (apply b8.go; exact rfl; exact rfl; intro E; (refine AOps.e rfl rfl ?_); exact AOps.nil ⟨rfl, rfl⟩)
   exact b8.nil
   exact e8.nil
  dsimp only [i9]
  repeat (first | refine b5 ?_ | refine d5 ?_)
  exact ⟨i + m, Sub.env ⟨rfl, rfl, trivial⟩, ⟨by omega, by omega⟩, by omega⟩
 repeat (first | refine AWP.d ?_ | refine AWP.ret ?_ | refine d8 ?_ | refine g7 ?_ | refine AWP.skip ?_ | refine b5 ?_ | refine d5 ?_ | refine AWP.exit ?_ | refine d6 ?_ | refine f9 ?_ | refine Y6 rfl ?_)
 repeat (first | refine AWP.d ?_ | refine AWP.l ?_ | refine AWP.skip ?_ | refine b5 ?_ | refine d5 ?_ | refine AWP.condT rfl ?_ | refine AWP.condF rfl ?_)
 refine AWP.f ?_
 refine AOps.a rfl rfl ?_
 refine AOps.e rfl rfl ?_
 refine AOps.nil ?_
 repeat (first | refine b5 ?_ | refine d5 ?_)
 repeat (first | refine AWP.d ?_ | refine AWP.ret ?_ | refine d8 ?_ | refine g7 ?_ | refine AWP.skip ?_ | refine b5 ?_ | refine d5 ?_ | refine AWP.exit ?_ | refine d6 ?_ | refine f9 ?_ | refine Y6 rfl ?_)
 have hin : i = n := by omega
 subst hin
 refine Done.ret rfl ⟨0, by simp, ?_⟩
 show some (some (Blk.cells 1 (repC c i i))) = _
 rw [rep_full]
def w9 (x : List Int) (n : Int) : Option (List Int) := match x with
 | [c] => if 1 ≤ n ∧ n ≤ 4294967295 then some (List.replicate n.toNat c) else none
 | _ => none
theorem ac0 {x : List Int} {n : Int} {r : List Int} (h : w9 x n = some r) : m5 Tryz.prog 70 [.c (row 1 intI x), .c (int n)] 1 (List.map intI r) := by
 unfold w9 at h
 split at h
 ·rename_i c
  split at h
  ·rename_i hn
   cases h
   have := repeat_ok c n.toNat (by omega) (by omega)
   rw [Int.toNat_of_nonneg (by omega)] at this
   rwa [List.map_replicate]
  ·cases h
 ·cases h
end Ab
end
section
set_option linter.all false
namespace Ab
open Go Go.Proofs Go.RowKit Go.Lib
def spl (arr : Array Value) (o : Nat) (cs : List Value) : Array Value := (arr.toList.take o ++ cs ++ arr.toList.drop (o + cs.length)).toArray
theorem X9 {arr : Array Value} {o : Nat} {cs : List Value} (h : o + cs.length ≤ arr.size) : (spl arr o cs).size = arr.size := by simp [spl]; omega
theorem spl_get {arr : Array Value} {o : Nat} {cs : List Value} (h : o + cs.length ≤ arr.size) (i : Nat) : (spl arr o cs)[i]? = if o ≤ i ∧ i < o + cs.length then cs[i - o]? else arr[i]? := by
 have := r8 arr.toList cs o i (by simpa using h)
 simpa [spl] using this
theorem ae4 {P : Program} {dT sT ty e : TypeId} {k bytes : Nat} {z : Value} [ht : TyD P dT (.slice e)] [hs : TyS P e k bytes z] (w : World) (g o dLen dCap : Nat) (a : Addr) (sLen sCap m : Nat) (cur : Array Value) (t : TypeId) (cs : List Value)
  (hm : Nat.min sLen dLen = m) (hg : w.heap[g]? = some (.cells cur t (0, 0))) (hn : cs.length = m * k) (hsrc : ∀ j v, cs[j]? = some v → w.cell? (a.add j) = some v) (hfit : o + cs.length ≤ cur.size) (h1 : ∀ v ∈ cs, v.oneCell' = true) :
  (Builtin.copy_ #[dT, sT] ty #[.slice (some ⟨g, o, none⟩) dLen dCap, .slice (some a) sLen sCap]).run P w = .ok (goInt m) (w.setRow g (spl cur o cs)) := by
 have hf : (Builtin.firstCells k m (.slice (some a) sLen sCap)).run P w = .ok cs.toArray w := run_firstCells_some w k m a sLen sCap cs hn hsrc
 have hst := run_storeCells_at P g o t cs 0 cur w hg (by simpa using hfit) h1
 have hz := k8 (P := P) (t := e) w
 simp [Builtin.copy_, run_underlying ht.h, hz, Builtin.lenOf, hm, hf, hst, spl]
theorem setRow_alloc (w : World) (r r' : Array Value) (e : TypeId) : (w.alloc (.cells r e)).setRow w.heap.size r' = w.alloc (.cells r' e) := by
 unfold World.setRow World.alloc
 congr 1
 apply Array.ext_getElem?
 intro i
 simp only [Array.getElem?_modify, Array.getElem?_push]
 by_cases h : w.heap.size = i
 ·subst h; simp
 ·rw [if_neg h, if_neg (fun e => h e.symm), if_neg (fun e => h e.symm)]
section
variable {P : Program}
theorem wpL_copy (w : World) {ops : Array Oper} {rest : List Oper} {o : Oper} {a : Act} {Q : Exit → Act → World → Prop} (hgd : o.guard = none) (d s : Operand) (t t' : TypeId)
  (ho : o.op = .call { callee := .builtin .copy, args := #[d, s], argTypes := #[t, t'] }) {v u v' : Value} {w' : World} (hd : a.eval d = v) (hs : a.eval s = u) (hr : (Builtin.copy_ #[t, t'] o.type #[v, u]).run P w = .ok v' w')
  (h : wpList P ops Q rest (a.put o.dst v') w') : wpList P ops Q (o :: rest) a w :=
 wpList_plain hgd fun K hK => by
  have : (execOp a.eval o).run P w = .ok (.value v') w' := by
   simp [execOp, ho, resolve, invoke, builtin, hd, hs, hr, Result.andThen]
  unfold Oper.wp
  rw [this]
  exact hK _ _ h
theorem wpS_copy {ops : Array Oper} {o : Oper} {a : Act} {w : World} {K : Act → World → Prop} {Q : Exit → Act → World → Prop} {E : Prop} (hgd : o.guard = none) (d s : Operand) (t t' : TypeId)
  (ho : o.op = .call { callee := .builtin .copy, args := #[d, s], argTypes := #[t, t'] }) {v u v' : Value} {w' : World} (hd : a.eval d = v) (hs : a.eval s = u) (hr : (Builtin.copy_ #[t, t'] o.type #[v, u]).run P w = .ok v' w')
  (hK : K (a.put o.dst v') w') : if Region.wanted o (yielded ops a.tmps) = true then Oper.wp P o a w K Q else E := by
 have hw : Region.wanted o (yielded ops a.tmps) = true := by simp [Region.wanted, hgd]
 have : (execOp a.eval o).run P w = .ok (.value v') w' := by
  simp [execOp, ho, resolve, invoke, builtin, hd, hs, hr, Result.andThen]
 rw [if_pos hw]
 unfold Oper.wp
 rw [this]
 exact hK
end
section
set_option maxHeartbeats 4000000
set_option maxRecDepth 100000
abbrev insF : Nat := 75
abbrev choT : Nat := 66
abbrev B7 : Nat := 26
theorem ins_shift (b off n c i vb voff vc : Nat) (arr varr : Array Value) (ety vety : TypeId) (cs vs : List Value) (w : World) (hi : i < n) (hroom : n + 1 ≤ c) (hc63 : c ≤ 9223372036854775807) (hvb : vb ≠ b)
  (hb : w.heap[b]? = some (.cells arr ety (0, 0))) (hv : w.heap[vb]? = some (.cells varr vety (0, 0))) (hfit : off + (n + 1) * 2 ≤ arr.size)
  (hcl : cs.length = (n - i) * 2) (hvl : vs.length = 1 * 2) (hcs : ∀ j v, cs[j]? = some v → w.cell? (⟨b, off + i * 2 + j, none⟩) = some v) (hvs : ∀ j v, vs[j]? = some v → w.cell? ⟨vb, voff + j, none⟩ = some v) (h1c : ∀ v ∈ cs, v.oneCell' = true) (h1v : ∀ v ∈ vs, v.oneCell' = true) :
  Calls Tryz.prog insF #[.slice (some ⟨b, off, none⟩) n c, .int .i64 i, .slice (some ⟨vb, voff, none⟩) 1 vc] w fun e w' =>
   e = .returned (.slice (some ⟨b, off, none⟩) (n + 1) c) ∧ w' = w.drew.setRow b (spl (spl arr (off + (i + 1) * 2) cs) (off + i * 2) vs) := by
 have hz2 : ¬ ((i : Int) = (n : Int)) := by omega
 have hov : ∀ lb cb, (callFunc 96 #[.slice (some ⟨vb, voff, none⟩) 1 vc, .slice (some ⟨b, off + (i + 1) * 2, none⟩) lb cb]).run Tryz.prog w = .ok (.value (.bool false)) w := fun lb cb => by
  rw [run_callFunc_extern Tryz.func96 (by kernel_rfl) (by kernel_rfl) (by kernel_rfl) (e := Extern.SlicesOverlaps.overlaps #[B7, B7] #[4]) (by kernel_rfl),
   Lib.run_overlaps_apart w B7 4 choT Tryz.underlying26 2 (fun w => k8 w) ⟨vb, voff, none⟩ ⟨b, off + (i + 1) * 2, none⟩ 1 vc lb cb hvb vety ety varr.size arr.size (by simp [World.shape?, hv]) (by simp [World.shape?, hb]) (by omega) (by simp [World.frozen?, hv]) (by simp [World.frozen?, hv])]
  rfl
 have mixed : Tryz.prog.follows .mixedOrders = true := by kernel_rfl
 have u26 := run_underlying Tryz.underlying26
 have hw1 : IntKind.i64.wrap ((i : Int) + (1 : Int)) = (i : Int) + (1 : Int) := by rw [IntKind.wrap_i64]; omega
 have hb1 : (0 : Int) ≤ (i : Int) + (1 : Int) := by omega
 have hin : i ≤ n := by omega
 have htn : ((i : Int) + (1 : Int)).toNat = i + 1 := by omega
 have hb2 : ¬ (c = i + 1) := by omega
 have hb3 : (i : Int) ≤ (n : Int) + (1 : Int) := by omega
 have hb4 : ¬ (c = i) := by omega
 have hcp1 : ∀ ty dc sc, (Builtin.copy_ #[B7, B7] ty #[.slice (some ⟨b, off + (i + 1) * 2, none⟩) (n - i) dc, .slice (some ⟨b, off + i * 2, none⟩) (n + 1 - i) sc]).run Tryz.prog w.drew = .ok (goInt (n - i : Nat)) (w.drew.setRow b (spl arr (off + (i + 1) * 2) cs)) := fun ty dc sc =>
  ae4 (e := choT) w.drew _ _ _ _ _ _ _ _ arr ety cs (by simp only [Nat.min_def]; split <;> omega) hb hcl (fun j v hj => by rw [Addr.add_lit]; exact hcs j v hj) (by omega) h1c
 have hcp2 : ∀ ty dc, (Builtin.copy_ #[B7, B7] ty #[.slice (some ⟨b, off + i * 2, none⟩) (n + 1 - i) dc, .slice (some ⟨vb, voff, none⟩) 1 vc]).run Tryz.prog (w.drew.setRow b (spl arr (off + (i + 1) * 2) cs)) = .ok (goInt 1) ((w.drew.setRow b (spl arr (off + (i + 1) * 2) cs)).setRow b (spl (spl arr (off + (i + 1) * 2) cs) (off + i * 2) vs)) := fun ty dc =>
  ae4 (e := choT) _ _ _ _ _ _ _ _ _ _ ety vs (by simp only [Nat.min_def]; split <;> omega) (setRow_heap w.drew b arr _ ety (0, 0) hb) hvl (fun j v hj => by
   rw [Addr.add_lit, World.cell?_of_block (setRow_other w.drew b vb _ hvb)]; exact hvs j v hj) (by rw [X9 (by omega)]; omega) h1v
 go_enter Tryz.func75, Tryz.ntmps75
 go_wp2_with (simp only [hov])
 go_region_law_o (refine wpS_copy rfl _ _ B7 B7 rfl (by simp [Act.eval, Act.put]) (by simp [Act.eval, Act.put]) (hcp1 _ _ _) ?_)
 go_wp2_with (at_builtin; refine wpL_copy _ rfl _ _ B7 B7 rfl rfl rfl (hcp2 _ _) ?_)
 go_ret
 exact ⟨rfl, by rw [setRow_setRow]⟩
theorem ins_grow (b off n c i vb voff vc : Nat) (os cs vs : List Value) (w : World) (hi : i < n) (hnc : n ≤ c) (hroom : c < n + 1) (hbig : (n + 1) * 32 ≤ 140737488355328) (hbw : b < w.heap.size) (hvw : vb < w.heap.size)
  (hol : os.length = i * 2) (hcl : cs.length = (n - i) * 2) (hvl : vs.length = 1 * 2)
  (hos : ∀ j v, os[j]? = some v → w.cell? (⟨b, off + j, none⟩) = some v) (hcs : ∀ j v, cs[j]? = some v → w.cell? (⟨b, off + i * 2 + j, none⟩) = some v) (hvs : ∀ j v, vs[j]? = some v → w.cell? ⟨vb, voff + j, none⟩ = some v)
  (h1c : ∀ v ∈ cs, v.oneCell' = true) (h1v : ∀ v ∈ vs, v.oneCell' = true) :
  Calls Tryz.prog insF #[.slice (some ⟨b, off, none⟩) n c, .int .i64 i, .slice (some ⟨vb, voff, none⟩) 1 vc] w fun e w' =>
   ∃ (G : Nat) (ROW : Array Value), n + 1 ≤ G ∧ G ≤ maxLen ∧ ROW.size = G * 2 ∧ (∀ (j : Nat) v, os[j]? = some v → ROW[j]? = some v) ∧
   e = .returned (.slice (some ⟨w.heap.size, 0, none⟩) (n + 1) G) ∧ w' = w.drew.drew.alloc (.cells (spl (spl ROW (i * 2) vs) ((i + 1) * 2) cs) choT) := by
 have hz2 : ¬ ((i : Int) = (n : Int)) := by omega
 have hz3 : (c : Int) < (n : Int) + (1 : Int) := by omega
 have mixed : Tryz.prog.follows .mixedOrders = true := by kernel_rfl
 have u26 := run_underlying Tryz.underlying26
 obtain ⟨inf, hi1, hi2, hi3, hi4⟩ := (inferInstance : TyS Tryz.prog choT 2 32 _).h
 have hkk : (n : Int) + (1 : Int) - (i : Int) = ((n + 1 - i : Nat) : Int) := by omega
 have hik : i + (n + 1 - i) = n + 1 := by omega
 have hold : (Builtin.firstCells inf.size i (.slice (some ⟨b, off, none⟩) i c)).run Tryz.prog w.drew = .ok os.toArray w.drew := by
  rw [hi2]
  exact run_firstCells_some w.drew 2 i ⟨b, off, none⟩ i c os hol (fun j v hj => by
   rw [Addr.add_lit]
   exact hos j v hj)
 obtain ⟨G, hG⟩ : ∃ G, G = grownCap w (n + 1) c choT := ⟨_, rfl⟩
 obtain ⟨ROW, hROW⟩ : ∃ ROW : Array Value, ROW = os.toArray ++ Builtin.zeroCells (Value.agg #[.slice none 0 0, .int .i64 0]).cells (n + 1 - i) ++ Builtin.zeroCells (Value.agg #[.slice none 0 0, .int .i64 0]).cells (G - (n + 1)) := ⟨_, rfl⟩
 have hGn : n + 1 ≤ G := by rw [hG]; exact grownCap_ge w _ _ _
 have hGm : G ≤ maxLen := by
  rw [hG]
  exact grownCap_le_maxLen w (n + 1) c choT (by unfold maxLen; omega)
 have hG63 : G ≤ 9223372036854775807 := hGm
 have hRl : ROW.size = G * 2 := by
  rw [hROW]
  simp [Builtin.zeroCells, Value.cells, hol]
  omega
 have hRo : ∀ (j : Nat) v, os[j]? = some v → ROW[j]? = some v := fun j v hj => by
  rw [hROW, Array.append_assoc, Array.getElem?_append_left (by simpa using (List.getElem?_eq_some_iff.1 hj).1)]
  simpa using hj
 have hrz : ∀ ty, (Builtin.append_ #[B7, 3] ty #[.slice (some ⟨b, off, none⟩) i c, .int .i64 ((n : Int) + (1 : Int) - (i : Int))]).run Tryz.prog w =
   .ok (.slice (some ⟨w.heap.size, 0, none⟩) (n + 1) G) (w.drew.alloc (.cells ROW choT)) := fun ty => by
  have h := Lib.run_append_grow_zeros w B7 3 ty choT inf _ .i64 .i64 Tryz.underlying26 Tryz.underlying3 hi1 hi4 (some ⟨b, off, none⟩) i c os hold (n + 1 - i) (by omega) (by omega) (by omega) (by omega) (by rw [hi3]; omega) (by rw [hi3, hik]; exact growslice_fits hroom hbig)
  rw [hik, ← hG] at h
  rw [hkk, hROW]
  exact h
 have hci : ¬ (c = i) := by omega
 have hGi : ¬ (G = i) := by omega
 have hGim : ¬ (G = i + 1) := by omega
 have hw1 : IntKind.i64.wrap ((i : Int) + (1 : Int)) = (i : Int) + (1 : Int) := by rw [IntKind.wrap_i64]; omega
 have hb1 : (0 : Int) ≤ (i : Int) + (1 : Int) := by omega
 have hin : i ≤ n := by omega
 have htn : ((i : Int) + (1 : Int)).toNat = i + 1 := by omega
 have hb3 : (i : Int) ≤ (n : Int) := by omega
 have hcpA : ∀ ty dc, (Builtin.copy_ #[B7, B7] ty #[.slice (some ⟨w.heap.size, i * 2, none⟩) (n + 1 - i) dc, .slice (some ⟨vb, voff, none⟩) 1 vc]).run Tryz.prog (w.alloc (.cells ROW choT)).drew = .ok (goInt 1) ((w.alloc (.cells ROW choT)).drew.setRow w.heap.size (spl ROW (i * 2) vs)) := fun ty dc =>
  ae4 (e := choT) _ _ _ _ _ _ _ _ _ ROW choT vs (by simp only [Nat.min_def]; split <;> omega) (heap_alloc_new w.drew _) hvl (fun j v hj => by
   rw [Addr.add_lit, World.cell?_of_block (show (w.alloc (.cells ROW choT)).drew.heap[vb]? = w.heap[vb]? from heap_alloc_old w.drew _ hvw)]; exact hvs j v hj) (by omega) h1v
 have hcpB : ∀ ty dc sc, (Builtin.copy_ #[B7, B7] ty #[.slice (some ⟨w.heap.size, (i + 1) * 2, none⟩) (n - i) dc, .slice (some ⟨b, off + i * 2, none⟩) (n - i) sc]).run Tryz.prog ((w.alloc (.cells ROW choT)).drew.setRow w.heap.size (spl ROW (i * 2) vs)).drew = .ok (goInt (n - i : Nat)) (((w.alloc (.cells ROW choT)).drew.setRow w.heap.size (spl ROW (i * 2) vs)).drew.setRow w.heap.size (spl (spl ROW (i * 2) vs) ((i + 1) * 2) cs)) := fun ty dc sc =>
  ae4 (e := choT) _ _ _ _ _ _ _ _ _ (spl ROW (i * 2) vs) choT cs (by simp only [Nat.min_def]; split <;> omega) (setRow_heap _ _ ROW _ choT (0, 0) (heap_alloc_new w.drew _)) hcl (fun j v hj => by
   rw [Addr.add_lit, World.cell?_of_block (show ((w.drew.alloc (.cells ROW choT)).setRow w.heap.size (spl ROW (i * 2) vs)).drew.heap[b]? = w.heap[b]? from (setRow_other _ w.heap.size b _ (by omega)).trans (heap_alloc_old w.drew _ hbw))]; exact hcs j v hj) (by rw [X9 (by omega)]; omega) h1c
 clear hkk hik hold hG hROW
 go_enter Tryz.func75, Tryz.ntmps75
 go_wp2_with (first
  | (at_builtin; refine Lib.wpList_append_run _ rfl _ _ _ _ rfl _ _ rfl rfl _ _ (hrz _) ?_)
  | (at_builtin; refine wpL_copy _ rfl _ _ B7 B7 rfl rfl rfl (hcpA _ _) ?_))
 go_region_law_o (refine wpS_copy rfl _ _ B7 B7 rfl (by simp [Act.eval, Act.put]) (by simp [Act.eval, Act.put]) (hcpB _ _ _) ?_)
 go_wp2
 go_ret
 refine ⟨G, ROW, hGn, hGm, hRl, hRo, rfl, ?_⟩
 exact (setRow_setRow (w.alloc (.cells ROW choT)).drew.drew w.heap.size (spl ROW (i * 2) vs) (spl (spl ROW (i * 2) vs) ((i + 1) * 2) cs)).trans (setRow_alloc w.drew.drew ROW (spl (spl ROW (i * 2) vs) ((i + 1) * 2) cs) choT)
theorem ins_end (base : Option Addr) (n c : Nat) (vv r : Value) (w w' : World) (hvv : ∃ b cv, vv = .slice b 1 cv) (hrun : ∀ ty, (Builtin.append_ #[B7, B7] ty #[.slice base n c, vv]).run Tryz.prog w = .ok r w') (hnc : n ≤ c) :
  Calls Tryz.prog insF #[.slice base n c, .int .i64 n, vv] w fun e w2 => e = .returned r ∧ w2 = w' := by
 obtain ⟨vb, vc, rfl⟩ := hvv
 have mixed : Tryz.prog.follows .mixedOrders = true := by kernel_rfl
 have u26 := run_underlying Tryz.underlying26
 go_enter Tryz.func75, Tryz.ntmps75
 cases base with
 | none =>
  go_wp2_with (at_builtin; refine Lib.wpList_append_run _ rfl _ _ _ _ rfl _ _ rfl rfl _ _ (hrun _) ?_)
  all_goals (go_ret; exact ⟨rfl, rfl⟩)
 | some a =>
  obtain ⟨ab, ao, asp⟩ := a
  go_wp2_with (at_builtin; refine Lib.wpList_append_run _ rfl _ _ _ _ rfl _ _ rfl rfl _ _ (hrun _) ?_)
  all_goals (go_ret; exact ⟨rfl, rfl⟩)
end
structure Rw (w : World) (φ : Phi) (σ : b6) (A : Nat → Prop) (k : Nat) (es : List (List C)) (us : List Value) : Prop where
 len : us.length = es.length * k
 hk : ∀ (j : Nat) (e : List C), es[j]? = some e → e.length = k
 rel : ∀ (j : Nat) (e : List C) (o : Nat) (x : C), es[j]? = some e → e[o]? = some x → ∃ u, us[j * k + o]? = some u ∧ RelC w φ σ A x u
theorem T8.rw {w : World} {φ : Phi} {σ : b6} {A : Nat → Prop} {k : Nat} {es : List (List C)} {b : Option Addr} {us : List Value} (h : T8 w φ σ A k es b us) : Rw w φ σ A k es us := ⟨h.len, h.hk, h.rel⟩
section
variable {w : World} {φ : Phi} {σ : b6} {A : Nat → Prop} {k : Nat} {es es2 : List (List C)} {us us2 : List Value}
theorem Rw.append (h : Rw w φ σ A k es us) (g : Rw w φ σ A k es2 us2) : Rw w φ σ A k (es ++ es2) (us ++ us2) := by
 refine ⟨by rw [List.length_append, List.length_append, h.len, g.len, Nat.add_mul], fun j e he => ?_, fun j e o x he hx => ?_⟩
 ·rw [List.getElem?_append] at he
  split at he
  ·exact h.hk j e he
  ·exact g.hk _ e he
 ·rw [List.getElem?_append] at he
  split at he
  ·obtain ⟨u, hu, hr⟩ := h.rel j e o x he hx
   exact ⟨u, by rw [List.getElem?_append_left (List.getElem?_eq_some_iff.1 hu).1]; exact hu, hr⟩
  ·rename_i hj
   obtain ⟨u, hu, hr⟩ := g.rel _ e o x he hx
   have hl := h.len
   have hm : es.length * k ≤ j * k := Nat.mul_le_mul_right k (by omega)
   refine ⟨u, ?_, hr⟩
   rw [List.getElem?_append_right (by omega), hl]
   rw [Nat.sub_mul] at hu
   rw [← hu]; congr 1; omega
theorem Rw.take (h : Rw w φ σ A k es us) (i : Nat) (hi : i ≤ es.length) : Rw w φ σ A k (es.take i) (us.take (i * k)) := by
 have hl := h.len
 have hm : i * k ≤ es.length * k := Nat.mul_le_mul_right k hi
 refine ⟨by rw [List.length_take, List.length_take, Nat.min_eq_left hi, Nat.min_eq_left (by omega)], fun j e he => ?_, fun j e o x he hx => ?_⟩
 ·rw [List.getElem?_take] at he
  split at he
  ·exact h.hk j e he
  ·cases he
 ·rw [List.getElem?_take] at he
  split at he
  ·rename_i hj
   obtain ⟨u, hu, hr⟩ := h.rel j e o x he hx
   have := h.hk j e he
   have := (List.getElem?_eq_some_iff.1 hx).1
   have hm2 : (j + 1) * k ≤ i * k := Nat.mul_le_mul_right k hj
   rw [Nat.add_mul] at hm2
   exact ⟨u, by rw [List.getElem?_take, if_pos (by omega)]; exact hu, hr⟩
  ·cases he
theorem Rw.drop (h : Rw w φ σ A k es us) (i : Nat) (hi : i ≤ es.length) : Rw w φ σ A k (es.drop i) (us.drop (i * k)) := by
 have hl := h.len
 refine ⟨by rw [List.length_drop, List.length_drop, hl, Nat.sub_mul], fun j e he => ?_, fun j e o x he hx => ?_⟩
 ·rw [List.getElem?_drop] at he
  exact h.hk _ e he
 ·rw [List.getElem?_drop] at he
  obtain ⟨u, hu, hr⟩ := h.rel _ e o x he hx
  refine ⟨u, ?_, hr⟩
  rw [List.getElem?_drop, ← hu, Nat.add_mul, Nat.add_assoc]
theorem Rw.mono {w' : World} {φ' : Phi} {σ' : b6} {A' : Nat → Prop} (H : Kept w w' φ φ' σ σ' A A') (h : Rw w φ σ A k es us) : Rw w' φ' σ' A' k es us :=
 ⟨h.len, h.hk, fun j e o x he hx => let ⟨u, hu, hr⟩ := h.rel j e o x he hx; ⟨u, hu, hr.mono H⟩⟩
end
theorem ins_lists {α : Type} {f : α → List I} {l : List α} {x : α} {i : Nat} : (((l.map f).map (·.map C.imm)).take i ++ (([x].map f).map (·.map C.imm)) ++ ((l.map f).map (·.map C.imm)).drop i) = ((l.take i ++ x :: l.drop i).map f).map (·.map C.imm) := by
 simp [List.map_take, List.map_drop]
set_option maxRecDepth 100000 in
theorem ins_fn {α : Type} {f : α → List I} {σ : b6} {id id2 : Id} {l : List α} {x : α} {i : Int} (hσ : σ[id]? = some (some (vec 2 f l))) (hσ2 : σ[id2]? = some (some (vec 2 f [x]))) (hne : id2 ≠ id) (hb : (l.length + 1) * 32 ≤ 140737488355328) (h0 : 0 ≤ i) (h1 : i ≤ l.length) :
  FnOk Tryz.prog insF [.c (.own id 0 l.length), .c (int i), .c (.own id2 0 1)] σ fun r σ' => r = .c (.own (σ.length, []) 0 (l.take i.toNat ++ x :: l.drop i.toNat).length) ∧ σ' = σ.put id none ++ [.one (vec 2 f (l.take i.toNat ++ x :: l.drop i.toNat))] := by
 refine ⟨⟨_, Tryz.func75, rfl, rfl⟩, fun Γ vs hΓ hG hlen hrel => ?_⟩
 subst hΓ
 match vs, hlen with
 | [u, iv, v], _ =>
 have hu := z6 (hrel 0 _ u rfl rfl) hσ
 have hv := z6 (hrel 2 _ v rfl rfl) hσ2
 have hiv : iv = .int .i64 i := by
  have h := hrel 1 _ iv rfl rfl
  cases h with | c h => cases h with | imm h => cases h with | val => rfl
 subst hiv
 obtain ⟨ni, rfl⟩ : ∃ ni : Nat, i = ni := ⟨i.toNat, by omega⟩
 have hR : R Γ 3 ⟨[(0, .c (.own id 0 l.length)), (1, .c (int ni)), (2, .c (.own id2 0 1))], Γ.σ0⟩ Γ.φ0 ⟨#[u, .int .i64 ni, v], []⟩ Γ.w0 :=
  {toRs := Rs.refl hG, defers := rfl, asize := rfl, env := fun t x hx => by
    simp only [lookup] at hx
    split at hx
    ·rename_i e; cases hx
     have := Nat.eq_of_beq_eq_true e; subst this
     exact ⟨u, rfl, hrel 0 _ u rfl rfl⟩
    ·split at hx
     ·rename_i e; cases hx
      have := Nat.eq_of_beq_eq_true e; subst this
      exact ⟨_, rfl, hrel 1 _ _ rfl rfl⟩
     ·split at hx
      ·rename_i e; cases hx
       have := Nat.eq_of_beq_eq_true e; subst this
       exact ⟨v, rfl, hrel 2 _ v rfl rfl⟩
      ·cases hx }
 have vlen : ∀ {m : List α}, ((m.map f).map (·.map C.imm)).length = m.length := by simp
 have nlen : (l.take ni ++ x :: l.drop ni).length = l.length + 1 := by simp; omega
 simp only [Int.toNat_natCast] at *
 rw [nlen]
 by_cases hend : ni = l.length
 · -- at the end
  subst hend
  obtain ⟨v', w', φ', g1, g2, g3⟩ := append_R (P := Tryz.prog) (t := B7) (e := choT) (ty := 0) (x := .tmp 0) (y := .tmp 2) (new := ([x].map f).map (·.map C.imm)) rfl rfl rfl hσ rfl (by
   have h := Src.own (j := 0) (n := 1) hσ2
   rwa [List.drop_zero, List.take_of_length_le (by simp)] at h) (by simpa using hb) hR
  obtain ⟨b0, cap0, us0, hx1, _, _⟩ := K3 hR hσ hu
  obtain ⟨b2, cap2, us2, hy1, _, _⟩ := K3 hR hσ2 hv
  have hnc : l.length ≤ cap0 := by
   rcases hu with ⟨_, h2, _, h4⟩ | ⟨_, _, cap, _, _, _, _, h2, _, h3, _⟩
   ·rw [hx1] at h2; injection h2 with q1 q2 q3; omega
   ·rw [hx1] at h2; injection h2 with q1 q2 q3; omega
  have e1 : (⟨#[u, .int .i64 (l.length : Int), v], []⟩ : Act).eval (.tmp 0) = u := rfl
  have e2 : (⟨#[u, .int .i64 (l.length : Int), v], []⟩ : Act).eval (.tmp 2) = v := rfl
  rw [e1, e2, hx1] at g1
  have hc := ins_end b0 l.length cap0 v v' Γ.w0 w' ⟨b2, cap2, hy1⟩ (fun _ => g1) hnc
  rw [hx1]
  refine hc.mono ?_
  rintro e w2 ⟨rfl, rfl⟩
  have e3 := ins_lists (f := f) (l := l) (x := x) (i := l.length)
  have e4 : ((((l.map f).map (·.map C.imm)).drop 0).take l.length ++ ([x].map f).map (·.map C.imm)) = ((l.take l.length ++ x :: l.drop l.length).map f).map (·.map C.imm) := by
   rw [← e3, List.drop_zero, List.drop_of_length_le (by simp), List.append_nil]
  have e5 : l.length + (([x].map f).map (·.map C.imm)).length = l.length + 1 := by simp
  rw [e4] at g2 g3
  rw [e5] at g2
  exact ⟨v', .c (.own (Γ.σ0.length, []) 0 (l.length + 1)), _, φ', rfl, ⟨rfl, rfl⟩, g2, g3.toRs⟩
 ·have hi : ni < l.length := by omega
  obtain ⟨b0, cap0, us0, hx1, hx2, hx3⟩ := K3 hR hσ hu
  obtain ⟨b2, cap2, us2, hy1, hy2, hy3⟩ := K3 hR hσ2 hv
  rcases hu with ⟨_, _, _, h4⟩ | ⟨b, base, cap, arr, ety, ad, hp, hvv, had, hcap, hmax, hjn, hbk, hsz⟩
  ·omega
  rcases hv with ⟨_, _, _, h4⟩ | ⟨c2, base2, cap2', arr2, ety2, ad2, hp2, hvv2, had2, hcap2, hmax2, hjn2, hbk2, hsz2⟩
  ·omega
  rw [hx1] at hvv; cases hvv
  rw [hy1] at hvv2; cases hvv2
  have := had (by omega); subst this
  have := had2 (by omega); subst this
  simp only [Nat.zero_mul, Nat.add_zero, Nat.zero_add, vlen, List.drop_zero] at *
  have hvb : c2 ≠ b := fun e => hne (hR.st.inj id2 id _ _ _ _ hσ2 hσ hp2 hp (by simpa using e))
  have r1 : Rw Γ.w0 Γ.φ0 Γ.σ0 (Al Γ.N Γ.φ0 Γ.σ0) 2 ((l.map f).map (·.map C.imm)) us0 := by
   have := hx3.rw
   rwa [List.take_of_length_le (by simp)] at this
  have r2 : Rw Γ.w0 Γ.φ0 Γ.σ0 (Al Γ.N Γ.φ0 Γ.σ0) 2 (([x].map f).map (·.map C.imm)) us2 := by
   have := hy3.rw
   rwa [List.take_of_length_le (by simp)] at this
  have r3 := ((r1.take ni (by simp; omega)).append r2).append (r1.drop ni (by simp; omega))
  rw [ins_lists] at r3
  have u0l : us0.length = l.length * 2 := by rw [r1.len]; simp
  have u2l : us2.length = 1 * 2 := by rw [r2.len]; simp
  have cellA : ∀ j v, us0[j]? = some v → Γ.w0.cell? ⟨b, base + j, none⟩ = some v := fun j v hj => by
   have := hx3.cell _ rfl j v hj
   rwa [Addr.add_lit] at this
  have cellB : ∀ j v, us2[j]? = some v → Γ.w0.cell? ⟨c2, base2 + j, none⟩ = some v := fun j v hj => by
   have := hy3.cell _ rfl j v hj
   rwa [Addr.add_lit] at this
  have one1 : ∀ v ∈ us0, v.oneCell' = true := hx3.one
  have one2 : ∀ v ∈ us2, v.oneCell' = true := hy3.one
  have hdl : (us0.drop (ni * 2)).length = (l.length - ni) * 2 := by rw [List.length_drop, u0l, Nat.sub_mul]
  have htl : (us0.take (ni * 2)).length = ni * 2 := by rw [List.length_take]; omega
  have cellD : ∀ j v, (us0.drop (ni * 2))[j]? = some v → Γ.w0.cell? ⟨b, base + ni * 2 + j, none⟩ = some v := fun j v hj => by
   rw [List.getElem?_drop] at hj
   rw [Nat.add_assoc]; exact cellA _ v hj
  have hids : id.1 < Γ.σ0.length := b6.lt_of hσ
  rw [hx1, hy1]
  by_cases hroom : l.length + 1 ≤ cap0
  · -- room
   have hc := ins_shift b base l.length cap0 ni c2 base2 cap2 arr arr2 ety ety2 (us0.drop (ni * 2)) us2 Γ.w0 hi hroom (by unfold maxLen at hmax; omega) hvb hbk hbk2 (by omega) hdl u2l cellD cellB (fun v hv => one1 v (List.mem_of_mem_drop hv)) one2
   refine hc.mono ?_
   rintro e w2 ⟨rfl, rfl⟩
   have hK0 := Kept.drew Γ.w0 Γ.φ0 Γ.σ0 (Al Γ.N Γ.φ0 Γ.σ0)
   have s1 : (spl arr (base + (ni + 1) * 2) (us0.drop (ni * 2))).size = arr.size := X9 (by omega)
   have s2 : (spl (spl arr (base + (ni + 1) * 2) (us0.drop (ni * 2))) (base + ni * 2) us2).size = arr.size := by rw [X9 (by omega), s1]
   have hO := Rs.reown (k := 2) (base' := base) (es' := ((l.take ni ++ x :: l.drop ni).map f).map (·.map C.imm)) (arr' := spl (spl arr (base + (ni + 1) * 2) (us0.drop (ni * 2))) (base + ni * 2) us2) hR.toRs.drew hσ hp hbk (r3.hk) (by rw [s2]; simp only [List.length_map, nlen]; omega) (fun j e o y he hy => by
    obtain ⟨uu, hu, hr⟩ := r3.rel j e o y he hy
    refine ⟨uu, ?_, hr.mono hK0⟩
    have hlt := (List.getElem?_eq_some_iff.1 hu).1
    simp only [List.length_append, htl, hdl, u2l] at hlt
    rw [spl_get (by omega), spl_get (by omega)]
    by_cases c1 : j * 2 + o < ni * 2
    ·rw [if_neg (by omega), if_neg (by omega)]
     rw [List.append_assoc, List.getElem?_append_left (by omega), List.getElem?_take, if_pos c1] at hu
     have := cellA _ _ hu
     rw [L9 hbk] at this
     simpa using this
    ·by_cases c2 : j * 2 + o < ni * 2 + 2
     ·rw [if_pos (by omega)]
      rw [List.append_assoc, List.getElem?_append_right (by omega), List.getElem?_append_left (by omega), htl] at hu
      rw [← hu]; congr 1; omega
     ·rw [if_neg (by omega), if_pos (by omega)]
      rw [List.getElem?_append_right (by simp [htl, u2l]; omega)] at hu
      rw [← hu]
      simp only [List.length_append, htl, u2l]
      congr 1; omega)
   refine ⟨_, _, _, _, rfl, ⟨rfl, rfl⟩, ?_, hO.2⟩
   refine E3 (k := 2) (es := ((l.take ni ++ x :: l.drop ni).map f).map (·.map C.imm)) (by rw [← b6.length_put Γ.σ0 id none]; exact b6.get_last _ _) rfl (.inr ⟨b, base, cap0, _, ety, ⟨b, base, none⟩, by simp, rfl, fun _ => by simp, hroom, hmax, by simp only [List.length_map, nlen]; omega, setRow_heap Γ.w0.drew b arr _ ety (0, 0) hbk, by rw [s2]; omega⟩)
  ·have hc := ins_grow b base l.length cap0 ni c2 base2 cap2 (us0.take (ni * 2)) (us0.drop (ni * 2)) us2 Γ.w0 hi hcap (by omega) hb (hR.toRs.blk_lt hσ hp) (hR.toRs.blk_lt hσ2 hp2) htl hdl u2l (fun j v hj => by
    rw [List.getElem?_take] at hj
    split at hj
    ·exact cellA _ v hj
    ·cases hj) cellD cellB (fun v hv => one1 v (List.mem_of_mem_drop hv)) one2
   refine hc.mono ?_
   rintro e w2 ⟨G, ROW, g1, g2, g3, g4, rfl, rfl⟩
   obtain ⟨hK1, hR1⟩ := hR.toRs.drew.drew.kill id
   have hK0 : Kept Γ.w0 Γ.w0.drew.drew Γ.φ0 Γ.φ0 Γ.σ0 Γ.σ0 (Al Γ.N Γ.φ0 Γ.σ0) (Al Γ.N Γ.φ0 Γ.σ0) := Kept.trans (show Γ.w0.heap.size ≤ Γ.w0.drew.heap.size from Nat.le_refl _) (Kept.drew Γ.w0 Γ.φ0 Γ.σ0 _) (Kept.drew Γ.w0.drew Γ.φ0 Γ.σ0 _)
   have hK01 := Kept.trans (show Γ.w0.heap.size ≤ Γ.w0.drew.drew.heap.size from Nat.le_refl _) hK0 hK1
   have s1 : (spl ROW (ni * 2) us2).size = G * 2 := by rw [X9 (by omega)]; exact g3
   have s2 : (spl (spl ROW (ni * 2) us2) ((ni + 1) * 2) (us0.drop (ni * 2))).size = G * 2 := by rw [X9 (by omega), s1]
   have hA := Rs.alloc (k := 2) (es := ((l.take ni ++ x :: l.drop ni).map f).map (·.map C.imm)) (arr := spl (spl ROW (ni * 2) us2) ((ni + 1) * 2) (us0.drop (ni * 2))) (ety := choT) hR1 r3.hk (by rw [s2]; simp only [List.length_map, nlen]; omega) (fun j e o y he hy => by
    obtain ⟨uu, hu, hr⟩ := r3.rel j e o y he hy
    refine ⟨uu, ?_, hr.mono hK01⟩
    have hlt := (List.getElem?_eq_some_iff.1 hu).1
    simp only [List.length_append, htl, hdl, u2l] at hlt
    rw [spl_get (by omega), spl_get (by omega)]
    by_cases c1 : j * 2 + o < ni * 2
    ·rw [if_neg (by omega), if_neg (by omega)]
     rw [List.append_assoc, List.getElem?_append_left (by omega)] at hu
     exact g4 _ _ hu
    ·by_cases c2 : j * 2 + o < ni * 2 + 2
     ·rw [if_neg (by omega), if_pos (by omega)]
      rw [List.append_assoc, List.getElem?_append_right (by omega), List.getElem?_append_left (by omega), htl] at hu
      exact hu
     ·rw [if_pos (by omega)]
      rw [List.getElem?_append_right (by simp [htl, u2l]; omega)] at hu
      rw [← hu]
      simp only [List.length_append, htl, u2l]
      congr 1; omega)
   rw [b6.length_put] at hA
   refine ⟨_, _, _, _, rfl, ⟨rfl, rfl⟩, ?_, hA.2⟩
   refine E3 (k := 2) (es := ((l.take ni ++ x :: l.drop ni).map f).map (·.map C.imm)) (by rw [← b6.length_put Γ.σ0 id none]; exact b6.get_last _ _) rfl (.inr ⟨Γ.w0.heap.size, 0, G, _, choT, ⟨Γ.w0.heap.size, 0, none⟩, by simp [o7], rfl, fun _ => by simp, g1, g2, by simp only [List.length_map, nlen]; omega, heap_alloc_new Γ.w0.drew.drew _, by rw [s2]; omega⟩)
end Ab
end
section
namespace Ab
open Go Go.Proofs
def insL {α : Type} (l : List α) (i : Int) (x : α) : Option (List α) := if 0 ≤ i ∧ i ≤ l.length ∧ (l.length + 1) * 32 ≤ 140737488355328 then some (l.take i.toNat ++ x :: l.drop i.toNat) else none
section
variable {σ0 : b6} {sz : Nat} {Q : Post} {env : Env} {σv σ' : b6} {ops : Array Oper} {rest : List Oper} {dst : Option Nat} {ty : TypeId} {pos : String} {after : Array Edge}
theorem S.insert {α : Type} {f : α → List I} {x : Operand} {al : List Operand} {ats : Array TypeId} {id id2 n' : Id} {n m : Nat} {i : Int} {l l' : List α} {y : α} {σ1 : b6} (hl : insL l i y = some l') (hx : ev env x = some (.c (.fn insF [])))
  (ha : evs env al = some [.c (.own id 0 n), .c (int i), .c (.own id2 0 m)]) (hn : n = l.length) (hm : m = 1) (hne : (id2.1 == id.1) = false) (hσ : σv[id]? = some (some (vec 2 f l))) (hσ2 : σv[id2]? = some (some (vec 2 f [y])))
  (hd : h9 sz dst = true) (hid : newF σv = some n') (h1 : putF σv id none = some σ1) (hσ' : A6 σ1 (.one (vec 2 f l')) = some σ') (h : AOps Tryz.prog σ0 sz ops Q rest (St.mk (putE env dst (.c (.own n' 0 l'.length))) σ')) :
  AOps Tryz.prog σ0 sz ops Q (⟨dst, .call ⟨.value x, al.toArray, ats⟩, ty, pos, after, none⟩ :: rest) (St.mk env σv) := by
 have h2 := I0 h1
 have h3 := E2 hid; have h4 := q8 hσ'
 subst hn hm h2 h3 h4
 unfold insL at hl
 split at hl
 ·rename_i c
  cases hl
  refine AOps.callS hx ha hd (ins_fn hσ hσ2 (fun e => by rw [e] at hne; simp at hne) c.2.2 c.1 c.2.1) ?_
  rintro r σ2 ⟨rfl, rfl⟩
  cases dst <;> exact h
 ·cases hl
end
end Ab
end
section
namespace Ab
open Go Go.Proofs
set_option linter.all false
abbrev d4 (l : List Int) : List I := [.sl 1 (l.map intI)]
structure l4 where
  add : List Int
  del : List Int
  weight : Int
abbrev n8 (v : l4) : List I := [.sl 1 (List.map intI v.add), .sl 1 (List.map intI v.del), .val (.int .i64 v.weight)]
structure i6 where
  pre : List Int
  outcomes : List l4
  cost : Int
abbrev m9 (v : i6) : List I := [.sl 1 (List.map intI v.pre), .sl 3 (List.map n8 v.outcomes), .val (.int .i64 v.cost)]
structure b9 where
  facts : Int
  init : List Int
  goal : List Int
  operators : List i6
abbrev eTOpenTask (v : b9) : List I := [.val (.int .i64 v.facts), .sl 1 (List.map intI v.init), .sl 1 (List.map intI v.goal), .sl 3 (List.map m9 v.operators)]
structure k6 where
  code : Int
  index : Int
structure aa9 where
  fx : Int
  fy : Int
  signed : Bool
  code : Int
structure Truntime_boundsError where
  fx : Int
  fy : Int
  signed : Bool
  code : Int
structure Tmsg_string_addr_uintptr where
  msg : ByteArray
  addr : Int
structure Truntime_errorAddressString where
  msg : ByteArray
  addr : Int
structure Y5 where
  facts : Int
  init : List Int
  goal : List Int
  operators : List i6
structure d7 where
  state : List Int
  operator : Int
abbrev e9 (v : d7) : List I := [.sl 1 (List.map intI v.state), .val (.int .i64 v.operator)]
structure TCode_int_Index_int where
  code : Int
  index : Int
structure ai6 where
  pre : List Int
  outcomes : List l4
  cost : Int
structure TAdd_int_Del_int_Weight_int where
  add : List Int
  del : List Int
  weight : Int
structure TState_int_Operator_int where
  state : List Int
  operator : Int
def P4 (l : List Int) (nv : Int) : Int → Unit → Option (Unit ⊕ Bool) := fun t3 _ => Option.bind (ix l t3) fun a12 => Option.bind (if a12 < 0 then some true else if nv ≤ a12 then some true else if 0 < t3 then Option.bind (ix l (t3 - 1)) fun a29 => some (decide (a12 ≤ a29)) else some false) fun t4 => if t4 = true then some (.inr false) else some (.inl ())
def A0 (l : List Int) (nv : Int) : Option Bool := (Option.bind (rngX 0 (l.length : Int) (P4 l nv) ()) fun | .inl _ => some true | .inr x => some x)
def D3 (xv : Int) : Option Bool := some (!(decide (xv = xv)))
def P6 (xv : Int) (yv : Int) : Option Bool := Option.bind (Option.bind (D3 xv) fun a6 => if a6 = true then Option.bind (D3 yv) fun a9 => if (!a9) = true then some true else some (decide (xv < yv)) else some (decide (xv < yv))) fun t3 => some t3
def H8 (xv : Int) : Option Bool := some (!(decide (xv = xv)))
def w5 (xv : List Int) (target : Int) : (Int × Int) → Option ((Int × Int) ⊕ Int) := fun (iv3, j4) => if iv3 < j4 then Option.bind (ix xv (w64 (shrW .u64 ((IntKind.u64).wrap (w64 (iv3 + j4))) 1))) fun a24 => Option.bind (P6 a24 target) fun a27 => if a27 = true then some (.inl (w64 ((w64 (shrW .u64 ((IntKind.u64).wrap (w64 (iv3 + j4))) 1)) + 1), j4)) else some (.inl (iv3, w64 (shrW .u64 ((IntKind.u64).wrap (w64 (iv3 + j4))) 1))) else some (.inr iv3)
noncomputable def n7 (xv : List Int) (target : Int) : Option (Int × Bool) := Option.bind (Loop (w5 xv target) (0, (xv.length : Int))) fun iv5 => Option.bind (if iv5 < (xv.length : Int) then Option.bind (ix xv iv5) fun a38 => if a38 = target then some true else Option.bind (ix xv iv5) fun a45 => Option.bind (H8 a45) fun a47 => if a47 = true then Option.bind (H8 target) fun a50 => some a50 else some false else some false) fun t8 => some (iv5, t8)
noncomputable def R3 (xv : Int) (c2 : List Int) : Option Bool := Option.bind (n7 c2 xv) fun a9 => some a9.2
def y9 (sv : List Int) (fv : Int → Option Bool) : Int → Unit → Option (Unit ⊕ Int) := fun t3 _ => Option.bind (ix sv t3) fun a14 => Option.bind (fv a14) fun a16 => if a16 = true then some (.inr t3) else some (.inl ())
def C0 (sv : List Int) (fv : Int → Option Bool) : Option Int := (Option.bind (rngX 0 (sv.length : Int) (y9 sv fv) ()) fun | .inl _ => some (-1) | .inr x => some x)
def s8 (sv : List Int) (fv : Int → Option Bool) : Option Bool := Option.bind (C0 sv fv) fun a7 => some (decide (0 ≤ a7))
noncomputable def Q6 (av : List Int) (bv : List Int) : Option Bool := Option.bind (s8 av (fun y1 => R3 y1 bv)) fun a7 => some a7
noncomputable def C5 (ov : i6) (facts : Int) : Int → Unit → Option (Unit ⊕ Int) := fun t6 _ => Option.bind (ix ov.outcomes t6) fun a38 => Option.bind (Option.bind (A0 a38.add facts) fun a44 => if (!a44) = true then some true else Option.bind (A0 a38.del facts) fun a50 => if (!a50) = true then some true else Option.bind (Q6 a38.add a38.del) fun a58 => some a58) fun t7 => if t7 = true then some (.inr 5) else if ((decide (a38.weight < 1)) || (decide (6 < a38.weight))) = true then some (.inr 3) else some (.inl ())
noncomputable def G2 (ov : i6) (facts : Int) : Option Int := Option.bind (A0 ov.pre facts) fun a11 => if (!a11) = true then some 5 else if ((decide (ov.cost < 0)) || (decide (100 < ov.cost))) = true then some 3 else if ((decide ((ov.outcomes.length : Int) = 0)) || (decide (4 < (ov.outcomes.length : Int)))) = true then some 9 else (Option.bind (rngX 0 (ov.outcomes.length : Int) (C5 ov facts) ()) fun | .inl _ => some 0 | .inr x => some x)
noncomputable def H7 (ov : b9) : Int → Unit → Option (Unit ⊕ k6) := fun t6 _ => Option.bind (ix ov.operators t6) fun a44 => Option.bind (G2 a44 ov.facts) fun a49 => if a49 = 0 then some (.inl ()) else some (.inr (⟨a49, t6⟩ : k6))
noncomputable def D2 (ov : b9) : Option k6 := if ((decide (ov.facts < 0)) || (decide (24 < ov.facts))) = true then some (⟨3, -1⟩ : k6) else Option.bind (A0 ov.init ov.facts) fun a21 => if (!a21) = true then some (⟨5, -2⟩ : k6) else Option.bind (A0 ov.goal ov.facts) fun a29 => if (!a29) = true then some (⟨5, -3⟩ : k6) else if 40 < (ov.operators.length : Int) then some (⟨2, -1⟩ : k6) else (Option.bind (rngX 0 (ov.operators.length : Int) (H7 ov) ()) fun | .inl _ => some (⟨0, 0⟩ : k6) | .inr x => some x)
def F2 (iv : Int) : Option ByteArray := if iv < 10 then Option.bind (subS (⟨#[48, 49, 50, 51, 52, 53, 54, 55, 56, 57, 97, 98, 99, 100, 101, 102, 103, 104, 105, 106, 107, 108, 109, 110, 111, 112, 113, 114, 115, 116, 117, 118, 119, 120, 121, 122]⟩ : ByteArray) iv (w64 (iv + 1))) fun a8 => some a8 else Option.bind (subS (⟨#[48, 48, 48, 49, 48, 50, 48, 51, 48, 52, 48, 53, 48, 54, 48, 55, 48, 56, 48, 57, 49, 48, 49, 49, 49, 50, 49, 51, 49, 52, 49, 53, 49, 54, 49, 55, 49, 56, 49, 57, 50, 48, 50, 49, 50, 50, 50, 51, 50, 52, 50, 53, 50, 54, 50, 55, 50, 56, 50, 57, 51, 48, 51, 49, 51, 50, 51, 51, 51, 52, 51, 53, 51, 54, 51, 55, 51, 56, 51, 57, 52, 48, 52, 49, 52, 50, 52, 51, 52, 52, 52, 53, 52, 54, 52, 55, 52, 56, 52, 57, 53, 48, 53, 49, 53, 50, 53, 51, 53, 52, 53, 53, 53, 54, 53, 55, 53, 56, 53, 57, 54, 48, 54, 49, 54, 50, 54, 51, 54, 52, 54, 53, 54, 54, 54, 55, 54, 56, 54, 57, 55, 48, 55, 49, 55, 50, 55, 51, 55, 52, 55, 53, 55, 54, 55, 55, 55, 56, 55, 57, 56, 48, 56, 49, 56, 50, 56, 51, 56, 52, 56, 53, 56, 54, 56, 55, 56, 56, 56, 57, 57, 48, 57, 49, 57, 50, 57, 51, 57, 52, 57, 53, 57, 54, 57, 55, 57, 56, 57, 57]⟩ : ByteArray) (w64 (iv * 2)) (w64 ((w64 (iv * 2)) + 2))) fun a14 => some a14
abbrev S9 (iv : Int) (base : Int) (l : List Int) : b6 := [.one (vec 1 eU8 l)]
def v8 (iv : Int) (base : Int) (l : List Int) : Option (List Int) := if base = 10 then if iv < 100 then Option.bind (F2 (w64 iv)) fun a16 => Option.bind (app 1 l (strL a16)) fun a17 => some a17 else none else none
abbrev U8 (iv : Int) (base : Int) (l : List Int) : b6 := [.one (vec 1 eU8 l)]
def x5 (iv : Int) (base : Int) (l : List Int) : Option (List Int) := Option.bind (if iv < 0 then none else some ()) fun _ => Option.bind (v8 ((IntKind.u64).wrap iv) base l) fun a20 => some a20
abbrev ad4 (iv : Int) (base : Int) (l : List Int) : b6 := [.one (vec 1 eU8 l)]
def x9 (iv : Int) (base : Int) (l : List Int) : Option (List Int) := Option.bind (x5 iv base l) fun a10 => some a10
def aa5 (a12 : List Int) : Int → (List Int) → Option (List Int) := fun t5 c4 => Option.bind (ix a12 t5) fun a18 => Option.bind (x9 a18 10 c4) fun a22 => Option.bind (app 1 a22 [44]) fun a24 => some a24
def aa6 (l : LL) : Int → (List Int) → Option (List Int) := fun t3 c2 => Option.bind (ix l t3) fun a12 => (Option.bind (forR 0 (a12.length : Int) (aa5 a12) c2) fun c4 => Option.bind (app 1 c4 [59]) fun a28 => some a28)
def M8 (l : LL) : Option ByteArray := (Option.bind (forR 0 (l.length : Int) (aa6 l) []) fun c2 => some (strB c2))
def F3 (sv : List Int) (a12 : Int) : Int → Option (Int ⊕ Int) := fun iv5 => Option.bind (if iv5 < (sv.length : Int) then Option.bind (ix sv iv5) fun a21 => some (decide (a21 < a12)) else some false) fun t7 => if t7 = true then some (.inl (w64 (iv5 + 1))) else some (.inr iv5)
noncomputable def K7 (sv : List Int) (part : List Int) : Int → Int → Option (Int ⊕ Bool) := fun t4 iv3 => Option.bind (ix part t4) fun a12 => Option.bind (Loop (F3 sv a12) iv3) fun iv6 => Option.bind (if iv6 = (sv.length : Int) then some true else Option.bind (ix sv iv6) fun a35 => some (!(decide (a35 = a12)))) fun t11 => if t11 = true then some (.inr false) else some (.inl iv6)
noncomputable def p8 (sv : List Int) (part : List Int) : Option Bool := (Option.bind (rngX 0 (part.length : Int) (K7 sv part) 0) fun | .inl iv3 => some true | .inr x => some x)
noncomputable def P9 (ov : b9) (sv : List Int) (op : Int) : Option Bool := Option.bind (ix ov.operators op) fun a11 => Option.bind (p8 sv a11.pre) fun a14 => some a14
noncomputable def V1 (sv : List Int) (del : List Int) : Int → (List Int) → Option (List Int) := fun t5 c4 => Option.bind (Option.bind (ix sv t5) fun a16 => Option.bind (n7 del a16) fun a21 => if (!a21.2) = true then Option.bind (app 8 c4 [a16]) fun a29 => some a29 else some c4) fun c6 => some c6
noncomputable def G0 (sv : List Int) (add : List Int) (del : List Int) : Option (List Int) := (Option.bind (forR 0 (sv.length : Int) (V1 sv del) []) fun c4 => Option.bind (app 8 c4 add) fun a33 => Option.bind (sortL a33) fun a35 => some (U5 a35))
def J8 (xv : Int) (yv : Int) : Option Int := Option.bind (D3 xv) fun a8 => Option.bind (D3 yv) fun a10 => if a8 = true then if a10 = true then some 0 else some (-1) else if a10 = true then some 1 else if xv < yv then some (-1) else if yv < xv then some 1 else some 0
def B3 (s11 : List Int) (s22 : List Int) : Int → Unit → Option (Unit ⊕ Int) := fun t3 _ => Option.bind (ix s11 t3) fun a14 => if (s22.length : Int) ≤ t3 then some (.inr 1) else Option.bind (ix s22 t3) fun a22 => Option.bind (J8 a14 a22) fun a26 => if a26 = 0 then some (.inl ()) else some (.inr a26)
def slices_Compare_int_int (s11 : List Int) (s22 : List Int) : Option Int := (Option.bind (rngX 0 (s11.length : Int) (B3 s11 s22) ()) fun | .inl _ => if (s11.length : Int) < (s22.length : Int) then some (-1) else some 0 | .inr x => some x)
def I8 (s11 : List Int) (s22 : List Int) : Int → Unit → Option (Unit ⊕ Bool) := fun t4 _ => Option.bind (ix s11 t4) fun a18 => Option.bind (ix s22 t4) fun a22 => if a18 = a22 then some (.inl ()) else some (.inr false)
def u5 (s11 : List Int) (s22 : List Int) : Option Bool := if (s11.length : Int) = (s22.length : Int) then (Option.bind (rngX 0 (s11.length : Int) (I8 s11 s22) ()) fun | .inl _ => some true | .inr x => some x) else some false
def D8 (xv : LL) (target : List Int) (cmp : (List Int) → (List Int) → Option Int) : (Int × Int) → Option ((Int × Int) ⊕ Int) := fun (iv4, j5) => if iv4 < j5 then Option.bind (ix xv (w64 (shrW .u64 ((IntKind.u64).wrap (w64 (iv4 + j5))) 1))) fun a27 => Option.bind (cmp a27 target) fun a30 => if a30 < 0 then some (.inl (w64 ((w64 (shrW .u64 ((IntKind.u64).wrap (w64 (iv4 + j5))) 1)) + 1), j5)) else some (.inl (iv4, w64 (shrW .u64 ((IntKind.u64).wrap (w64 (iv4 + j5))) 1))) else some (.inr iv4)
noncomputable def l6 (xv : LL) (target : List Int) (cmp : (List Int) → (List Int) → Option Int) : Option (Int × Bool) := Option.bind (Loop (D8 xv target cmp) (0, (xv.length : Int))) fun iv6 => Option.bind (if iv6 < (xv.length : Int) then Option.bind (ix xv iv6) fun a43 => Option.bind (cmp a43 target) fun a46 => some (decide (a46 = 0)) else some false) fun t9 => some (iv6, t9)
abbrev v6 (l : LL) : b6 := [.one (vec 1 d4 l)]
def o8 (l : LL) (kv54 : Int) : Int → (LL × Int) → Option (LL × Int) := fun k258 (c56, kv57) => Option.bind (Option.bind (ixV c56 (0 + kv54) ((l.length : Int) - kv54) k258) fun a41 => Option.bind (ixV c56 (0 + kv54) ((l.length : Int) - kv54) (k258 - 1)) fun a46 => Option.bind (u5 a41 a46) fun a48 => if (!a48) = true then Option.bind (ixV c56 (0 + kv54) ((l.length : Int) - kv54) k258) fun a54 => Option.bind (ix c56 kv57) fun a56 => some (c56.set kv57.toNat a54, w64 (kv57 + 1)) else some (c56, kv57)) fun ⟨c59, kv60⟩ => some (c59, kv60)
def n5 (l : LL) : Int → Unit → Option (Unit ⊕ LL) := fun kv54 _ => Option.bind (ix l kv54) fun a21 => Option.bind (ix l (kv54 - 1)) fun a26 => Option.bind (u5 a21 a26) fun a28 => if a28 = true then Option.bind (cutV (l.length : Int) kv54 (l.length : Int)) fun u31 => (Option.bind (forR 1 ((l.length : Int) - kv54) (o8 l kv54) (l, kv54)) fun ⟨c56, kv57⟩ => Option.bind (cutV (c56.length : Int) kv57 (c56.length : Int)) fun u61 => Option.bind (cutV ((clrL c56 (0 + kv57) ((c56.length : Int) - kv57) []).length : Int) 0 kv57) fun u64 => some (.inr (w8 (clrL c56 (0 + kv57) ((c56.length : Int) - kv57) []) 0 kv57))) else some (.inl ())
def r7 (l : LL) : Option LL := if (l.length : Int) < 2 then some l else (Option.bind (rngX 1 (l.length : Int) (n5 l) ()) fun | .inl _ => some l | .inr x => some x)
abbrev aj3 (l : LL) : b6 := [.one (vec 1 d4 l)]
noncomputable def C1 (l : LL) : Option LL := Option.bind (sortFL slices_Compare_int_int l) fun a4 => Option.bind (r7 a4) fun a6 => some a6
noncomputable def K1 (sv : List Int) (a20 : i6) : Int → LL → Option LL := fun t5 c4 => Option.bind (ix a20.outcomes t5) fun a26 => Option.bind (G0 sv a26.add a26.del) fun a34 => Option.bind (app 24 c4 [a34]) fun a36 => some a36
noncomputable def F9 (c4 : LL) (a40 : LL) (a47 : i6) : Int → (List Int) → Option (List Int) := fun t7 c6 => Option.bind (ix a47.outcomes t7) fun a54 => Option.bind (ix c4 t7) fun a60 => Option.bind (l6 a40 a60 slices_Compare_int_int) fun a62 => Option.bind (ix c6 a62.1) fun a67 => Option.bind (ix c6 a62.1) fun a72 => some (c6.set a62.1.toNat (w64 (a67 + a54.weight)))
noncomputable def z7 (ov : b9) (sv : List Int) (op : Int) : Option (LL × (List Int)) := Option.bind (ix ov.operators op) fun a20 => (Option.bind (forR 0 (a20.outcomes.length : Int) (K1 sv a20) []) fun c4 => Option.bind (A9 c4) fun a39 => Option.bind (C1 a39) fun a40 => Option.bind (mkL 8 (a40.length : Int) 0) fun a43 => Option.bind (ix ov.operators op) fun a47 => (Option.bind (forR 0 (a47.outcomes.length : Int) (F9 c4 a40 a47) a43) fun c6 => some (a40, c6)))
def T5 : (LL × (List (ByteArray × Int))) → Option ((LL × (List (ByteArray × Int))) ⊕ (LL × Bool)) := fun (c10, c11) => some (.inl (c10, c11))
def I9 : (LL × (List (ByteArray × Int))) → Option ((LL × (List (ByteArray × Int))) ⊕ (LL × Bool)) := fun (c16, c17) => some (.inl (c16, c17))
def D5 (a48 : LL × (List Int)) : Int → (LL × (List (ByteArray × Int))) → Option ((LL × (List (ByteArray × Int))) ⊕ (LL × Bool)) := fun t15 (c13, c14) => Option.bind (ix a48.1 t15) fun a55 => Option.bind (M8 [a55]) fun a59 => if 0 < Option.getD (mget c14 a59) 0 then I9 (c13, c14) else if (c13.length : Int) = 2000 then some (.inr ([], false)) else Option.bind (app 24 c13 [a55]) fun a72 => I9 (a72, mset c14 a59 1)
noncomputable def D6 (ov : b9) (atv4 : Int) : Int → (LL × (List (ByteArray × Int))) → Option ((LL × (List (ByteArray × Int))) ⊕ (LL × Bool)) := fun t9 (c7, c8) => Option.bind (ix c7 atv4) fun a36 => Option.bind (P9 ov a36 t9) fun a39 => if (!a39) = true then T5 (c7, c8) else Option.bind (ix c7 atv4) fun a45 => Option.bind (z7 ov a45 t9) fun a48 => (Option.bind (rngX 0 (a48.1.length : Int) (D5 a48) (c7, c8)) fun | .inl (c13, c14) => T5 (c13, c14) | .inr x => some (.inr x))
noncomputable def x7 (ov : b9) : (LL × (List (ByteArray × Int)) × Int) → Option ((LL × (List (ByteArray × Int)) × Int) ⊕ (LL ⊕ (LL × Bool))) := fun (c2, c3, atv4) => if atv4 < (c2.length : Int) then (Option.bind (rngX 0 (ov.operators.length : Int) (D6 ov atv4) (c2, c3)) fun | .inl (c7, c8) => some (.inl (c7, c8, w64 (atv4 + 1))) | .inr x => some (.inr (.inr x))) else some (.inr (.inl c2))
noncomputable def A5 (ov : b9) : Option (LL × Bool) := Option.bind (u4 ov.init) fun a15 => Option.bind (M8 [a15]) fun a19 => Option.bind (Loop (x7 ov) ([a15], mset ([] : List (ByteArray × Int)) a19 1, 0)) fun | .inl c5 => Option.bind (C1 c5) fun a76 => some (a76, true) | .inr x => some x
noncomputable def I1 (ov : b9) : Option (LL × k6) := Option.bind (D2 ov) fun a8 => if (!((decide (a8.code = 0)) && (decide (a8.index = 0)))) = true then some ([], a8) else Option.bind (A5 ov) fun a15 => if (!a15.2) = true then some ([], (⟨10, -7⟩ : k6)) else some (a15.1, (⟨0, 0⟩ : k6))
noncomputable def K8 (all : LL) (sv : List Int) : Option Int := Option.bind (l6 all sv slices_Compare_int_int) fun a10 => some a10.1
noncomputable def C7 (all : LL) (rank : List Int) (a21 : LL × (List Int)) : Int → Int → Option (Int ⊕ Int) := fun t7 nv6 => Option.bind (ix a21.1 t7) fun a28 => Option.bind (K8 all a28) fun a33 => Option.bind (ix rank a33) fun a34 => if a34 < 0 then some (.inr (-1)) else some (.inl (max nv6 a34))
noncomputable def A4 (ov : b9) (all : LL) (rank : List Int) (sv : List Int) (op : Int) : Option Int := Option.bind (z7 ov sv op) fun a21 => (Option.bind (rngX 0 (a21.1.length : Int) (C7 all rank a21) 0) fun | .inl nv6 => some nv6 | .inr x => some x)
noncomputable def L7 (ov : b9) (all : LL) (rank : List Int) (sv : List Int) : Int → (Int × Int) → Option (Int × Int) := fun t7 (out5, least6) => Option.bind (Option.bind (P9 ov sv t7) fun a22 => if (!a22) = true then some (out5, least6) else Option.bind (A4 ov all rank sv t7) fun a29 => if ((decide (0 ≤ a29)) && ((decide (out5 < 0)) || (decide (a29 < least6)))) = true then some (t7, a29) else some (out5, least6)) fun ⟨out8, least9⟩ => some (out8, least9)
noncomputable def n9 (ov : b9) (all : LL) (rank : List Int) (sv : List Int) : Option Int := (Option.bind (forR 0 (ov.operators.length : Int) (L7 ov all rank sv) (-1, 0)) fun ⟨out5, least6⟩ => some out5)
noncomputable def F8 (ov : b9) (all : LL) : Int → (List Int) → Option (List Int) := fun t4 c3 => Option.bind (Option.bind (ix all t4) fun a23 => Option.bind (p8 a23 ov.goal) fun a28 => if a28 = true then Option.bind (ix c3 t4) fun a31 => some (c3.set t4.toNat 0) else some c3) fun c5 => some c5
noncomputable def K4 (ov : b9) (all : LL) (c8 : List Int) : Int → (List Int) → Option (List Int) := fun t11 c10 => Option.bind (Option.bind (ix all t11) fun a40 => Option.bind (Option.bind (ix c8 t11) fun a44 => if a44 < 0 then Option.bind (n9 ov all c8 a40) fun a52 => some (decide (0 ≤ a52)) else some false) fun t14 => if t14 = true then Option.bind (app 8 c10 [t11]) fun a58 => some a58 else some c10) fun c12 => some c12
def P3 (layer9 : Int) (c10 : List Int) : Int → (List Int) → Option (List Int) := fun t20 c19 => Option.bind (ix c10 t20) fun a68 => Option.bind (ix c19 a68) fun a73 => some (c19.set a68.toNat layer9)
noncomputable def y7 (ov : b9) (all : LL) : ((List Int) × Int) → Option (((List Int) × Int) ⊕ (List Int)) := fun (c8, layer9) => (Option.bind (forR 0 (all.length : Int) (K4 ov all c8) []) fun c10 => if (c10.length : Int) = 0 then some (.inr c8) else (Option.bind (forR 0 (c10.length : Int) (P3 layer9 c10) c8) fun c19 => some (.inl (c19, w64 (layer9 + 1)))))
noncomputable def H5 (ov : b9) (all : LL) : Option (List Int) := Option.bind (w9 [-1] (all.length : Int)) fun a17 => (Option.bind (forR 0 (all.length : Int) (F8 ov all) a17) fun c3 => Option.bind (Loop (y7 ov all) (c3, 1)) fun x => some x)
noncomputable def q7 (sv : List Int) (c2 : b9) (c3 : LL) (c4 : List Int) : Option Int := Option.bind (n9 c2 c3 c4 sv) fun a10 => some a10
def u7 (xv : List d7) (target : List Int) (cmp : d7 → (List Int) → Option Int) : (Int × Int) → Option ((Int × Int) ⊕ Int) := fun (iv4, j5) => if iv4 < j5 then Option.bind (ix xv (w64 (shrW .u64 ((IntKind.u64).wrap (w64 (iv4 + j5))) 1))) fun a27 => Option.bind (cmp a27 target) fun a30 => if a30 < 0 then some (.inl (w64 ((w64 (shrW .u64 ((IntKind.u64).wrap (w64 (iv4 + j5))) 1)) + 1), j5)) else some (.inl (iv4, w64 (shrW .u64 ((IntKind.u64).wrap (w64 (iv4 + j5))) 1))) else some (.inr iv4)
noncomputable def i7 (xv : List d7) (target : List Int) (cmp : d7 → (List Int) → Option Int) : Option (Int × Bool) := Option.bind (Loop (u7 xv target cmp) (0, (xv.length : Int))) fun iv6 => Option.bind (if iv6 < (xv.length : Int) then Option.bind (ix xv iv6) fun a43 => Option.bind (cmp a43 target) fun a46 => some (decide (a46 = 0)) else some false) fun t9 => some (iv6, t9)
def open_Chosen_1 (c : d7) (sv : List Int) : Option Int := Option.bind (slices_Compare_int_int c.state sv) fun a8 => some a8
noncomputable def E7 (policy : List d7) (sv : List Int) : Option Int := Option.bind (i7 policy sv open_Chosen_1) fun a10 => if (!a10.2) = true then some (-1) else Option.bind (ix policy a10.1) fun a17 => some a17.operator
def y4 (c : d7) (sv : List Int) : Option Int := Option.bind (slices_Compare_int_int c.state sv) fun a8 => some a8
def F6 (atv5 : Int) : (LL × (List d7)) → Option ((LL × (List d7) × Int) ⊕ ((List d7) ⊕ ((List d7) × Bool))) := fun (c8, c9) => some (.inl (c8, c9, w64 (atv5 + 1)))
noncomputable def s5 (ov : b9) (choose : (List Int) → Option Int) : (LL × (List d7) × Int) → Option ((LL × (List d7) × Int) ⊕ ((List d7) ⊕ ((List d7) × Bool))) := fun (c3, c4, atv5) => if atv5 < (c3.length : Int) then Option.bind (ix c3 atv5) fun a26 => Option.bind (Option.bind (p8 a26 ov.goal) fun a31 => if a31 = true then some true else Option.bind (E7 c4 a26) fun a35 => some (decide (0 ≤ a35))) fun t10 => if t10 = true then (F6 atv5) (c3, c4) else if (c4.length : Int) = 200 then some (.inr (.inr ([], false))) else Option.bind (choose a26) fun a43 => Option.bind (i7 c4 a26 y4) fun a47 => Option.bind (u4 a26) fun a53 => Option.bind (insL c4 a47.1 (⟨a53, a43⟩ : d7)) fun a57 => Option.bind (z7 ov a26 a43) fun a62 => Option.bind (app 24 c3 a62.1) fun a67 => (F6 atv5) (a67, a57) else some (.inr (.inl c4))
noncomputable def I4 (ov : b9) (choose : (List Int) → Option Int) : Option ((List d7) × Bool) := Option.bind (Loop (s5 ov choose) ([ov.init], [], 0)) fun | .inl c6 => some (c6, true) | .inr x => some x
noncomputable def o6 (ov : b9) : Option ((List d7) × Bool × k6) := Option.bind (I1 ov) fun a12 => if (!((decide (a12.2.code = 0)) && (decide (a12.2.index = 0)))) = true then some ([], false, a12.2) else Option.bind (H5 ov a12.1) fun a21 => Option.bind (K8 a12.1 ov.init) fun a26 => Option.bind (ix a21 a26) fun a27 => if a27 < 0 then some ([], false, (⟨0, 0⟩ : k6)) else Option.bind (I4 ov (fun y1 => q7 y1 ov a12.1 a21)) fun a34 => if (!a34.2) = true then some ([], false, (⟨10, -8⟩ : k6)) else some (a34.1, true, (⟨0, 0⟩ : k6))
def O4 (nv : Int) (low : Int) (high : Int) : Option Bool := some ((decide (low ≤ nv)) && (decide (nv ≤ high)))
def J0 (code : Int) (index : Int) : Option k6 := some (⟨code, index⟩ : k6)
def T7 (l : List Int) (nv : Int) : Int → Unit → Option (Unit ⊕ Bool) := fun iv3 _ => Option.bind (Option.bind (ix l iv3) fun a14 => Option.bind (O4 a14 0 (w64 (nv - 1))) fun a18 => if (!a18) = true then some true else if 0 < iv3 then Option.bind (ix l iv3) fun a26 => Option.bind (ix l (iv3 - 1)) fun a31 => some (decide (a26 ≤ a31)) else some false) fun t4 => if t4 = true then some (.inr false) else some (.inl ())
def E9 (l : List Int) (nv : Int) : Option Bool := (Option.bind (rngX 0 (l.length : Int) (T7 l nv) ()) fun | .inl _ => some true | .inr x => some x)
def af0 (l : List Int) (nv : Int) : Int → Unit → Option (Unit ⊕ Bool) := fun iv3 _ => Option.bind (ix l iv3) fun a14 => if a14 = nv then some (.inr true) else some (.inl ())
def H9 (l : List Int) (nv : Int) : Option Bool := (Option.bind (rngX 0 (l.length : Int) (af0 l nv) ()) fun | .inl _ => some false | .inr x => some x)
def U9 (av : List Int) (bv : List Int) : Int → Unit → Option (Unit ⊕ Bool) := fun iv3 _ => Option.bind (ix av iv3) fun a15 => Option.bind (H9 bv a15) fun a17 => if a17 = true then some (.inr false) else some (.inl ())
def N4 (av : List Int) (bv : List Int) : Option Bool := (Option.bind (rngX 0 (av.length : Int) (U9 av bv) ()) fun | .inl _ => some true | .inr x => some x)
def v7 (ov : b9) (a42 : i6) : (Int × Int) → Option ((Int × Int) ⊕ Int) := fun (ev12, kv13) => if ((decide (kv13 < (a42.outcomes.length : Int))) && (decide (ev12 = 0))) = true then Option.bind (Option.bind (ix a42.outcomes kv13) fun a73 => Option.bind (Option.bind (E9 a73.add ov.facts) fun a79 => if (!a79) = true then some true else Option.bind (E9 a73.del ov.facts) fun a86 => if (!a86) = true then some true else Option.bind (N4 a73.add a73.del) fun a94 => some (!a94)) fun t18 => if t18 = true then some 5 else Option.bind (O4 a73.weight 1 6) fun a99 => if (!a99) = true then some 3 else some ev12) fun ev16 => some (.inl (ev16, w64 (kv13 + 1))) else some (.inr ev12)
noncomputable def D0 (ov : b9) : Int → Unit → Option (Unit ⊕ k6) := fun iv6 _ => Option.bind (ix ov.operators iv6) fun a42 => Option.bind (Option.bind (E9 a42.pre ov.facts) fun a48 => if (!a48) = true then some 5 else Option.bind (O4 a42.cost 0 100) fun a52 => if (!a52) = true then some 3 else Option.bind (O4 (a42.outcomes.length : Int) 1 4) fun a57 => if (!a57) = true then some 9 else some 0) fun ev7 => Option.bind (Loop (v7 ov a42) (ev7, 0)) fun ev14 => if ev14 = 0 then some (.inl ()) else Option.bind (J0 ev14 iv6) fun a105 => some (.inr a105)
noncomputable def H3 (ov : b9) : Option k6 := Option.bind (O4 ov.facts 0 24) fun a10 => if (!a10) = true then Option.bind (J0 3 (-1)) fun a12 => some a12 else Option.bind (E9 ov.init ov.facts) fun a17 => if (!a17) = true then Option.bind (J0 5 (-2)) fun a19 => some a19 else Option.bind (E9 ov.goal ov.facts) fun a24 => if (!a24) = true then Option.bind (J0 5 (-3)) fun a26 => some a26 else if 40 < (ov.operators.length : Int) then Option.bind (J0 2 (-1)) fun a31 => some a31 else (Option.bind (rngX 0 (ov.operators.length : Int) (D0 ov) ()) fun | .inl _ => some (⟨0, 0⟩ : k6) | .inr x => some x)
def aa1 : Option b9 := some (⟨1, [], [0], [(⟨[], [(⟨[0], [], 1⟩ : l4)], 1⟩ : i6)]⟩ : b9)
noncomputable def z8 (ov : b9) (policy : List d7) : Int → Unit → Option (Unit ⊕ k6) := fun t5 _ => Option.bind (ix policy t5) fun a24 => Option.bind (Option.bind (Option.bind (A0 a24.state ov.facts) fun a31 => if (!a31) = true then some true else if 0 < t5 then Option.bind (ix policy (t5 - 1)) fun a40 => Option.bind (slices_Compare_int_int a40.state a24.state) fun a45 => some (decide (0 ≤ a45)) else some false) fun t8 => if t8 = true then some 5 else if ((decide (a24.operator < 0)) || (decide ((ov.operators.length : Int) ≤ a24.operator))) = true then some 3 else Option.bind (P9 ov a24.state a24.operator) fun a67 => if (!a67) = true then some 11 else some 0) fun ev6 => if ev6 = 0 then some (.inl ()) else some (.inr (⟨ev6, w64 ((-9) - t5)⟩ : k6))
noncomputable def E0 (ov : b9) (policy : List d7) : Option k6 := Option.bind (D2 ov) fun a10 => if (!((decide (a10.code = 0)) && (decide (a10.index = 0)))) = true then some a10 else if 200 < (policy.length : Int) then some (⟨2, -8⟩ : k6) else (Option.bind (rngX 0 (policy.length : Int) (z8 ov policy) ()) fun | .inl _ => some (⟨0, 0⟩ : k6) | .inr x => some x)
def H4 (xv : List Int) (c2 : List Int) : Option Bool := Option.bind (u5 xv c2) fun a6 => some a6
def B6 (sv : LL) (fv : (List Int) → Option Bool) : Int → Unit → Option (Unit ⊕ Int) := fun t3 _ => Option.bind (ix sv t3) fun a14 => Option.bind (fv a14) fun a16 => if a16 = true then some (.inr t3) else some (.inl ())
def F0 (sv : LL) (fv : (List Int) → Option Bool) : Option Int := (Option.bind (rngX 0 (sv.length : Int) (B6 sv fv) ()) fun | .inl _ => some (-1) | .inr x => some x)
def w6 (sv : LL) (fv : (List Int) → Option Bool) : Option Bool := Option.bind (F0 sv fv) fun a7 => some (decide (0 ≤ a7))
def K6 (a46 : LL × (List Int)) : Int → LL → Option LL := fun t14 c13 => Option.bind (Option.bind (ix a46.1 t14) fun a53 => Option.bind (w6 c13 (fun y1 => H4 y1 a53)) fun a57 => if (!a57) = true then Option.bind (app 24 c13 [a53]) fun a62 => some a62 else some c13) fun c15 => some c15
noncomputable def P1 (ov : b9) (policy : List d7) : (LL × Int) → Option ((LL × Int) ⊕ LL) := fun (c3, atv4) => if atv4 < (c3.length : Int) then Option.bind (Option.bind (ix c3 atv4) fun a25 => Option.bind (E7 policy a25) fun a27 => Option.bind (if a27 < 0 then some true else Option.bind (ix c3 atv4) fun a33 => Option.bind (p8 a33 ov.goal) fun a37 => some a37) fun t9 => if t9 = true then some c3 else Option.bind (ix c3 atv4) fun a43 => Option.bind (z7 ov a43 a27) fun a46 => (Option.bind (forR 0 (a46.1.length : Int) (K6 a46) c3) fun c13 => some c13)) fun c7 => some (.inl (c7, w64 (atv4 + 1))) else some (.inr c3)
noncomputable def Q8 (ov : b9) (policy : List d7) : Option LL := Option.bind (u4 ov.init) fun a14 => Option.bind (Loop (P1 ov policy) ([a14], 0)) fun c5 => Option.bind (C1 c5) fun a65 => some a65
def D7 (sv : List Int) (v : Int) : Int → Unit → Option (Unit ⊕ Int) := fun t3 _ => Option.bind (ix sv t3) fun a14 => if v = a14 then some (.inr t3) else some (.inl ())
def G8 (sv : List Int) (v : Int) : Option Int := (Option.bind (rngX 0 (sv.length : Int) (D7 sv v) ()) fun | .inl _ => some (-1) | .inr x => some x)
def y6 (sv : List Int) (v : Int) : Option Bool := Option.bind (G8 sv v) fun a7 => some (decide (0 ≤ a7))
noncomputable def J9 (ov : b9) (a25 : LL) : Int → (List Int) → Option (List Int) := fun t5 c4 => Option.bind (Option.bind (ix a25 t5) fun a34 => Option.bind (p8 a34 ov.goal) fun a39 => if (!a39) = true then Option.bind (ix c4 t5) fun a43 => some (c4.set t5.toNat (-1)) else some c4) fun c6 => some c6
noncomputable def J3 (ov : b9) (policy : List d7) (a25 : LL) : Int → (List Int) → Option (List Int) := fun t12 c11 => Option.bind (Option.bind (ix a25 t12) fun a54 => Option.bind (E7 policy a54) fun a58 => Option.bind (ix c11 t12) fun a61 => if ((decide (0 ≤ a61)) || (decide (a58 < 0))) = true then some c11 else Option.bind (A4 ov a25 c11 a54 a58) fun a73 => if 0 ≤ a73 then Option.bind (ix c11 t12) fun a80 => some (c11.set t12.toNat (w64 (a73 + 1))) else some c11) fun c13 => some c13
noncomputable def K0 (ov : b9) (policy : List d7) (a25 : LL) : Int → (List Int) → Option (List Int) := fun t10 c9 => (Option.bind (forR 0 (a25.length : Int) (J3 ov policy a25) c9) fun c11 => some c11)
noncomputable def H6 (ov : b9) (policy : List d7) : Option (Int × Bool × k6) := Option.bind (E0 ov policy) fun a18 => if (!((decide (a18.code = 0)) && (decide (a18.index = 0)))) = true then some (0, false, a18) else Option.bind (Q8 ov policy) fun a25 => Option.bind (mkL 8 (a25.length : Int) 0) fun a28 => (Option.bind (forR 0 (a25.length : Int) (J9 ov a25) a28) fun c4 => (Option.bind (forR 0 (a25.length : Int) (K0 ov policy a25) c4) fun c9 => Option.bind (y6 c9 (-1)) fun a84 => if a84 = true then some (0, false, (⟨0, 0⟩ : k6)) else Option.bind (K8 a25 ov.init) fun a90 => Option.bind (ix c9 a90) fun a91 => some (a91, true, (⟨0, 0⟩ : k6))))
def ac6 (av : List Int) (bv : List Int) : Int → Unit → Option (Unit ⊕ Bool) := fun iv4 _ => Option.bind (ix av iv4) fun a19 => Option.bind (ix bv iv4) fun a23 => if a19 = a23 then some (.inl ()) else some (.inr false)
def H1 (av : List Int) (bv : List Int) : Option Bool := if (av.length : Int) = (bv.length : Int) then (Option.bind (rngX 0 (av.length : Int) (ac6 av bv) ()) fun | .inl _ => some true | .inr x => some x) else some false
def W8 (av : List d7) (bv : List d7) : Int → Unit → Option (Unit ⊕ Bool) := fun iv4 _ => Option.bind (Option.bind (ix av iv4) fun a19 => Option.bind (ix bv iv4) fun a24 => if (!(decide (a19.operator = a24.operator))) = true then some true else Option.bind (ix av iv4) fun a31 => Option.bind (ix bv iv4) fun a36 => Option.bind (H1 a31.state a36.state) fun a39 => some (!a39)) fun t5 => if t5 = true then some (.inr false) else some (.inl ())
def L8 (av : List d7) (bv : List d7) : Option Bool := if (av.length : Int) = (bv.length : Int) then (Option.bind (rngX 0 (av.length : Int) (W8 av bv) ()) fun | .inl _ => some true | .inr x => some x) else some false
noncomputable def G9 : Option Bool := Option.bind (aa1) fun a8 => Option.bind (o6 a8) fun a9 => Option.bind (aa1) fun a14 => Option.bind (H6 a14 a9.1) fun a16 => Option.bind (if a9.2.2.code = 0 then if a16.2.2.code = 0 then if a9.2.1 = true then if a16.2.1 = true then if a16.1 = 1 then Option.bind (L8 a9.1 ([(⟨[], 0⟩ : d7)])) fun a42 => some a42 else some false else some false else some false else some false else some false) fun t1 => some t1
def W7 (sv : List Int) : Int → Int → Option Int := fun iv3 w2 => Option.bind (ix sv iv3) fun a14 => Option.bind (chk0 ((IntKind.u64).wrap a14)) fun u17 => some (w64 (w2 + (shlW .i64 1 ((IntKind.u64).wrap a14))))
def M4 (sv : List Int) : Option Int := (Option.bind (forR 0 (sv.length : Int) (W7 sv) 0) fun w2 => some w2)
def Y2 (part : List Int) (l : List Int) : Int → Unit → Option (Unit ⊕ Bool) := fun iv3 _ => Option.bind (ix part iv3) fun a15 => Option.bind (H9 l a15) fun a17 => if (!a17) = true then some (.inr false) else some (.inl ())
def N8 (part : List Int) (l : List Int) : Option Bool := (Option.bind (rngX 0 (part.length : Int) (Y2 part l) ()) fun | .inl _ => some true | .inr x => some x)
def C9 (ov : b9) (sv : List Int) (op : Int) : Option Bool := Option.bind (ix ov.operators op) fun a10 => Option.bind (N8 a10.pre sv) fun a14 => some a14
def X6 (sv : List Int) (xv : l4) : Int → (List Int) → Option (List Int) := fun p5 c4 => Option.bind (Option.bind (Option.bind (H9 xv.add p5) fun a18 => if a18 = true then some true else Option.bind (H9 sv p5) fun a22 => if a22 = true then Option.bind (H9 xv.del p5) fun a27 => some (!a27) else some false) fun t8 => if t8 = true then Option.bind (app 8 c4 [p5]) fun a34 => some a34 else some c4) fun c6 => some c6
def O5 (ov : b9) (sv : List Int) (xv : l4) : Option (List Int) := if ov.facts ≤ 9223372036854775807 then (Option.bind (forR 0 ov.facts (X6 sv xv) []) fun c4 => some c4) else none
def S3 (av : List Int) (bv : List Int) : Int → Option (Int ⊕ (Unit ⊕ Bool)) := fun iv3 => if ((decide (iv3 < (av.length : Int))) && (decide (iv3 < (bv.length : Int)))) = true then Option.bind (ix av iv3) fun a20 => Option.bind (ix bv iv3) fun a24 => if a20 = a24 then some (.inl (w64 (iv3 + 1))) else Option.bind (ix av iv3) fun a29 => Option.bind (ix bv iv3) fun a33 => some (.inr (.inr (decide (a29 < a33)))) else some (.inr (.inl ()))
noncomputable def H2 (av : List Int) (bv : List Int) : Option Bool := Option.bind (Loop (S3 av bv) 0) fun | .inl _ => some (decide ((av.length : Int) < (bv.length : Int))) | .inr x => some x
noncomputable def R8 (l : LL) (sv : List Int) : Int → Option (Int ⊕ Int) := fun kv3 => Option.bind (if kv3 < (l.length : Int) then Option.bind (ix l kv3) fun a13 => Option.bind (H2 a13 sv) fun a16 => some a16 else some false) fun t5 => if t5 = true then some (.inl (w64 (kv3 + 1))) else some (.inr kv3)
noncomputable def K9 (l : LL) (sv : List Int) : Option LL := Option.bind (Loop (R8 l sv) 0) fun kv4 => Option.bind (if kv4 < (l.length : Int) then Option.bind (ix l kv4) fun a27 => Option.bind (H1 a27 sv) fun a30 => some a30 else some false) fun t9 => if t9 = true then some l else Option.bind (subL l 0 kv4) fun a36 => Option.bind (app 24 ([] : LL) a36) fun a37 => Option.bind (app 24 a37 [sv]) fun a40 => Option.bind (subL l kv4 (l.length : Int)) fun a43 => Option.bind (app 24 a40 a43) fun a44 => some a44
def U1 (l : LL) (sv : List Int) : Int → Unit → Option (Unit ⊕ Int) := fun iv3 _ => Option.bind (ix l iv3) fun a14 => Option.bind (H1 a14 sv) fun a17 => if a17 = true then some (.inr iv3) else some (.inl ())
def y5 (l : LL) (sv : List Int) : Option Int := (Option.bind (rngX 0 (l.length : Int) (U1 l sv) ()) fun | .inl _ => some (-1) | .inr x => some x)
noncomputable def U3 (ov : b9) (sv : List Int) (a17 : i6) : Int → LL → Option LL := fun kv5 states4 => Option.bind (ix a17.outcomes kv5) fun a31 => Option.bind (O5 ov sv a31) fun a33 => Option.bind (K9 states4 a33) fun a34 => some a34
def T3 (ov : b9) (sv : List Int) (a17 : i6) (states4 : LL) : Int → (List Int) → Option (List Int) := fun kv7 c6 => Option.bind (ix a17.outcomes kv7) fun a49 => Option.bind (O5 ov sv a49) fun a51 => Option.bind (y5 states4 a51) fun a52 => Option.bind (ix c6 a52) fun a57 => Option.bind (ix a17.outcomes kv7) fun a61 => Option.bind (ix c6 a52) fun a65 => some (c6.set a52.toNat (w64 (a57 + a61.weight)))
noncomputable def G5 (ov : b9) (sv : List Int) (op : Int) : Option (LL × (List Int)) := Option.bind (ix ov.operators op) fun a17 => (Option.bind (forR 0 (a17.outcomes.length : Int) (U3 ov sv a17) []) fun states4 => Option.bind (mkL 8 (states4.length : Int) 0) fun a37 => (Option.bind (forR 0 (a17.outcomes.length : Int) (T3 ov sv a17 states4) a37) fun c6 => some (states4, c6)))
def J4 : (LL × (List Int)) → Option ((LL × (List Int)) ⊕ (LL × Bool)) := fun (c11, c12) => some (.inl (c11, c12))
def J5 : (LL × (List Int)) → Option ((LL × (List Int)) ⊕ (LL × Bool)) := fun (c17, c18) => some (.inl (c17, c18))
def l9 (most : Int) (a52 : LL × (List Int)) : Int → (LL × (List Int)) → Option ((LL × (List Int)) ⊕ (LL × Bool)) := fun kv16 (c14, c15) => Option.bind (ix a52.1 kv16) fun a64 => Option.bind (M4 a64) fun a66 => Option.bind (H9 c15 a66) fun a67 => if a67 = true then J5 (c14, c15) else if most ≤ (c14.length : Int) then some (.inr ([], false)) else Option.bind (ix a52.1 kv16) fun a75 => Option.bind (app 24 c14 [a75]) fun a78 => Option.bind (ix a52.1 kv16) fun a82 => Option.bind (M4 a82) fun a84 => Option.bind (app 8 c15 [a84]) fun a86 => J5 (a78, a86)
noncomputable def l5 (ov : b9) (most : Int) (iv5 : Int) : Int → (LL × (List Int)) → Option ((LL × (List Int)) ⊕ (LL × Bool)) := fun op10 (c8, c9) => Option.bind (ix c8 iv5) fun a40 => Option.bind (C9 ov a40 op10) fun a43 => if (!a43) = true then J4 (c8, c9) else Option.bind (ix c8 iv5) fun a49 => Option.bind (G5 ov a49 op10) fun a52 => (Option.bind (rngX 0 (a52.1.length : Int) (l9 most a52) (c8, c9)) fun | .inl (c14, c15) => J4 (c14, c15) | .inr x => some (.inr x))
noncomputable def l8 (ov : b9) (most : Int) : (LL × (List Int) × Int) → Option ((LL × (List Int) × Int) ⊕ (LL ⊕ (LL × Bool))) := fun (c3, c4, iv5) => if iv5 < (c3.length : Int) then (Option.bind (rngX 0 (ov.operators.length : Int) (l5 ov most iv5) (c3, c4)) fun | .inl (c8, c9) => some (.inl (c8, c9, w64 (iv5 + 1))) | .inr x => some (.inr (.inr x))) else some (.inr (.inl c3))
noncomputable def J2 (c6 : LL) : Int → LL → Option LL := fun iv22 out21 => Option.bind (ix c6 iv22) fun a96 => Option.bind (K9 out21 a96) fun a98 => some a98
noncomputable def p7 (ov : b9) (most : Int) : Option (LL × Bool) := Option.bind (M4 ov.init) fun a21 => Option.bind (app 8 [] [a21]) fun a23 => Option.bind (Loop (l8 ov most) ([ov.init], a23, 0)) fun | .inl c6 => (Option.bind (forR 0 (c6.length : Int) (J2 c6) []) fun out21 => some (out21, true)) | .inr x => some x
def K2 (ov : b9) (sv : List Int) : Option Bool := Option.bind (N8 ov.goal sv) fun a8 => some a8
def W3 (all : LL) (value : List Int) (a20 : LL × (List Int)) : Int → Int → Option Int := fun kv7 nv6 => Option.bind (Option.bind (ix a20.1 kv7) fun a33 => Option.bind (y5 all a33) fun a35 => Option.bind (ix value a35) fun a36 => if nv6 < a36 then some a36 else some nv6) fun nv8 => some nv8
noncomputable def V5 (ov : b9) (all : LL) (value : List Int) (sv : List Int) (op : Int) : Option Int := Option.bind (G5 ov sv op) fun a20 => (Option.bind (forR 0 (a20.1.length : Int) (W3 all value a20) 0) fun nv6 => some nv6)
def T6 (ov : b9) (all : LL) : Int → (List Int) → Option (List Int) := fun iv4 c3 => Option.bind (Option.bind (ix c3 iv4) fun a22 => Option.bind (ix all iv4) fun a26 => Option.bind (K2 ov a26) fun a28 => if a28 = true then Option.bind (ix (c3.set iv4.toNat 1000000000) iv4) fun a31 => some ((c3.set iv4.toNat 1000000000).set iv4.toNat 0) else some (c3.set iv4.toNat 1000000000)) fun c5 => some c5
noncomputable def N6 (ov : b9) (all : LL) (iv14 : Int) : Int → ((List Int) × Bool) → Option ((List Int) × Bool) := fun op17 (c15, again16) => Option.bind (Option.bind (ix all iv14) fun a49 => Option.bind (C9 ov a49 op17) fun a52 => if (!a52) = true then some (c15, again16) else Option.bind (ix all iv14) fun a59 => Option.bind (V5 ov all c15 a59 op17) fun a62 => Option.bind (ix c15 iv14) fun a67 => if w64 (a62 + 1) < a67 then Option.bind (ix c15 iv14) fun a74 => some (c15.set iv14.toNat (w64 (a62 + 1)), true) else some (c15, again16)) fun ⟨c18, again19⟩ => some (c18, again19)
noncomputable def T1 (ov : b9) (all : LL) : Int → ((List Int) × Bool) → Option ((List Int) × Bool) := fun iv14 (c12, again13) => (Option.bind (forR 0 (ov.operators.length : Int) (N6 ov all iv14) (c12, again13)) fun ⟨c15, again16⟩ => some (c15, again16))
noncomputable def U2 (ov : b9) (all : LL) : ((List Int) × Bool) → Option (((List Int) × Bool) ⊕ (List Int)) := fun (c8, again9) => if again9 = true then (Option.bind (forR 0 (all.length : Int) (T1 ov all) (c8, false)) fun ⟨c12, again13⟩ => some (.inl (c12, again13))) else some (.inr c8)
noncomputable def X3 (ov : b9) (all : LL) : Option (List Int) := Option.bind (mkL 8 (all.length : Int) 0) fun a13 => (Option.bind (forR 0 (all.length : Int) (T6 ov all) a13) fun c3 => Option.bind (Loop (U2 ov all) (c3, true)) fun c10 => some c10)
def R2 (p : List d7) (sv : List Int) : Int → Unit → Option (Unit ⊕ Int) := fun iv3 _ => Option.bind (ix p iv3) fun a14 => Option.bind (H1 a14.state sv) fun a18 => if a18 = true then Option.bind (ix p iv3) fun a21 => some (.inr a21.operator) else some (.inl ())
def F1 (p : List d7) (sv : List Int) : Option Int := (Option.bind (rngX 0 (p.length : Int) (R2 p sv) ()) fun | .inl _ => some (-1) | .inr x => some x)
noncomputable def K5 (a45 : LL × (List Int)) : Int → (LL × Bool) → Option (LL × Bool) := fun kv22 (all20, again21) => Option.bind (Option.bind (ix a45.1 kv22) fun a57 => Option.bind (y5 all20 a57) fun a59 => if a59 < 0 then Option.bind (ix a45.1 kv22) fun a64 => Option.bind (K9 all20 a64) fun a66 => some (a66, true) else some (all20, again21)) fun ⟨all23, again24⟩ => some (all23, again24)
noncomputable def P2 (ov : b9) (p : List d7) : (LL × Bool × Int) → Option ((LL × Bool × Int) ⊕ (LL × Bool)) := fun (all7, again8, iv9) => if iv9 < (all7.length : Int) then Option.bind (Option.bind (ix all7 iv9) fun a25 => Option.bind (F1 p a25) fun a27 => Option.bind (if a27 < 0 then some true else Option.bind (ix all7 iv9) fun a34 => Option.bind (K2 ov a34) fun a36 => some a36) fun t16 => if t16 = true then some (all7, again8) else Option.bind (ix all7 iv9) fun a42 => Option.bind (G5 ov a42 a27) fun a45 => (Option.bind (forR 0 (a45.1.length : Int) (K5 a45) (all7, again8)) fun ⟨all20, again21⟩ => some (all20, again21))) fun ⟨all13, again14⟩ => some (.inl (all13, again14, w64 (iv9 + 1))) else some (.inr (all7, again8))
noncomputable def O9 (ov : b9) (p : List d7) : (LL × Bool) → Option ((LL × Bool) ⊕ LL) := fun (all3, again4) => if again4 = true then Option.bind (Loop (P2 ov p) (all3, false, 0)) fun ⟨all10, again11⟩ => some (.inl (all10, again11)) else some (.inr all3)
noncomputable def Q4 (ov : b9) (p : List d7) : Option LL := Option.bind (Loop (O9 ov p) ([ov.init], true)) fun all5 => some all5
noncomputable def G6 (ov : b9) (all : LL) (rank : List Int) (sv : List Int) (nv5 : Int) : Int → Unit → Option (Unit ⊕ Int) := fun op6 _ => Option.bind (Option.bind (C9 ov sv op6) fun a25 => if a25 = true then Option.bind (V5 ov all rank sv op6) fun a32 => some (decide (a32 = nv5)) else some false) fun t7 => if t7 = true then some (.inr op6) else some (.inl ())
noncomputable def G7 (ov : b9) (all : LL) (rank : List Int) (sv : List Int) : Int → Unit → Option (Unit ⊕ Int) := fun nv5 _ => (Option.bind (rngX 0 (ov.operators.length : Int) (G6 ov all rank sv nv5) ()) fun | .inl _ => some (.inl ()) | .inr x => some (.inr x))
noncomputable def D1 (ov : b9) (all : LL) (rank : List Int) (sv : List Int) : Option Int := (Option.bind (rngX 0 1000000000 (G7 ov all rank sv) ()) fun | .inl _ => some (-1) | .inr x => some x)
def ai0 (value : List Int) : Int → (List Bool) → Option (List Bool) := fun iv3 c2 => Option.bind (ix value iv3) fun a14 => Option.bind (app 1 c2 [decide (a14 < 1000000000)]) fun a18 => some a18
def ag2 (value : List Int) : Option (List Bool) := (Option.bind (forR 0 (value.length : Int) (ai0 value) []) fun c2 => some c2)
def ag0 (all : LL) (inv : List Bool) (a18 : LL × (List Int)) : Int → Unit → Option (Unit ⊕ Bool) := fun kv6 _ => Option.bind (ix a18.1 kv6) fun a31 => Option.bind (y5 all a31) fun a33 => Option.bind (ix inv a33) fun a34 => if (!a34) = true then some (.inr false) else some (.inl ())
noncomputable def af1 (ov : b9) (all : LL) (inv : List Bool) (sv : List Int) (op : Int) : Option Bool := Option.bind (G5 ov sv op) fun a18 => (Option.bind (rngX 0 (a18.1.length : Int) (ag0 all inv a18) ()) fun | .inl _ => some true | .inr x => some x)
def ai2 (all : LL) (value : List Int) (a20 : LL × (List Int)) : Int → Int → Option Int := fun kv7 nv6 => Option.bind (Option.bind (ix a20.1 kv7) fun a33 => Option.bind (y5 all a33) fun a35 => Option.bind (ix value a35) fun a36 => if a36 < nv6 then some a36 else some nv6) fun nv8 => some nv8
noncomputable def ah0 (ov : b9) (all : LL) (value : List Int) (sv : List Int) (op : Int) : Option Int := Option.bind (G5 ov sv op) fun a20 => (Option.bind (forR 0 (a20.1.length : Int) (ai2 all value a20) 1000000000) fun nv6 => some nv6)
noncomputable def W5 (ov : b9) (all : LL) (value : List Int) (sv : List Int) : Int → Unit → Option (Unit ⊕ Int) := fun op5 _ => Option.bind (Option.bind (C9 ov sv op5) fun a20 => if a20 = true then Option.bind (ag2 value) fun a25 => Option.bind (af1 ov all a25 sv op5) fun a28 => if a28 = true then Option.bind (ah0 ov all value sv op5) fun a36 => Option.bind (y5 all sv) fun a40 => Option.bind (ix value a40) fun a41 => some (decide (a36 < a41)) else some false else some false) fun t6 => if t6 = true then some (.inr op5) else some (.inl ())
noncomputable def L5 (ov : b9) (all : LL) (value : List Int) (sv : List Int) : Option Int := (Option.bind (rngX 0 (ov.operators.length : Int) (W5 ov all value sv) ()) fun | .inl _ => some (-1) | .inr x => some x)
def T2 (ov : b9) (c5 : List d7) (a19 : LL) : Int → Int → Option Int := fun iv7 fresh6 => Option.bind (Option.bind (Option.bind (ix a19 iv7) fun a29 => Option.bind (K2 ov a29) fun a31 => if (!a31) = true then Option.bind (ix a19 iv7) fun a37 => Option.bind (F1 c5 a37) fun a39 => some (decide (a39 < 0)) else some false) fun t10 => if t10 = true then some iv7 else some fresh6) fun fresh8 => some fresh8
noncomputable def T9 (c5 : List d7) (a48 : List Int) : ((List d7) × Int) → Option (((List d7) × Int) ⊕ ((List d7) × Int)) := fun (c21, kv22) => Option.bind (if kv22 < (c5.length : Int) then Option.bind (ix c5 kv22) fun a77 => Option.bind (H2 a77.state a48) fun a81 => some a81 else some false) fun t25 => if t25 = true then Option.bind (ix c5 kv22) fun a86 => Option.bind (app 32 c21 [a86]) fun a89 => some (.inl (a89, w64 (kv22 + 1))) else some (.inr (c21, kv22))
noncomputable def U0 (ov : b9) (all : LL) (value : List Int) (kind : Int) : (List d7) → Option ((List d7) ⊕ (List d7)) := fun c5 => Option.bind (Q4 ov c5) fun a19 => (Option.bind (forR 0 (a19.length : Int) (T2 ov c5 a19) (-1)) fun fresh6 => if fresh6 < 0 then some (.inr c5) else Option.bind (ix a19 fresh6) fun a48 => Option.bind (y5 all a48) fun a53 => Option.bind (ix value a53) fun a54 => Option.bind (if kind = 1 then Option.bind (D1 ov all value a48) fun a62 => some a62 else some a54) fun op15 => Option.bind (if kind = 2 then Option.bind (L5 ov all value a48) fun a69 => some a69 else some op15) fun op18 => Option.bind (Loop (T9 c5 a48) ([], 0)) fun ⟨c23, kv24⟩ => Option.bind (app 32 c23 [(⟨a48, op18⟩ : d7)]) fun a97 => Option.bind (subL c5 kv24 (c5.length : Int)) fun a100 => Option.bind (app 32 a97 a100) fun a101 => some (.inl a101))
noncomputable def V7 (ov : b9) (all : LL) (value : List Int) (kind : Int) : Option (List d7) := Option.bind (Loop (U0 ov all value kind) []) fun x => some x
noncomputable def E8 (ov : b9) : Option Bool := Option.bind (o6 ov) fun a12 => Option.bind (H3 ov) fun a17 => if a17.code = 0 then Option.bind (p7 ov 200) fun a38 => if (!a38.2) = true then Option.bind (G9) fun a43 => some a43 else Option.bind (X3 ov a38.1) fun a46 => Option.bind (y5 a38.1 ov.init) fun a51 => Option.bind (ix a46 a51) fun a52 => if 1000000000 ≤ a52 then Option.bind (if a12.2.2.code = 0 then if (!a12.2.1) = true then if (a12.1.length : Int) = 0 then Option.bind (G9) fun a68 => some a68 else some false else some false else some false) fun t10 => some t10 else Option.bind (if a12.2.2.code = 0 then if a12.2.1 = true then Option.bind (V7 ov a38.1 a46 1) fun a81 => Option.bind (L8 a12.1 a81) fun a82 => if a82 = true then Option.bind (G9) fun a85 => some a85 else some false else some false else some false) fun t15 => some t15 else Option.bind (if ((decide (a12.2.2.code = a17.code)) && (decide (a12.2.2.index = a17.index))) = true then if (!a12.2.1) = true then if (a12.1.length : Int) = 0 then Option.bind (G9) fun a34 => some a34 else some false else some false else some false) fun t3 => some t3
noncomputable def D9 (ov : b9) (p : List d7) : Int → Unit → Option (Unit ⊕ k6) := fun iv5 _ => Option.bind (Option.bind (ix p iv5) fun a25 => Option.bind (E9 a25.state ov.facts) fun a30 => if (!a30) = true then some true else if 0 < iv5 then Option.bind (ix p (iv5 - 1)) fun a39 => Option.bind (ix p iv5) fun a44 => Option.bind (H2 a39.state a44.state) fun a47 => some (!a47) else some false) fun t6 => if t6 = true then Option.bind (J0 5 (w64 ((-9) - iv5))) fun a53 => some (.inr a53) else Option.bind (ix p iv5) fun a56 => Option.bind (O4 a56.operator 0 (w64 ((ov.operators.length : Int) - 1))) fun a63 => if (!a63) = true then Option.bind (J0 3 (w64 ((-9) - iv5))) fun a67 => some (.inr a67) else Option.bind (ix p iv5) fun a71 => Option.bind (ix p iv5) fun a76 => Option.bind (C9 ov a71.state a76.operator) fun a79 => if (!a79) = true then Option.bind (J0 11 (w64 ((-9) - iv5))) fun a83 => some (.inr a83) else some (.inl ())
noncomputable def ad1 (ov : b9) (p : List d7) : Option k6 := Option.bind (H3 ov) fun a8 => if a8.code = 0 then if 200 < (p.length : Int) then Option.bind (J0 2 (-8)) fun a16 => some a16 else (Option.bind (rngX 0 (p.length : Int) (D9 ov p) ()) fun | .inl _ => some (⟨0, 0⟩ : k6) | .inr x => some x) else some a8
end Ab
end
section
namespace Ab
open Go
mutual
theorem C.no_ok0 {id : Id} : ∀ c : C, c.ok 0 = true → c.no id = true
 | .imm _, _ => rfl
 | .own _ _ _, h => by simp [C.ok] at h
 | .ptr _ _ _, h => by simp [C.ok] at h
 | .fn _ caps, h => C.noL_ok0 caps h
 | .ifc _ cs _, h => C.noL_ok0 cs h
 | .map _, h => by simp [C.ok] at h
theorem C.noL_ok0 {id : Id} : ∀ l : List C, C.okL 0 l = true → C.noL id l = true
 | [], _ => rfl
 | c :: r, h => by
  simp only [C.okL, Bool.and_eq_true] at h
  simp only [C.noL, Bool.and_eq_true]
  exact ⟨C.no_ok0 c h.1, C.noL_ok0 r h.2⟩
end
theorem fnNo {id : Id} {f : FuncId} {cv : List C} (h : C.okL 0 cv = true) : (C.fn f cv).no id = true := C.noL_ok0 cv h
theorem fnOk {n : Nat} {f : FuncId} {cv : List C} (h : C.okL 0 cv = true) : (C.fn f cv).ok n = true := C.okL_mono (Nat.zero_le n) cv h
theorem fnMv {π : Id → Id} {o : Option T} {f : FuncId} {cv : List C} (h : C.okL 0 cv = true) (e : o = some (.c (.fn f cv))) : o = some ((T.c (.fn f cv)).ren π) := by
 rw [e]
 simp only [T.ren, C.ren]
 rw [C.renL_ok (m := 0) (fun i hi => absurd hi (Nat.not_lt_zero _)) cv h]
theorem eOk1 {n t : Nat} {v : T} {r : Env} (h : v.ok n = true) (hr : envOk n r = true) : envOk n ((t, v) :: r) = true := by
 simp only [envOk, h, hr, Bool.and_self]
section
open Go.Proofs
variable {P : Program} {σ0 : b6} {sz : Nat} {Q : Post} {env : Env} {σv : b6} {ops : Array Oper} {rest : List Oper}
def XAny (id : Id) (k : Nat) (es : List (List I)) : C → C → Prop := fun c c' => c.frz id k es = c'
theorem AOps.frzB {e : List I} {id : Id} {k : Nat} {env2 : Env} {σ1 σ2 : b6} (hid : Nat.ble σ0.length id.1 = true) (hσ : σv[id]? = some (some (Blk.im k [e]))) (henv : S4 id (XAny id k [e]) env env2) (h1 : putF σv id none = some σ1) (hst : FrzS id (XAny id k [e]) σ1 σ2)
  (h : AOps P σ0 sz ops Q rest (St.mk env2 σ2)) : AOps P σ0 sz ops Q rest (St.mk env σv) := AOps.sub (Sub.frzX (fun _ _ h => h) hid hσ henv h1 hst) h
end
end Ab
end
section
namespace Go.Proofs
open Go.Shelf
def Tryz.lays189_ren : Go.Shelf.Ren := ⟨fun | 189 => 90 | 125 => 108 | 257 => 107 | 128 => 126 | 129 => 127 | 294 => 118 | 295 => 119 | 296 => 120 | 297 => 121 | 298 => 122 | 299 => 123 | 216 => 105 | 300 => 124 | 301 => 125 | 328 => 139 | 329 => 140 | 330 => 141 | 331 => 142 | 332 => 143 | 215 => 113 | 343 => 148 | n => n, fun | 28 => 22 | 3 => 3 | 46 => 87 | 0 => 0 | 51 => 116 | 53 => 119 | 4 => 4 | 183 => 126 | 182 => 125 | 131 => 81 | 5 => 5 | 9 => 9 | 218 => 139 | 222 => 143 | 228 => 148 | 229 => 149 | n => n, fun | n => n⟩
theorem Tryz.lays189 : Go.Proofs.Lays.n189 Tryz.prog Tryz.lays189_ren := {
 mixed := by kernel_rfl
 f125 := Tryz.func108.trans (congrArg some (by kernel_rfl))
 f128 := Tryz.func126.trans (congrArg some (by kernel_rfl))
 f129 := Tryz.func127.trans (congrArg some (by kernel_rfl))
 f189 := Tryz.func90.trans (congrArg some (by kernel_rfl))
 f215 := Tryz.func113.trans (congrArg some (by kernel_rfl))
 f216 := Tryz.func105.trans (congrArg some (by kernel_rfl))
 f257 := Tryz.func107.trans (congrArg some (by kernel_rfl))
 f294 := Tryz.func118.trans (congrArg some (by kernel_rfl))
 f295 := Tryz.func119.trans (congrArg some (by kernel_rfl))
 f296 := Tryz.func120.trans (congrArg some (by kernel_rfl))
 f297 := Tryz.func121.trans (congrArg some (by kernel_rfl))
 f298 := Tryz.func122.trans (congrArg some (by kernel_rfl))
 f299 := Tryz.func123.trans (congrArg some (by kernel_rfl))
 f300 := Tryz.func124.trans (congrArg some (by kernel_rfl))
 f301 := Tryz.func125.trans (congrArg some (by kernel_rfl))
 f328 := Tryz.func139.trans (congrArg some (by kernel_rfl))
 f329 := Tryz.func140.trans (congrArg some (by kernel_rfl))
 f330 := Tryz.func141.trans (congrArg some (by kernel_rfl))
 f331 := Tryz.func142.trans (congrArg some (by kernel_rfl))
 f332 := Tryz.func143.trans (congrArg some (by kernel_rfl))
 f343 := Tryz.func148.trans (congrArg some (by kernel_rfl))
 t0 := Tryz.underlying0
 a0 := Tryz.isAgg0
 z0 := Tryz.sizeOf0
 v0 := Tryz.zeroValue0
 t3 := Tryz.underlying3
 a3 := Tryz.isAgg3
 z3 := Tryz.sizeOf3
 v3 := Tryz.zeroValue3
 t4 := Tryz.underlying4
 a4 := Tryz.isAgg4
 z4 := Tryz.sizeOf4
 v4 := Tryz.zeroValue4
 t5 := Tryz.underlying5
 a5 := Tryz.isAgg5
 z5 := Tryz.sizeOf5
 v5 := Tryz.zeroValue5
 t9 := Tryz.underlying9
 a9 := Tryz.isAgg9
 z9 := Tryz.sizeOf9
 v9 := Tryz.zeroValue9
 t28 := Tryz.underlying22
 a28 := Tryz.isAgg22
 z28 := Tryz.sizeOf22
 v28 := Tryz.zeroValue22
 t46 := Tryz.underlying87
 a46 := Tryz.isAgg87
 z46 := Tryz.sizeOf87
 v46 := Tryz.zeroValue87
 t51 := Tryz.underlying116
 a51 := Tryz.isAgg116
 z51 := Tryz.sizeOf116
 v51 := Tryz.zeroValue116
 t53 := Tryz.underlying119
 a53 := Tryz.isAgg119
 z53 := Tryz.sizeOf119
 v53 := Tryz.zeroValue119
 t131 := Tryz.underlying81
 a131 := Tryz.isAgg81
 z131 := Tryz.sizeOf81
 v131 := Tryz.zeroValue81
 t182 := Tryz.underlying125
 a182 := Tryz.isAgg125
 z182 := Tryz.sizeOf125
 v182 := Tryz.zeroValue125
 t183 := Tryz.underlying126
 a183 := Tryz.isAgg126
 z183 := Tryz.sizeOf126
 v183 := Tryz.zeroValue126
 t218 := Tryz.underlying139
 a218 := Tryz.isAgg139
 z218 := Tryz.sizeOf139
 v218 := Tryz.zeroValue139
 t222 := Tryz.underlying143
 a222 := Tryz.isAgg143
 z222 := Tryz.sizeOf143
 v222 := Tryz.zeroValue143
 t228 := Tryz.underlying148
 a228 := Tryz.isAgg148
 z228 := Tryz.sizeOf148
 v228 := Tryz.zeroValue148
 t229 := Tryz.underlying149
 a229 := Tryz.isAgg149
 z229 := Tryz.sizeOf149
 v229 := Tryz.zeroValue149 }
open Go.Sort Go.RowKit in
theorem Tryz.slices_Sort_int (blk off cap : Nat) (zs : List Int) (w : World) (hH : Holds (Value.int .i64) w blk off zs.toArray) (hblk : blk < w.heap.size) (hsz : zs.length < 4611686018427387904) :
  Calls Tryz.prog 90 #[.slice (some ⟨blk, off, none⟩) zs.length cap] w fun e w' =>
   e = .returned (.tuple #[]) ∧ ∃ n os, w' = grow (putRow (Value.int .i64) (Sort.ahead w n) blk off (zs.mergeSort fun x y => decide (x ≤ y)).toArray) os := Any.slices_Sort_int Tryz.lays189 blk off cap zs w hH hblk hsz
def Tryz.laysNm220_ren : Go.Shelf.Ren := ⟨fun | 20 => 91 | n => n, fun | 22 => 22 | 3 => 3 | 4 => 4 | 0 => 0 | n => n, fun | n => n⟩
theorem Tryz.laysNm220 : Go.Proofs.Lays2.n20 Tryz.prog Tryz.laysNm220_ren := {
 mixed := by kernel_rfl
 f20 := Tryz.func91.trans (congrArg some (by kernel_rfl))
 t0 := Tryz.underlying0
 a0 := Tryz.isAgg0
 z0 := Tryz.sizeOf0
 v0 := Tryz.zeroValue0
 t3 := Tryz.underlying3
 a3 := Tryz.isAgg3
 z3 := Tryz.sizeOf3
 v3 := Tryz.zeroValue3
 t4 := Tryz.underlying4
 a4 := Tryz.isAgg4
 z4 := Tryz.sizeOf4
 v4 := Tryz.zeroValue4
 t22 := Tryz.underlying22
 a22 := Tryz.isAgg22
 z22 := Tryz.sizeOf22
 v22 := Tryz.zeroValue22
 i3 := by kernel_rfl }
open Go.RowKit Go.Lib Go.Sort in
theorem Tryz.slices_Compact_int (blk off cap : Nat) (zs : List Int) (w : World) (hH : Holds (Value.int .i64) w blk off zs.toArray) (hsz : zs.length ≤ 9223372036854775807) (hcap : zs.length ≤ cap) :
  Calls Tryz.prog 91 #[.slice (some ⟨blk, off, none⟩) zs.length cap] w fun e w' => e = .returned (.slice (some ⟨blk, off, none⟩) (Lib.compact zs).length cap) ∧ ∃ q, w' = putRow (Value.int .i64) (Sort.ahead w q) blk off (Lib.compact zs ++ List.replicate (zs.length - (Lib.compact zs).length) 0).toArray := Any.slices_Compact_int Tryz.laysNm220 blk off cap zs w hH hsz hcap
open Go.RowKit Go.Lib Go.Sort in
theorem Tryz.slices_Compact_int_empty (a : Option Addr) (cap : Nat) (w : World) :
  Calls Tryz.prog 91 #[.slice a 0 cap] w fun e w' => e = .returned (.slice a 0 cap) ∧ w' = w := Any.slices_Compact_int_empty Tryz.laysNm220 a cap w
open Go.RowKit Go.Sort in
theorem Tryz.slices_Sort_int_none (p : Option Addr) (cap : Nat) (w : World) :
  Calls Tryz.prog 90 #[.slice p 0 cap] w fun e w' => e = .returned (.tuple #[]) ∧ w' = w := Any.slices_Sort_int_none Tryz.lays189 p cap w
def Tryz.laysSlF6_f99_ren : Go.Shelf.Ren := ⟨fun | 6 => 99 | 15 => 108 | 14 => 115 | 28 => 126 | 29 => 127 | 20 => 131 | 21 => 132 | 22 => 133 | 23 => 134 | 24 => 135 | 25 => 136 | 26 => 137 | 27 => 138 | 46 => 145 | 47 => 140 | 48 => 141 | 49 => 146 | 50 => 147 | 57 => 153 | n => n, fun | 22 => 33 | 24 => 22 | 25 => 83 | 3 => 3 | 39 => 87 | 0 => 0 | 53 => 116 | 55 => 119 | 4 => 4 | 46 => 126 | 45 => 125 | 50 => 81 | 5 => 5 | 9 => 9 | 66 => 139 | 70 => 143 | 76 => 148 | 77 => 149 | n => n, fun | n => n⟩
theorem Tryz.laysSlF6_f99 : Go.Proofs.SlLaysF.n6 Tryz.prog Tryz.laysSlF6_f99_ren := {
 mixed := by kernel_rfl
 f6 := ⟨Tryz.f99.name, by decide, Tryz.func99.trans (congrArg some (by kernel_rfl))⟩
 f14 := ⟨Tryz.f115.name, by decide, Tryz.func115.trans (congrArg some (by kernel_rfl))⟩
 f15 := Tryz.func108.trans (congrArg some (by kernel_rfl))
 f20 := ⟨Tryz.f131.name, by decide, Tryz.func131.trans (congrArg some (by kernel_rfl))⟩
 f21 := ⟨Tryz.f132.name, by decide, Tryz.func132.trans (congrArg some (by kernel_rfl))⟩
 f22 := ⟨Tryz.f133.name, by decide, Tryz.func133.trans (congrArg some (by kernel_rfl))⟩
 f23 := ⟨Tryz.f134.name, by decide, Tryz.func134.trans (congrArg some (by kernel_rfl))⟩
 f24 := ⟨Tryz.f135.name, by decide, Tryz.func135.trans (congrArg some (by kernel_rfl))⟩
 f25 := ⟨Tryz.f136.name, by decide, Tryz.func136.trans (congrArg some (by kernel_rfl))⟩
 f26 := ⟨Tryz.f137.name, by decide, Tryz.func137.trans (congrArg some (by kernel_rfl))⟩
 f27 := ⟨Tryz.f138.name, by decide, Tryz.func138.trans (congrArg some (by kernel_rfl))⟩
 f28 := Tryz.func126.trans (congrArg some (by kernel_rfl))
 f29 := Tryz.func127.trans (congrArg some (by kernel_rfl))
 f46 := ⟨Tryz.f145.name, by decide, Tryz.func145.trans (congrArg some (by kernel_rfl))⟩
 f47 := Tryz.func140.trans (congrArg some (by kernel_rfl))
 f48 := Tryz.func141.trans (congrArg some (by kernel_rfl))
 f49 := ⟨Tryz.f146.name, by decide, Tryz.func146.trans (congrArg some (by kernel_rfl))⟩
 f50 := ⟨Tryz.f147.name, by decide, Tryz.func147.trans (congrArg some (by kernel_rfl))⟩
 f57 := ⟨Tryz.f153.name, by decide, Tryz.func153.trans (congrArg some (by kernel_rfl))⟩
 t0 := Tryz.underlying0
 a0 := Tryz.isAgg0
 z0 := Tryz.sizeOf0
 v0 := Tryz.zeroValue0
 t3 := Tryz.underlying3
 a3 := Tryz.isAgg3
 z3 := Tryz.sizeOf3
 v3 := Tryz.zeroValue3
 t4 := Tryz.underlying4
 a4 := Tryz.isAgg4
 z4 := Tryz.sizeOf4
 v4 := Tryz.zeroValue4
 t5 := Tryz.underlying5
 a5 := Tryz.isAgg5
 z5 := Tryz.sizeOf5
 v5 := Tryz.zeroValue5
 t9 := Tryz.underlying9
 a9 := Tryz.isAgg9
 z9 := Tryz.sizeOf9
 v9 := Tryz.zeroValue9
 t22 := Tryz.underlying33
 a22 := Tryz.isAgg33
 z22 := Tryz.sizeOf33
 v22 := Tryz.zeroValue33
 a24 := Tryz.isAgg22
 z24 := Tryz.sizeOf22
 t25 := Tryz.underlying83
 a25 := Tryz.isAgg83
 z25 := Tryz.sizeOf83
 v25 := Tryz.zeroValue83
 t39 := Tryz.underlying87
 a39 := Tryz.isAgg87
 z39 := Tryz.sizeOf87
 v39 := Tryz.zeroValue87
 t45 := Tryz.underlying125
 a45 := Tryz.isAgg125
 z45 := Tryz.sizeOf125
 v45 := Tryz.zeroValue125
 t46 := Tryz.underlying126
 a46 := Tryz.isAgg126
 z46 := Tryz.sizeOf126
 v46 := Tryz.zeroValue126
 t50 := Tryz.underlying81
 a50 := Tryz.isAgg81
 z50 := Tryz.sizeOf81
 v50 := Tryz.zeroValue81
 t53 := Tryz.underlying116
 a53 := Tryz.isAgg116
 z53 := Tryz.sizeOf116
 v53 := Tryz.zeroValue116
 t55 := Tryz.underlying119
 a55 := Tryz.isAgg119
 z55 := Tryz.sizeOf119
 v55 := Tryz.zeroValue119
 t66 := Tryz.underlying139
 a66 := Tryz.isAgg139
 z66 := Tryz.sizeOf139
 v66 := Tryz.zeroValue139
 t70 := Tryz.underlying143
 a70 := Tryz.isAgg143
 z70 := Tryz.sizeOf143
 v70 := Tryz.zeroValue143
 t76 := Tryz.underlying148
 a76 := Tryz.isAgg148
 z76 := Tryz.sizeOf148
 v76 := Tryz.zeroValue148
 t77 := Tryz.underlying149
 a77 := Tryz.isAgg149
 z77 := Tryz.sizeOf149
 v77 := Tryz.zeroValue149 }
open Go.RowKit Go.Lib Go.Sort in
theorem Tryz.slices_SortFunc {α : Type} [Inhabited α] (enc : α → Value) (h1 : OneCell enc) (cf : α → α → Int) (hO : SWO (ltOf cf)) (g : Nat) (cb : Array Value) (blk off cap : Nat) (d : Array α) (w : World) (eg : ∀ args w, (callFunc g args).run Tryz.prog w = .ok (.enter g args) w) (hcmp : CmpLays1 Tryz.prog g cb enc cf blk off d.size w) (hH : Holds enc w blk off d) (hblk : blk < w.heap.size) (hsz : d.size < 4611686018427387904) :
  Calls Tryz.prog 99 #[.slice (some ⟨blk, off, none⟩) d.size cap, .func (.func g) #[] cb] w fun e w' =>
   e = .returned (.tuple #[]) ∧ ∃ d' n os, PermIn 0 d.size d d' ∧ SortedIn (ltOf cf) 0 d.size d' ∧ w' = sortWorld enc w blk off n d' os := Any.slices_SortFunc Tryz.laysSlF6_f99 enc h1 cf hO g cb blk off cap d w eg hcmp hH hblk hsz
def Tryz.laysSlF06_f99_ren : Go.Shelf.Ren := ⟨fun | 6 => 99 | 15 => 108 | 14 => 115 | 28 => 126 | 29 => 127 | 20 => 131 | 21 => 132 | 22 => 133 | 23 => 134 | 24 => 135 | 25 => 136 | 26 => 137 | 27 => 138 | 46 => 145 | 47 => 140 | 48 => 141 | 49 => 146 | 50 => 147 | 57 => 153 | n => n, fun | 22 => 33 | 24 => 22 | 25 => 83 | 3 => 3 | 39 => 87 | 0 => 0 | 53 => 116 | 55 => 119 | 4 => 4 | 46 => 126 | 45 => 125 | 50 => 81 | 5 => 5 | 9 => 9 | 66 => 139 | 70 => 143 | 76 => 148 | 77 => 149 | n => n, fun | n => n⟩
theorem Tryz.laysSlF06_f99 : Go.Proofs.SlLaysF0.n6 Tryz.prog Tryz.laysSlF06_f99_ren := {
 mixed := by kernel_rfl
 f6 := ⟨Tryz.f99.name, by decide, Tryz.func99.trans (congrArg some (by kernel_rfl))⟩
 f14 := ⟨Tryz.f115.name, by decide, Tryz.func115.trans (congrArg some (by kernel_rfl))⟩
 f15 := Tryz.func108.trans (congrArg some (by kernel_rfl))
 f20 := ⟨Tryz.f131.name, by decide, Tryz.func131.trans (congrArg some (by kernel_rfl))⟩
 f21 := ⟨Tryz.f132.name, by decide, Tryz.func132.trans (congrArg some (by kernel_rfl))⟩
 f22 := ⟨Tryz.f133.name, by decide, Tryz.func133.trans (congrArg some (by kernel_rfl))⟩
 f23 := ⟨Tryz.f134.name, by decide, Tryz.func134.trans (congrArg some (by kernel_rfl))⟩
 f24 := ⟨Tryz.f135.name, by decide, Tryz.func135.trans (congrArg some (by kernel_rfl))⟩
 f25 := ⟨Tryz.f136.name, by decide, Tryz.func136.trans (congrArg some (by kernel_rfl))⟩
 f26 := ⟨Tryz.f137.name, by decide, Tryz.func137.trans (congrArg some (by kernel_rfl))⟩
 f27 := ⟨Tryz.f138.name, by decide, Tryz.func138.trans (congrArg some (by kernel_rfl))⟩
 f28 := Tryz.func126.trans (congrArg some (by kernel_rfl))
 f29 := Tryz.func127.trans (congrArg some (by kernel_rfl))
 f46 := ⟨Tryz.f145.name, by decide, Tryz.func145.trans (congrArg some (by kernel_rfl))⟩
 f47 := Tryz.func140.trans (congrArg some (by kernel_rfl))
 f48 := Tryz.func141.trans (congrArg some (by kernel_rfl))
 f49 := ⟨Tryz.f146.name, by decide, Tryz.func146.trans (congrArg some (by kernel_rfl))⟩
 f50 := ⟨Tryz.f147.name, by decide, Tryz.func147.trans (congrArg some (by kernel_rfl))⟩
 f57 := ⟨Tryz.f153.name, by decide, Tryz.func153.trans (congrArg some (by kernel_rfl))⟩
 t0 := Tryz.underlying0
 a0 := Tryz.isAgg0
 z0 := Tryz.sizeOf0
 v0 := Tryz.zeroValue0
 t3 := Tryz.underlying3
 a3 := Tryz.isAgg3
 z3 := Tryz.sizeOf3
 v3 := Tryz.zeroValue3
 t4 := Tryz.underlying4
 a4 := Tryz.isAgg4
 z4 := Tryz.sizeOf4
 v4 := Tryz.zeroValue4
 t5 := Tryz.underlying5
 a5 := Tryz.isAgg5
 z5 := Tryz.sizeOf5
 v5 := Tryz.zeroValue5
 t9 := Tryz.underlying9
 a9 := Tryz.isAgg9
 z9 := Tryz.sizeOf9
 v9 := Tryz.zeroValue9
 t22 := Tryz.underlying33
 a22 := Tryz.isAgg33
 z22 := Tryz.sizeOf33
 v22 := Tryz.zeroValue33
 t25 := Tryz.underlying83
 a25 := Tryz.isAgg83
 z25 := Tryz.sizeOf83
 v25 := Tryz.zeroValue83
 t39 := Tryz.underlying87
 a39 := Tryz.isAgg87
 z39 := Tryz.sizeOf87
 v39 := Tryz.zeroValue87
 t45 := Tryz.underlying125
 a45 := Tryz.isAgg125
 z45 := Tryz.sizeOf125
 v45 := Tryz.zeroValue125
 t46 := Tryz.underlying126
 a46 := Tryz.isAgg126
 z46 := Tryz.sizeOf126
 v46 := Tryz.zeroValue126
 t50 := Tryz.underlying81
 a50 := Tryz.isAgg81
 z50 := Tryz.sizeOf81
 v50 := Tryz.zeroValue81
 t53 := Tryz.underlying116
 a53 := Tryz.isAgg116
 z53 := Tryz.sizeOf116
 v53 := Tryz.zeroValue116
 t55 := Tryz.underlying119
 a55 := Tryz.isAgg119
 z55 := Tryz.sizeOf119
 v55 := Tryz.zeroValue119
 t66 := Tryz.underlying139
 a66 := Tryz.isAgg139
 z66 := Tryz.sizeOf139
 v66 := Tryz.zeroValue139
 t70 := Tryz.underlying143
 a70 := Tryz.isAgg143
 z70 := Tryz.sizeOf143
 v70 := Tryz.zeroValue143
 t76 := Tryz.underlying148
 a76 := Tryz.isAgg148
 z76 := Tryz.sizeOf148
 v76 := Tryz.zeroValue148
 t77 := Tryz.underlying149
 a77 := Tryz.isAgg149
 z77 := Tryz.sizeOf149
 v77 := Tryz.zeroValue149 }
open Go.RowKit Go.Lib Go.Sort in
theorem Tryz.slices_SortFunc_none {α : Type} [Inhabited α] (p : Option Addr) (cap : Nat) (fv : Value) (w : World) :
  Calls Tryz.prog 99 #[.slice p 0 cap, fv] w fun e w' => e = .returned (.tuple #[]) ∧ w' = w := AnyF.slices_SortFunc_none Tryz.laysSlF06_f99 p cap fv w
end Go.Proofs
end
section
namespace Ab
open Go Go.Proofs
theorem sort_facts : R1 Tryz.prog 90 := ⟨_, Tryz.func90, rfl, rfl⟩
theorem compact_facts : R1 Tryz.prog 91 := ⟨_, Tryz.func91, rfl, rfl⟩
theorem sortL_ok : SortOk Tryz.prog 90 := fun hσ hl => sort_fn sort_facts (fun blk off cap zs w hH hb hs => Tryz.slices_Sort_int blk off cap zs w hH hb hs) (fun p cap w => Tryz.slices_Sort_int_none p cap w) hσ hl
theorem compactL_ok : CompactOk Tryz.prog 91 := fun hσ => compact_fn compact_facts (fun blk off cap zs w hH hs hc => Tryz.slices_Compact_int blk off cap zs w hH hs hc) (fun a cap w => Tryz.slices_Compact_int_empty a cap w) hσ
end Ab
end
section
namespace Ab
open Go Go.Proofs
theorem sortF_facts : R1 Tryz.prog 99 := ⟨_, Tryz.func99, rfl, rfl⟩
theorem sortF_LLi64_ok : SortFOk Tryz.prog 99 := fun hgn hO hT hg _ _ _ hσ hl => sortF_fn sortF_facts hgn hO hT hg (fun β _ enc h1 cf hO g cb blk off cap d w eg hcmp hH hblk hsz => Tryz.slices_SortFunc enc h1 cf hO g cb blk off cap d w eg hcmp hH hblk hsz) (fun p cap fv w => Tryz.slices_SortFunc_none (α := Unit) p cap fv w) hσ hl
end Ab
end
