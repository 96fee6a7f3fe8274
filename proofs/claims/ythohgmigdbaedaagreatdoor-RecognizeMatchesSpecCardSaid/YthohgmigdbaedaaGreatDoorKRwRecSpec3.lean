/-
  Texts that the proof stands on.
-/
import Derived.Test.YthohgmigdbaedaaGreatDoorKRwRecSpec2
import Derived.Laws.CopyRow
import Derived.WalkSmall
import Derived.Laws.Cover3
import Derived.Shelf.Small.Bits
import Derived.Shelf.Strconv.Itoa0
import Derived.Shelf.Strconv.Itoa1
import Derived.Shelf.LaysM
import Derived.Shelf.Strconv.Itoa2
import Derived.Shelf.Sort.Plain
import Derived.Shelf.Strconv.AppendUint10
import Derived.Shelf.Bits.Mul64
import Derived.Shelf.Slices.Reverse
import Derived.Shelf.Slices.Equal
import Derived.Ground.Names2Prog
import Derived.Shelf.Slices.Clone
import Derived.Shelf.Slices.SearchI
import Derived.Shelf.Slices.Cells
import Derived.Shelf.Slices.In.SortNone
import Derived.Shelf.Slices.Empties
import Derived.Shelf.Slices.Empties2
import Derived.Ground.SlgnProg
import Derived.Shelf.SlicesE.Reverse
import Derived.Shelf.SlicesE.Clone
import Derived.Ground.SlsfProg
import Derived.Shelf.SlSortCmp.Insertion
import Derived.Shelf.SlSortCmp.SiftDown1
import Derived.Shelf.SlSortCmp.HeapSort1
import Derived.Shelf.SlSortCmp.Insertion1
import Derived.Shelf.SlSortCmp.Median1
import Derived.Shelf.SlSortCmp.Pivot1
import Derived.Shelf.SlSortCmp.ReverseRange1
import Derived.Shelf.SlSortCmp.PartialInsertion1
import Derived.Shelf.SlSortCmp.PartitionEqual1
import Derived.Shelf.SlSortCmp.Partition1
import Derived.Shelf.SlSortCmp.Pdq1
import Derived.Shelf.SlSortCmp.NoneTotal
import Derived.Test.YthohgmigdbaedaaGreatDoorProg
set_option linter.all false
section
namespace Ab
open Go
def vw {α : Type} (l : List α) (off len : Int) : Option Unit := if 0 ≤ off ∧ 0 ≤ len ∧ off + len ≤ l.length then some () else none
def cutV (len lo hi : Int) : Option Unit := if 0 ≤ lo ∧ lo ≤ hi ∧ hi ≤ len then some () else none
def ixV {α : Type} (l : List α) (off len i : Int) : Option α := if 0 ≤ off ∧ 0 ≤ i ∧ i < len ∧ off + len ≤ l.length then ix l (off + i) else none
def k7 {α : Type} (l : List α) (off len : Int) : List α := (l.drop off.toNat).take len.toNat
def clrL {α : Type} (l : List α) (off len : Int) (z : α) : List α := l.take off.toNat ++ List.replicate len.toNat z ++ l.drop (off.toNat + len.toNat)
theorem M6 {α : Type} {l : List α} {off len : Int} {u : Unit} (h : vw l off len = some u) : 0 ≤ off ∧ 0 ≤ len ∧ off + len ≤ l.length := by
 unfold vw at h
 split at h
 ·assumption
 ·cases h
theorem ab5 {len lo hi : Int} {u : Unit} (h : cutV len lo hi = some u) : 0 ≤ lo ∧ lo ≤ hi ∧ hi ≤ len := by
 unfold cutV at h
 split at h
 ·assumption
 ·cases h
theorem ixV_get {α : Type} {l : List α} {off len i : Int} {a : α} (h : ixV l off len i = some a) : (0 ≤ off ∧ 0 ≤ i ∧ i < len ∧ off + len ≤ l.length) ∧ ix l (off + i) = some a := by
 unfold ixV at h
 split at h
 ·exact ⟨‹_›, h⟩
 ·cases h
theorem ixV_ix {α : Type} {l : List α} {off len i : Int} {a : α} (h : ixV l off len i = some a) : ix l (off + i) = some a := (ixV_get h).2
theorem viewL_len {α : Type} {l : List α} {off len : Int} {u : Unit} (h : vw l off len = some u) : (k7 l off len).length = len.toNat := by
 have := M6 h
 simp [k7]; omega
section
variable {α : Type} {f : α → List I} {l : List α} {P : Program} {σ0 : b7} {sz : Nat} {Q : Post} {env env' : Env} {σv σ' : b7} {ops : Array Oper} {rest : List Oper} {dst : Option Nat} {ty : TypeId} {pos : String} {after : Array Edge} {id : Id} {k : Nat}
theorem S.lenV {x : Operand} {t e : TypeId} {n : Int} {j : Nat} [ht : TyD P t (.slice e)] (hn : 0 ≤ n) (hx : ev env x = some (.c (.own id j n.toNat))) (hσ : σv[id]? = some (some (vec k f l))) (hd : g7 sz dst = true)
  (h : n ≤ 9223372036854775807 → AOps P σ0 sz ops Q rest (St.mk (putE env dst (.c (int n))) σv)) : AOps P σ0 sz ops Q (⟨dst, .call ⟨.builtin .len, #[x], #[t]⟩, ty, pos, after, none⟩ :: rest) (St.mk env σv) :=
 AOps.lenOwnB hx hσ hd fun hb => by
  have e1 : ((n.toNat : Nat) : Int) = n := by omega
  rw [e1]
  exact h (by omega)
theorem S.idxV {x y : Operand} {t e : TypeId} {bytes : Nat} {z : Value} {kk : IntKind} {off len i : Int} {a : α} [ht : TyD P t (.slice e)] [hs : TyS P e k bytes z]
  (he : ixV l off len i = some a) (hx : ev env x = some (.c (.own id off.toNat len.toNat))) (hσ : σv[id]? = some (some (vec k f l))) (hy : ev env y = some (.c (.imm (.val (.int kk i))))) (hd : g7 sz dst = true)
  (h : AOps P σ0 sz ops Q rest (St.mk (putE env dst (.c (.ptr id (off + i).toNat 0))) σv)) : AOps P σ0 sz ops Q (⟨dst, .indexAddr t x y, ty, pos, after, none⟩ :: rest) (St.mk env σv) := by
 obtain ⟨⟨h1, h2, h3, h4⟩, _⟩ := ixV_get he
 refine .indexAddrOwn hx hσ hy (by omega) hd ?_
 rw [show off.toNat + i.toNat = (off + i).toNat by omega]
 exact h
theorem S.vFrom {x y : Operand} {t e : TypeId} {bytes : Nat} {z : Value} {kk : IntKind} {off len lo : Int} {j n : Nat} {u u' : Unit} [ht : TyD P t (.slice e)] [hs : TyS P e k bytes z]
  (hv : vw l off len = some u) (hc : cutV len lo len = some u') (hx : ev env x = some (.c (.own id j n))) (hj : j = off.toNat) (hn : n = len.toNat) (hσ : σv[id]? = some (some (vec k f l))) (hy : ev env y = some (.c (.imm (.val (.int kk lo))))) (hd : g7 sz dst = true)
  (h : AOps P σ0 sz ops Q rest (St.mk (putE env dst (.c (.own id (off + lo).toNat (len - lo).toNat))) σv)) : AOps P σ0 sz ops Q (⟨dst, .slice t x (some y) none none, ty, pos, after, none⟩ :: rest) (St.mk env σv) := by
 have h1 := M6 hv; have h2 := ab5 hc
 subst hj hn
 have e1 : lo = ((lo.toNat : Nat) : Int) := by omega
 rw [e1] at hy
 refine AOps.sliceOwnFrom hx hσ hy (by omega) hd ?_
 rw [show off.toNat + lo.toNat = (off + lo).toNat by omega, show len.toNat - lo.toNat = (len - lo).toNat by omega]
 exact h
theorem S.vTo {x y : Operand} {t e : TypeId} {bytes : Nat} {z : Value} {kk : IntKind} {off len hi : Int} {j n : Nat} {u u' : Unit} [ht : TyD P t (.slice e)] [hs : TyS P e k bytes z]
  (hv : vw l off len = some u) (hc : cutV len 0 hi = some u') (hx : ev env x = some (.c (.own id j n))) (hj : j = off.toNat) (hn : n = len.toNat) (hσ : σv[id]? = some (some (vec k f l))) (hy : ev env y = some (.c (.imm (.val (.int kk hi))))) (hd : g7 sz dst = true)
  (h : AOps P σ0 sz ops Q rest (St.mk (putE env dst (.c (.own id off.toNat hi.toNat))) σv)) : AOps P σ0 sz ops Q (⟨dst, .slice t x none (some y) none, ty, pos, after, none⟩ :: rest) (St.mk env σv) := by
 have h1 := M6 hv; have h2 := ab5 hc
 subst hj hn
 have e1 : hi = ((hi.toNat : Nat) : Int) := by omega
 rw [e1] at hy
 exact AOps.sliceOwnTo hx hσ hy (by omega) hd h
theorem S.v3 {x y y' : Operand} {t e : TypeId} {bytes : Nat} {z : Value} {kk kk' : IntKind} {off len lo hi : Int} {j n : Nat} {u u' : Unit} [ht : TyD P t (.slice e)] [hs : TyS P e k bytes z]
  (hv : vw l off len = some u) (hc : cutV len lo hi = some u') (hx : ev env x = some (.c (.own id j n))) (hj : j = off.toNat) (hn : n = len.toNat) (hσ : σv[id]? = some (some (vec k f l))) (hy : ev env y = some (.c (.imm (.val (.int kk lo))))) (hy' : ev env y' = some (.c (.imm (.val (.int kk' hi))))) (hd : g7 sz dst = true)
  (h : AOps P σ0 sz ops Q rest (St.mk (putE env dst (.c (.own id (off + lo).toNat (hi - lo).toNat))) σv)) : AOps P σ0 sz ops Q (⟨dst, .slice t x (some y) (some y') none, ty, pos, after, none⟩ :: rest) (St.mk env σv) := by
 have h1 := M6 hv; have h2 := ab5 hc
 subst hj hn
 refine AOps.sliceOwn hx hσ hy hy' (by omega) hd ?_
 rw [show off.toNat + lo.toNat = (off + lo).toNat by omega, show hi.toNat - lo.toNat = (hi - lo).toNat by omega]
 exact h
def ReE (env : Env) (t : Nat) (c' : C) : Env → Prop
 | [] => True
 | (t', v) :: r => (t' = t ∧ v = .c c' ∨ lookup t' env = some v) ∧ ReE env t c' r
theorem ReE.get {t : Nat} {c' : C} : ∀ {env' : Env}, ReE env t c' env' → ∀ t' v, lookup t' env' = some v → t' = t ∧ v = .c c' ∨ lookup t' env = some v
 | [], _, t, v, h => by simp [lookup] at h
 | (k, x) :: r, ⟨h1, h2⟩, t', v, h => by
  simp only [lookup] at h
  split at h
  ·cases h
   rename_i e
   have : k = t' := by simpa using e
   subst this
   exact h1
  ·exact ReE.get h2 t' v h
theorem Sub.reown {off len : Int} {j n : Nat} {n' : Id} {σ1 : b7} {u : Unit} (t : Nat) (hv : vw l off len = some u) (hx : lookup t env = some (.c (.own id j n))) (hj : j = off.toNat) (hn : n = len.toNat) (hσ : σv[id]? = some (some (vec k f l))) (h0 : Nat.ble σ0.length id.1 = true) (hid : newF σv = some n')
  (h1 : putF σv id none = some σ1) (hσ' : u4 σ1 (.one (vec k f (k7 l off len))) = some σ') (henv : ReE env t (.own n' 0 (k7 l off len).length) env') : Sub σ0 ⟨env, σv⟩ ⟨env', σ'⟩ := fun Γ sz φ a w hΓ hR => by
 have h2 := B5 h1
 have h3 := B6 hid; have h4 := n8 hσ'
 have hvl := viewL_len hv
 have hvg := M6 hv
 subst hj hn h2 h3 h4
 have hidl := b7.lt_of hσ
 have at_new : (σv.put id none ++ [.one (vec k f (k7 l off len))])[((σv.length, []) : Id)]? = some (some (vec k f (k7 l off len))) := by
  rw [b7.get_right (by simp)]; simp; rfl
 obtain ⟨u0, hu0, hrel⟩ := hR.env t _ hx
 have ho := x7 hrel hσ
 have fin : ∀ (φ' : Phi) (hk : Kept w w φ φ' σv (σv.put id none ++ [.one (vec k f (k7 l off len))]) (Al Γ.N φ σv) (Al Γ.N φ' (σv.put id none ++ [.one (vec k f (k7 l off len))]))) (hs : Rs Γ (σv.put id none ++ [.one (vec k f (k7 l off len))]) φ' w) (hview : K8 w (φ' (σv.length, [])) k (k7 l off len).length 0 (k7 l off len).length u0),
   R Γ sz ⟨env', σv.put id none ++ [.one (vec k f (k7 l off len))]⟩ φ' a w := fun φ' hk hs hview => by
  have hR1 := hR.of hk hs
  refine { toRs := hs, defers := hR1.defers, asize := hR.asize, env := fun t' v' ht' => ?_ }
  rcases henv.get t' v' ht' with ⟨rfl, rfl⟩ | h
  ·refine ⟨u0, hu0, .c (.own (by simp) (by cases hrel with | c g2 => exact g2.one) fun k' es' he => ?_)⟩
   rw [at_new] at he
   cases he
   simpa using hview
  ·obtain ⟨u1, g1, g2⟩ := hR1.env t' v' h
   exact ⟨u1, g1, g2⟩
 rcases ho with ⟨p1, p2, p3, p4⟩ | ⟨b, base, cap, arr, ety, ad, hp, hvv, had, hcap, hmax, hjn, hbk, hsz⟩
 ·have hnil : k7 l off len = [] := List.eq_nil_of_length_eq_zero (by rw [hvl, p4])
  have hK := hR.toRs.kill id
  have hV := hK.2.virt k
  have e1 : σv.put id none ++ [.one (vec k f (k7 l off len))] = σv.put id none ++ [.one (.cells k [])] := by rw [hnil]; rfl
  rw [b7.length_put] at hV
  refine ⟨fun i => if i = (σv.length, []) then none else φ i, ?_⟩
  have := fin (fun i => if i = (σv.length, []) then none else φ i) (by rw [e1]; exact Kept.trans (Nat.le_refl _) hK.1 hV.1) (by rw [e1]; exact hV.2) (.inl ⟨by simp, p2, rfl, by rw [hnil]; rfl⟩)
  exact this
 ·obtain ⟨arr2, ety2, q1, q2, q3, q4⟩ := y9 hR hσ hp
  rw [hbk] at q1; cases q1
  have hO := Rs.reown (k := k) (base' := base + off.toNat * k) (es' := ((k7 l off len).map f).map (·.map C.imm)) (arr' := arr) hR.toRs hσ hp hbk (fun j e he => by
    have : ((k7 l off len).map f).map (·.map C.imm) = ((((l.map f).map (·.map C.imm)).drop off.toNat).take len.toNat) := by simp [k7, List.map_drop, List.map_take]
    rw [this, List.getElem?_take] at he
    split at he
    ·rw [List.getElem?_drop] at he
     exact q3 _ e he
    ·cases he) (by
    simp only [List.length_map, hvl]
    have : (off.toNat + cap) * k = off.toNat * k + cap * k := Nat.add_mul ..
    have : len.toNat * k ≤ cap * k := Nat.mul_le_mul_right k hcap
    omega) (fun j e o x he hx => by
    have : ((k7 l off len).map f).map (·.map C.imm) = ((((l.map f).map (·.map C.imm)).drop off.toNat).take len.toNat) := by simp [k7, List.map_drop, List.map_take]
    rw [this, List.getElem?_take] at he
    split at he
    ·rw [List.getElem?_drop] at he
     obtain ⟨u2, g1, g2⟩ := q4 _ e o x he hx
     refine ⟨u2, ?_, g2⟩
     rw [← g1, Nat.add_mul]
     congr 1; omega
    ·cases he)
  rw [Go.setRow_self w b arr ety (0, 0) hbk] at hO
  refine ⟨fun i => if i = (σv.length, []) then some (b, base + off.toNat * k) else φ i, ?_⟩
  refine fin _ hO.1 hO.2 (.inr ⟨b, base + off.toNat * k, cap, arr, ety, ad, by simp, ?_, fun hc => ?_, ?_, hmax, by omega, hbk, ?_⟩)
  ·rw [hvv, hvl]
  ·rw [had hc, Nat.zero_mul, Nat.add_zero]
  ·rw [hvl]; exact hcap
  ·have : (off.toNat + cap) * k = off.toNat * k + cap * k := Nat.add_mul ..
   rw [Nat.zero_add]; omega
theorem AWP.reown {c : Code} {off len : Int} {j n : Nat} {n' : Id} {σ1 : b7} {u : Unit} (t : Nat) (hv : vw l off len = some u) (hx : lookup t env = some (.c (.own id j n))) (hj : j = off.toNat) (hn : n = len.toNat) (hσ : σv[id]? = some (some (vec k f l))) (h0 : Nat.ble σ0.length id.1 = true) (hid : newF σv = some n')
  (h1 : putF σv id none = some σ1) (hσ' : u4 σ1 (.one (vec k f (k7 l off len))) = some σ') (henv : ReE env t (.own n' 0 (k7 l off len).length) env') (h : AWP P σ0 sz c Q ⟨env', σ'⟩) : AWP P σ0 sz c Q ⟨env, σv⟩ :=
 AWP.sub (Sub.reown t hv hx hj hn hσ h0 hid h1 hσ' henv) h
theorem zeroCells_one {v : Value} (n : Nat) : (Builtin.zeroCells #[v] n).toList = List.replicate n v := by
 refine List.ext_getElem? fun i => ?_
 simp only [Builtin.zeroCells, Array.toList_map, List.getElem?_map, List.getElem?_replicate]
 by_cases h : i < n
 ·have : (Array.range (n * (#[v] : Array Value).size)).toList[i]? = some i := by simp [h]
  rw [this, if_pos h]
  simp [Nat.mod_one]
 ·have : (Array.range (n * (#[v] : Array Value).size)).toList[i]? = none := by simp; omega
  rw [this, if_neg h]; rfl
theorem S.clear {x : Operand} {t e : TypeId} {bytes : Nat} {z : Value} {off len : Int} {j n : Nat} {u : Unit} {a0 : α} {c0 : C} [ht : TyD P t (.slice e)] [hs : TyS P e 1 bytes z] (hz1 : z.cells = #[z]) (hzc : z.oneCell' = true)
  (hf : (f a0).map C.imm = [c0]) (hrel : ∀ w φ σ A, RelC w φ σ A c0 z)
  (hv : vw l off len = some u) (hx : ev env x = some (.c (.own id j n))) (hj : j = off.toNat) (hn : n = len.toNat) (hσ : σv[id]? = some (some (vec 1 f l))) (hσ' : putF σv id (some (vec 1 f (clrL l off len a0))) = some σ')
  (h : AOps P σ0 sz ops Q rest (St.mk env σ')) : AOps P σ0 sz ops Q (⟨none, .call ⟨.builtin .clear, #[x], #[t]⟩, ty, pos, after, none⟩ :: rest) (St.mk env σv) := by
 have hvg := M6 hv
 have h2 := B5 hσ'
 subst hj hn h2
 refine .valueW rfl rfl (.tup []) (σv.put id (some (vec 1 f (clrL l off len a0)))) (fun Γ φ a w hR => ?_) h
 have tupR : ∀ {w φ σ A}, RelT w φ σ A (.tup []) (.tuple #[]) := fun {w φ σ A} => RelT.tup (ts := []) (fun _ => undef) fun i t h => by simp at h
 have ho := x7 (i7 hR hx) hσ
 have clen : (clrL l off len a0).length = l.length := by simp [clrL]; omega
 have nothing : len.toNat = 0 → clrL l off len a0 = l := fun e => by simp [clrL, e]
 have same : len.toNat = 0 → (execOp a.eval ⟨none, .call ⟨.builtin .clear, #[x], #[t]⟩, ty, pos, after, none⟩).run P w = .ok (.value (.tuple #[])) w → ∃ u w' φ', (execOp a.eval ⟨none, .call ⟨.builtin .clear, #[x], #[t]⟩, ty, pos, after, none⟩).run P w = .ok (.value u) w' ∧ RelT w' φ' (σv.put id (some (vec 1 f (clrL l off len a0)))) (Al Γ.N φ' (σv.put id (some (vec 1 f (clrL l off len a0))))) (.tup []) u ∧ R Γ sz ⟨env, σv.put id (some (vec 1 f (clrL l off len a0)))⟩ φ' a w' := fun e0 hrun => by
  rw [nothing e0]
  have hsub := Sub.blk (σ0 := Γ.σ0) (env := env) (id := id) (k := 1) (es := (l.map f).map (·.map C.imm)) (es' := (l.map f).map (·.map C.imm)) hσ rfl (fun i e' he => by
   rcases hR.st.blk _ _ hσ with ⟨_, g2⟩ | ⟨_, _, _, _, _, _, _, g4, _⟩
   ·rw [g2] at he; simp at he
   ·exact g4 i e' he) (fun i e' o x' he hx' => ⟨e', x', he, hx', fun _ _ _ _ _ hr => hr⟩)
  obtain ⟨φ', hR'⟩ := hsub Γ sz φ a w rfl hR
  exact ⟨_, w, φ', hrun, tupR, hR'⟩
 rcases ho with ⟨p1, p2, p3, p4⟩ | ⟨b, base, cap, arr, ety, ad, hp, hvv, had, hcap, hmax, hjn, hbk, hsz⟩
 ·exact same p4 (by simp [execOp, resolve, invoke, builtin, p2, Builtin.clear_, run_underlying ht.h])
 ·by_cases e0 : len.toNat = 0
  ·refine same e0 ?_
   rw [e0] at hvv
   simp [execOp, resolve, invoke, builtin, hvv, Builtin.clear_, run_underlying ht.h]
  ·have hc0 : 0 < cap := by omega
   have := had hc0
   subst this
   obtain ⟨arr2, ety2, q1, q2, q3, q4⟩ := y9 hR hσ hp
   rw [hbk] at q1; cases q1
   simp only [List.length_map] at q2 hjn
   have hst := run_storeCells_at P b (base + off.toNat * 1) ety (List.replicate len.toNat z) 0 arr w hbk (by simp; omega) (fun v hv => by rw [List.eq_of_mem_replicate hv]; exact hzc)
   simp only [Nat.add_zero, Nat.mul_one, List.length_replicate] at hst
   have hl1 : ∀ b : α, ((f b).map C.imm).length = (f b).length := fun b => by simp
   have hW := Rs.write (k := 1) (es' := ((clrL l off len a0).map f).map (·.map C.imm)) (arr' := (arr.toList.take (base + off.toNat) ++ List.replicate len.toNat z ++ arr.toList.drop (base + off.toNat + len.toNat)).toArray) hR.toRs hσ hp hbk (by simp [clen]) (by simp; omega) (fun i e' he => by
     simp only [List.map_map, List.getElem?_map, Option.map_eq_some_iff] at he
     obtain ⟨y, hy, rfl⟩ := he
     by_cases hyl : y ∈ l
     ·obtain ⟨i', hi'⟩ := List.getElem?_of_mem hyl
      exact q3 i' _ (by simp [hi'])
     ·have hy := List.mem_of_getElem? hy
      simp only [clrL, List.mem_append] at hy
      rcases hy with (hy | hy) | hy
      ·exact absurd (List.mem_of_mem_take hy) hyl
      ·rw [List.eq_of_mem_replicate hy]
       simp only [Function.comp_apply, hf]; rfl
      ·exact absurd (List.mem_of_mem_drop hy) hyl) (by simp; omega) (fun i e' o x' he hx' => by
     simp only [List.map_map, List.getElem?_map, Option.map_eq_some_iff, Function.comp_apply] at he
     obtain ⟨y, hy, rfl⟩ := he
     simp only [List.getElem?_toArray]
     have hsp := r9 arr.toList (List.replicate len.toNat z) (base + off.toNat) (base + (i * 1 + o)) (by simp; omega)
     simp only [List.length_replicate] at hsp
     rw [hsp]
     have hy' : (clrL l off len a0)[i]? = if off.toNat ≤ i ∧ i < off.toNat + len.toNat then some a0 else l[i]? := by
      have := r9 l (List.replicate len.toNat a0) off.toNat i (by simp; omega)
      simp only [List.length_replicate] at this
      rw [clrL, this]
      split
      ·rw [List.getElem?_replicate, if_pos (by omega)]
      ·rfl
     rw [hy'] at hy
     split at hy
     ·rename_i hi
      cases hy
      rw [hf] at hx'
      match o with
      | 0 =>
       cases hx'
       rw [if_pos (by omega), List.getElem?_replicate, if_pos (by omega)]
       exact ⟨z, rfl, hrel _ _ _ _⟩
      | o + 1 => simp at hx'
     ·rename_i hi
      have ho : o = 0 := by
       have h1 := q3 i ((f y).map C.imm) (by simp [hy])
       have := (List.getElem?_eq_some_iff.1 hx').1
       omega
      subst ho
      rw [if_neg (by omega)]
      obtain ⟨u2, g1, g2⟩ := q4 i ((f y).map C.imm) 0 x' (by simp [hy]) hx'
      exact ⟨u2, by simpa using g1, g2⟩)
   have hz := O6 (P := P) (t := e) w
   refine ⟨.tuple #[], _, φ, ?_, tupR, hR.of hW.1 hW.2⟩
   have hne : ¬ (len.toNat = 0) := e0
   simp [execOp, resolve, invoke, builtin, hvv, Builtin.clear_, run_underlying ht.h, hz, hz1, zeroCells_one, hst]
end
end Ab
end
section
namespace Ab
open Go Go.Sort
def CmpOk {α : Type} (cmp : α → α → Option Int) (cf : α → α → Int) : Prop := (∀ a b, cmp a b = some (cf a b)) ∧ SWO (Go.Proofs.ltOf cf) ∧ ∀ a b, ¬ cf a b < 0 → ¬ cf b a < 0 → a = b
noncomputable def sortFL {α : Type} (cmp : α → α → Option Int) (l : List α) : Option (List α) := open Classical in
 if h : l.length < 4611686018427387904 ∧ ∃ cf, CmpOk cmp cf then some (l.mergeSort fun x y => decide (¬ h.2.choose y x < 0)) else none
theorem sortFL_eq {α : Type} {cmp : α → α → Option Int} {cf : α → α → Int} {l : List α} (h : l.length < 4611686018427387904) (hc : CmpOk cmp cf) : sortFL cmp l = some (l.mergeSort fun x y => decide (¬ cf y x < 0)) := by
 unfold sortFL
 have hx : l.length < 4611686018427387904 ∧ ∃ cf, CmpOk cmp cf := ⟨h, cf, hc⟩
 rw [dif_pos hx]
 have e : hx.2.choose = cf := by
  funext a b
  have := hx.2.choose_spec.1 a b
  rw [hc.1 a b] at this
  exact (Option.some.inj this).symm
 rw [e]
theorem sortFL_len {α : Type} {cmp : α → α → Option Int} {l l' : List α} (h : sortFL cmp l = some l') : l.length = l'.length := by
 unfold sortFL at h
 split at h
 ·cases h; simp
 ·cases h
def SortFOk (P : Program) (f : FuncId) : Prop := ∀ {α : Type} {g : FuncId} {g0 : α → I} {cf : α → α → Int}, K3 P g → SWO (Go.Proofs.ltOf cf) → (∀ a b, ¬ cf a b < 0 → ¬ cf b a < 0 → a = b) → (∀ a b, f9 P g [.c (.imm (g0 a)), .c (.imm (g0 b))] (.c (int (cf a b)))) →
 ∀ {σ : b7} {id : Id} {l : List α}, σ[id]? = some (some (vec 1 (fun a => [g0 a]) l)) → l.length < 4611686018427387904 →
  FnOk P f [.c (.own id 0 l.length), .c (.fn g [])] σ fun r σ' => r = .tup [] ∧ σ'.length = σ.length ∧ ∀ i : Id, σ'[i]? = (σ.put id (some (vec 1 (fun a => [g0 a]) (l.mergeSort fun x y => decide (¬ cf y x < 0)))))[i]?
section
variable {P : Program} {σ0 : b7} {sz : Nat} {Q : Post} {env : Env} {σv σ' : b7} {ops : Array Oper} {rest : List Oper} {dst : Option Nat} {ty : TypeId} {pos : String} {after : Array Edge}
theorem S.sortF {α : Type} {f : α → List I} (g0 : α → I) {cmp : α → α → Option Int} {x : Operand} {al : List Operand} {ats : Array TypeId} {fs g : FuncId} {id : Id} {n : Nat} {l l' : List α} (hs : sortFL cmp l = some l') (hfg : f = fun a => [g0 a])
  (hcmp : ∀ {a b r}, cmp a b = some r → f9 P g [.c (.imm (g0 a)), .c (.imm (g0 b))] (.c (int r))) (hf : SortFOk P fs) (hgn : K3 P g) (hx : ev env x = some (.c (.fn fs []))) (ha : evs env al = some [.c (.own id 0 n), .c (.fn g [])]) (hn : n = l.length) (hσ : σv[id]? = some (some (vec 1 f l)))
  (hd : g7 sz dst = true) (hσ' : putF σv id (some (vec 1 f l')) = some σ') (h : AOps P σ0 sz ops Q rest (St.mk (putE env dst (.tup [])) σ')) :
  AOps P σ0 sz ops Q (⟨dst, .call ⟨.value x, al.toArray, ats⟩, ty, pos, after, none⟩ :: rest) (St.mk env σv) := by
 have h2 := B5 hσ'
 subst h2 hn hfg
 unfold sortFL at hs
 split at hs
 ·rename_i hx0
  cases hs
  obtain ⟨c1, c2, c3⟩ := hx0.2.choose_spec
  refine AOps.callS hx ha hd (hf hgn c2 c3 (fun a b => hcmp (c1 a b)) hσ hx0.1) ?_
  rintro r σ2 ⟨rfl, hl, he⟩
  refine AOps.sub (s' := ⟨putE env dst (.tup []), σv.put id (some (vec 1 (fun a => [g0 a]) (l.mergeSort fun x y => decide (¬ hx0.2.choose y x < 0))))⟩) ?_ h
  have := Sub.same (σ0 := σ0) (env := putE env dst (.tup [])) (σ1 := σ2) (σ2 := σv.put id (some (vec 1 (fun a => [g0 a]) (l.mergeSort fun x y => decide (¬ hx0.2.choose y x < 0))))) (by rw [b7.length_put, hl]) he
  cases dst <;> exact this
 ·cases hs
end
/-! ### Views in chains -/
theorem K0 {α : Type} (l : List α) : vw l 0 (l.length : Int) = some () := by unfold vw; rw [if_pos]; omega
theorem vw_cut {α : Type} {l : List α} {off len lo hi : Int} {u u' : Unit} (h : vw l off len = some u) (hc : cutV len lo hi = some u') : vw l (off + lo) (hi - lo) = some () := by
 have := M6 h; have := ab5 hc
 unfold vw; rw [if_pos]; omega
theorem vw_to {α : Type} {l : List α} {off len hi : Int} {u u' : Unit} (h : vw l off len = some u) (hc : cutV len 0 hi = some u') : vw l off hi = some () := by
 have := M6 h; have := ab5 hc
 unfold vw; rw [if_pos]; omega
theorem clrL_len {α : Type} {l : List α} {off len : Int} {u : Unit} {z : α} (h : vw l off len = some u) : (clrL l off len z).length = l.length := by
 have := M6 h
 simp [clrL]; omega
end Ab
end
section
namespace Ab
open Go
def shlW (k : IntKind) (a b : Int) : Int := k.wrap (a * 2 ^ (min b.toNat k.bits))
def chk0 (b : Int) : Option Unit := if b < 0 then none else some ()
def chkN (b : Int) : Option Unit := if b = 0 then none else some ()
theorem chk0_get {b : Int} {u : Unit} (h : chk0 b = some u) : ¬ b < 0 := by
 unfold chk0 at h
 split at h
 ·cases h
 ·assumption
theorem chkN_get {b : Int} {u : Unit} (h : chkN b = some u) : b ≠ 0 := by
 unfold chkN at h
 split at h
 ·cases h
 ·assumption
section
variable {P : Program} {σ0 : b7} {sz : Nat} {Q : Post} {env : Env} {σv : b7} {ops : Array Oper} {rest : List Oper} {dst : Option Nat} {ty : TypeId} {pos : String} {after : Array Edge}
theorem S.shl {t t' : TypeId} {x y : Operand} {k k' : IntKind} {a b : Int} {u : Unit} (hb : chk0 b = some u) (hx : ev env x = some (.c (.imm (.val (.int k a))))) (hy : ev env y = some (.c (.imm (.val (.int k' b))))) (hd : g7 sz dst = true)
  (h : AOps P σ0 sz ops Q rest (St.mk (putE env dst (.c (.imm (.val (.int k (shlW k a b)))))) σv)) : AOps P σ0 sz ops Q (⟨dst, .binOp .shl t x y t', ty, pos, after, none⟩ :: rest) (St.mk env σv) :=
 .bin hx hy hd rfl (fun w => by simp [go_sem]) (fun w => by simp [binOp, Op.shift, chk0_get hb, shlW]) h
theorem S.quo {t t' : TypeId} {x y : Operand} {k : IntKind} {a b : Int} {u : Unit} (hb : chkN b = some u) (hx : ev env x = some (.c (.imm (.val (.int k a))))) (hy : ev env y = some (.c (.imm (.val (.int k b))))) (hd : g7 sz dst = true)
  (h : AOps P σ0 sz ops Q rest (St.mk (putE env dst (.c (.imm (.val (.int k (k.wrap (a.tdiv b))))))) σv)) : AOps P σ0 sz ops Q (⟨dst, .binOp .quo t x y t', ty, pos, after, none⟩ :: rest) (St.mk env σv) := .quoW hx hy hd (chkN_get hb) h
end
section
variable {P : Program} {σ0 : b7} {sz : Nat} {Q : Post} {env env' : Env} {σv σ' : b7}
def NilB : List C → List C → Prop
 | [], [] => True
 | c :: r, c' :: r' => (c' = c ∨ c = .imm (.val (.slice none 0 0)) ∧ ∃ k, c' = .imm (.sl k [])) ∧ NilB r r'
 | _, _ => False
theorem NilB.len : ∀ {l l' : List C}, NilB l l' → l'.length = l.length
 | [], [], _ => rfl
 | _ :: r, _ :: r', ⟨_, h⟩ => by simp [NilB.len h]
 | [], _ :: _, h => h.elim
 | _ :: _, [], h => h.elim
theorem NilB.get : ∀ {l l' : List C}, NilB l l' → ∀ (o : Nat) (x : C), l'[o]? = some x → ∃ x0, l[o]? = some x0 ∧ (x = x0 ∨ x0 = .imm (.val (.slice none 0 0)) ∧ ∃ k, x = .imm (.sl k []))
 | [], [], _, o, x, h => by simp at h
 | c :: r, c' :: r', ⟨h1, h2⟩, o, x, h => by
  match o with
  | 0 => cases h; exact ⟨c, rfl, h1⟩
  | o + 1 => simpa using NilB.get h2 o x (by simpa using h)
 | [], _ :: _, h, _, _, _ => h.elim
 | _ :: _, [], h, _, _, _ => h.elim
theorem Sub.nilB {b : Id} {kb : Nat} {cs : List C} (cs' : List C) (hb : σv[b]? = some (some (.cells kb [cs]))) (h : NilB cs cs') (hlen : cs.length = kb) (hσ' : putF σv b (some (.cells kb [cs'])) = some σ') : Sub σ0 ⟨env, σv⟩ ⟨env, σ'⟩ := by
 have g := B5 hσ'
 subst g
 refine Sub.blk hb rfl (fun j e he => ?_) (fun j e o x he hx => ?_)
 ·match j with
  | 0 => cases he; rw [h.len, hlen]
  | j + 1 => simp at he
 ·match j with
  | 0 =>
   cases he
   obtain ⟨x0, h1, h2⟩ := h.get o x hx
   refine ⟨cs, x0, rfl, h1, fun w φ σ A u hr => ?_⟩
   rcases h2 with rfl | ⟨rfl, k, rfl⟩
   ·exact hr
   ·cases hr with | imm hr => cases hr with | val => exact .imm .slNil
  | j + 1 => simp at he
theorem AWP.nilB {c : Code} {b : Id} {kb : Nat} {cs : List C} (cs' : List C) (hb : σv[b]? = some (some (.cells kb [cs]))) (h : NilB cs cs') (hlen : cs.length = kb) (hσ' : putF σv b (some (.cells kb [cs'])) = some σ') (hn : AWP P σ0 sz c Q ⟨env, σ'⟩) : AWP P σ0 sz c Q ⟨env, σv⟩ := AWP.sub (Sub.nilB cs' hb h hlen hσ') hn
end
end Ab
end
section
namespace Ab
open Go
section
variable {P : Program} {σ0 : b7} {sz : Nat} {Q : Post} {env env' : Env} {σv σ' : b7} {α : Type} {f : α → List I} {k : Nat} {l : List α} {id : Id}
theorem Sub.reownB {off len : Int} {j n kb o : Nat} {b n' : Id} {cs cs' : List C} {σ1 σ2 : b7} {u : Unit} (t : Nat) (hb : σv[b]? = some (some (.cells kb [cs]))) (hc : cs[o]? = some (.own id j n)) (hbi : idb b id = false) (hv : vw l off len = some u) (hj : j = off.toNat) (hn : n = len.toNat) (hσ : σv[id]? = some (some (vec k f l)))
  (h0 : Nat.ble σ0.length id.1 = true) (hid : newF σv = some n') (h1 : putF σv id none = some σ1) (h2 : u4 σ1 (.one (vec k f (k7 l off len))) = some σ2) (hs : setF cs o (.own n' 0 (k7 l off len).length) = some cs') (hσ' : putF σ2 b (some (.cells kb [cs'])) = some σ') (henv : ReE env t (.own n' 0 0) env') (ht : lookup t env' = none) :
  Sub σ0 ⟨env, σv⟩ ⟨env', σ'⟩ := fun Γ sz φ a w hΓ hR => by
 have e1 := B5 h1
 have e2 := B6 hid; have e3 := n8 h2; have e4 := B5 hσ'
 obtain ⟨e5, e5'⟩ := W3 hs
 have hvl := viewL_len hv
 have hvg := M6 hv
 subst hj hn e1 e2 e3 e4 e5
 have hne : b ≠ id := fun e => by rw [N4.2 e] at hbi; cases hbi
 have hidl := b7.lt_of hσ
 have hbl := b7.lt_of hb
 have at_new : (σv.put id none ++ [.one (vec k f (k7 l off len))] : b7)[((σv.length, []) : Id)]? = some (some (vec k f (k7 l off len))) := by
  rw [b7.get_right (by simp)]; simp; rfl
 have hb1 : (σv.put id none ++ [.one (vec k f (k7 l off len))] : b7)[b]? = some (some (.cells kb [cs])) := by
  rw [b7.get_left (by simpa using hbl), b7.get_put_ne hne]; exact hb
 rcases hR.st.blk _ _ hb with ⟨_, g⟩ | ⟨b0, bs0, arr0, ety0, q1, q2, q3, q4, q5⟩
 ·cases g
 obtain ⟨u0, hu0, hrel⟩ := q5 0 cs o _ rfl hc
 have hone : u0.oneCell' = true := by cases hrel with | own _ h _ => exact h
 have ho := x7 (k := k) (RelT.c hrel) hσ
 have hbn : ∀ x, (if b = ((σv.length, []) : Id) then x else φ b) = φ b := fun x => if_neg fun e => by rw [e] at hbl; exact Nat.lt_irrefl _ hbl
 have fin : ∀ (x : Option (Nat × Nat)) (hk : Kept w w φ (fun i => if i = ((σv.length, []) : Id) then x else φ i) σv (σv.put id none ++ [.one (vec k f (k7 l off len))]) (Al Γ.N φ σv) (Al Γ.N (fun i => if i = ((σv.length, []) : Id) then x else φ i) (σv.put id none ++ [.one (vec k f (k7 l off len))])))
   (hs : Rs Γ (σv.put id none ++ [.one (vec k f (k7 l off len))]) (fun i => if i = ((σv.length, []) : Id) then x else φ i) w) (hview : K8 w x k (k7 l off len).length 0 (k7 l off len).length u0),
   ∃ φ', R Γ sz ⟨env', b7.put (σv.put id none ++ [.one (vec k f (k7 l off len))]) b (some (.cells kb [cs.set o (.own (σv.length, []) 0 (k7 l off len).length)]))⟩ φ' a w := fun x hk hs hview => by
  have hR1 := hR.of hk hs
  rcases hs.st.blk _ _ hb1 with ⟨_, g⟩ | ⟨b2, bs2, arr2, ety2, p1, p2, p3, p4, p5⟩
  ·cases g
  rw [hbn, q1] at p1
  cases p1
  rw [q2] at p2; cases p2
  have hW := Rs.write (k := kb) (es' := [cs.set o (.own (σv.length, []) 0 (k7 l off len).length)]) (arr' := arr0) hs hb1 (by rw [hbn, q1]) q2 rfl rfl (fun j e he => by
   match j with
   | 0 =>
    cases he
    rw [List.length_set]
    exact p4 0 cs rfl
   | j + 1 => simp at he) (by simpa using p3) (fun j e i y he hy => by
   match j with
   | 0 =>
    cases he
    rw [List.getElem?_set] at hy
    split at hy
    ·rename_i e
     subst e
     cases hy
     refine ⟨u0, hu0, .own (by simp) hone fun k' es' he => ?_⟩
     rw [at_new] at he
     cases he
     simpa using hview
    ·exact p5 0 cs i y rfl hy
   | j + 1 => simp at he)
  rw [Go.setRow_self w b0 arr0 ety0 (0, 0) q2] at hW
  have hR2 := hR1.of hW.1 hW.2
  refine ⟨_, { toRs := hW.2, defers := hR2.defers, asize := hR.asize, env := fun t' v' ht' => ?_ }⟩
  rcases henv.get t' v' ht' with ⟨rfl, _⟩ | h
  ·rw [ht] at ht'; cases ht'
  ·exact hR2.env t' v' h
 rcases ho with ⟨p1, p2, p3, p4⟩ | ⟨b, base, cap, arr, ety, ad, hp, hvv, had, hcap, hmax, hjn, hbk, hsz⟩
 ·have hnil : k7 l off len = [] := List.eq_nil_of_length_eq_zero (by rw [hvl, p4])
  have hK := hR.toRs.kill id
  have hV := hK.2.virt k
  have e1 : σv.put id none ++ [.one (vec k f (k7 l off len))] = σv.put id none ++ [.one (.cells k [])] := by rw [hnil]; rfl
  rw [b7.length_put] at hV
  exact fin none (by rw [e1]; exact Kept.trans (Nat.le_refl _) hK.1 hV.1) (by rw [e1]; exact hV.2) (.inl ⟨rfl, p2, rfl, by rw [hnil]; rfl⟩)
 ·obtain ⟨arr2, ety2, q1, q2, q3, q4⟩ := y9 hR hσ hp
  rw [hbk] at q1; cases q1
  have hO := Rs.reown (k := k) (base' := base + off.toNat * k) (es' := ((k7 l off len).map f).map (·.map C.imm)) (arr' := arr) hR.toRs hσ hp hbk (fun j e he => by
    have : ((k7 l off len).map f).map (·.map C.imm) = ((((l.map f).map (·.map C.imm)).drop off.toNat).take len.toNat) := by simp [k7, List.map_drop, List.map_take]
    rw [this, List.getElem?_take] at he
    split at he
    ·rw [List.getElem?_drop] at he
     exact q3 _ e he
    ·cases he) (by
    simp only [List.length_map, hvl]
    have : (off.toNat + cap) * k = off.toNat * k + cap * k := Nat.add_mul ..
    have : len.toNat * k ≤ cap * k := Nat.mul_le_mul_right k hcap
    omega) (fun j e o x he hx => by
    have : ((k7 l off len).map f).map (·.map C.imm) = ((((l.map f).map (·.map C.imm)).drop off.toNat).take len.toNat) := by simp [k7, List.map_drop, List.map_take]
    rw [this, List.getElem?_take] at he
    split at he
    ·rw [List.getElem?_drop] at he
     obtain ⟨u2, g1, g2⟩ := q4 _ e o x he hx
     refine ⟨u2, ?_, g2⟩
     rw [← g1, Nat.add_mul]
     congr 1; omega
    ·cases he)
  rw [Go.setRow_self w b arr ety (0, 0) hbk] at hO
  refine fin (some (b, base + off.toNat * k)) hO.1 hO.2 (.inr ⟨b, base + off.toNat * k, cap, arr, ety, ad, rfl, ?_, fun hc => ?_, ?_, hmax, by omega, hbk, ?_⟩)
  ·rw [hvv, hvl]
  ·rw [had hc, Nat.zero_mul, Nat.add_zero]
  ·rw [hvl]; exact hcap
  ·have : (off.toNat + cap) * k = off.toNat * k + cap * k := Nat.add_mul ..
   rw [Nat.zero_add]; omega
theorem AWP.reownB {c : Code} {off len : Int} {j n kb o : Nat} {b n' : Id} {cs cs' : List C} {σ1 σ2 : b7} {u : Unit} (t : Nat) (hb : σv[b]? = some (some (.cells kb [cs]))) (hc : cs[o]? = some (.own id j n)) (hbi : idb b id = false) (hv : vw l off len = some u) (hj : j = off.toNat) (hn : n = len.toNat) (hσ : σv[id]? = some (some (vec k f l)))
  (h0 : Nat.ble σ0.length id.1 = true) (hid : newF σv = some n') (h1 : putF σv id none = some σ1) (h2 : u4 σ1 (.one (vec k f (k7 l off len))) = some σ2) (hs : setF cs o (.own n' 0 (k7 l off len).length) = some cs') (hσ' : putF σ2 b (some (.cells kb [cs'])) = some σ') (henv : ReE env t (.own n' 0 0) env') (ht : lookup t env' = none)
  (h : AWP P σ0 sz c Q ⟨env', σ'⟩) : AWP P σ0 sz c Q ⟨env, σv⟩ := AWP.sub (Sub.reownB t hb hc hbi hv hj hn hσ h0 hid h1 h2 hs hσ' henv ht) h
end
end Ab
end
section
namespace Ab
open Go
section
variable {α : Type} {f : α → List I} {l : List α} {p m : Nat} {n id : Id}
abbrev vecS (f : α → List I) (l : List α) (p : Nat) (n : Id) (m : Nat) : Blk := .cells 1 (((l.map f).map (·.map C.imm)).set p [.own n 0 m])
theorem mem_set {β : Type} {x a : β} : ∀ {l : List β} {p : Nat}, x ∈ l.set p a → x ∈ l ∨ x = a
 | [], _, h => by simp at h
 | b :: l, 0, h => by
  rcases List.mem_cons.1 h with h | h
  ·exact .inr h
  ·exact .inl (List.mem_cons_of_mem _ h)
 | b :: l, p + 1, h => by
  rcases List.mem_cons.1 h with h | h
  ·exact .inl (h ▸ List.mem_cons_self ..)
  ·rcases mem_set h with h | h
   ·exact .inl (List.mem_cons_of_mem _ h)
   ·exact .inr h
theorem vs_no (h : idb n id = false) : (vecS f l p n m).no id = true := by
 simp only [Blk.no, List.all_eq_true]
 intro e he
 rcases mem_set he with h1 | rfl
 ·have := Blk.im_no id 1 (l.map f)
  simp only [Blk.im, Blk.no, List.all_eq_true] at this
  exact this e h1
 ·simp [C.noL, C.no, h]
theorem FrzB.vs {X : C → C → Prop} (h : idb n id = false) : FrzB id X (.one (vecS f l p n m)) (.one (vecS f l p n m)) := by
 have hno := vs_no (f := f) (l := l) (p := p) (m := m) h
 have imm : ∀ e ∈ ((l.map f).map (·.map C.imm)).set p [.own n 0 m], FrzL id X e e := fun e he => by
  rcases mem_set he with h1 | rfl
  ·simp only [List.map_map, List.mem_map, Function.comp_apply] at h1
   obtain ⟨a, _, rfl⟩ := h1
   exact FrzL.imm _
  ·exact ⟨.inl ⟨rfl, by simp [C.no, h]⟩, trivial⟩
 unfold FrzB
 split
 ·rename_i h1 _; cases h1
 ·rename_i k1 e k2 e' h1 h2
  simp only [Ent.one.injEq, Blk.cells.injEq] at h1 h2
  obtain ⟨rfl, h1⟩ := h1
  obtain ⟨rfl, h2⟩ := h2
  have : e = e' := by rw [h1] at h2; simpa using h2
  subst this
  exact ⟨rfl, imm e (by rw [h1]; simp)⟩
 ·rename_i h1 h2
  cases h1; cases h2
  exact ⟨rfl, hno⟩
 ·rename_i h1; cases h1
 ·rename_i h1 h2 h3 h4
  first | exact (h3 _ _ rfl rfl).elim | exact (h4 _ _ rfl rfl).elim | exact (h2 _ _ rfl rfl).elim
end
section
variable {P : Program} {σ0 : b7} {sz : Nat} {Q : Post} {env : Env} {σv σ' : b7} {ops : Array Oper} {rest : List Oper} {dst : Option Nat} {ty : TypeId} {pos : String} {after : Array Edge}
variable {α β : Type} {f : α → List I} {l : List α} {p m : Nat} {n id : Id}
inductive FrzE (id : Id) (k : Nat) (es : List (List I)) (X : C → C → Prop) : Ent → Ent → Prop
 | old {e e' : Ent} (h : FrzB id X e e') : FrzE id k es X e e'
 | vs {α : Type} {f : α → List I} {l : List α} {p m : Nat} {b : Blk} (h : Blk.frz id k es (vecS f l p id m) = b) : FrzE id k es X (.one (vecS f l p id m)) (.one b)
 | any {e e' : Ent} (h : ∀ p, (e.sub p).map (Blk.frz id k es) = e'.sub p) : FrzE id k es X e e'
def FrzS2 (id : Id) (k : Nat) (es : List (List I)) (X : C → C → Prop) : b7 → b7 → Prop
 | [], [] => True
 | b :: r, b' :: r' => FrzE id k es X b b' ∧ FrzS2 id k es X r r'
 | _, _ => False
theorem FrzE.get {k : Nat} {es : List (List I)} {X : C → C → Prop} (hX : ∀ c c', X c c' → c.frz id k es = c') {e e' : Ent} (h : FrzE id k es X e e') (p : List Nat) : (e.sub p).map (Blk.frz id k es) = e'.sub p := by
 cases h with
 | old h => exact FrzB.get hX h p
 | any h => exact h p
 | vs h =>
  cases p with
  | nil => simp only [Ent.sub, Option.map_some, h]
  | cons => rfl
theorem FrzS2.get {k : Nat} {es : List (List I)} {X : C → C → Prop} (hX : ∀ c c', X c c' → c.frz id k es = c') : ∀ {σ σ2 : b7}, FrzS2 id k es X σ σ2 → ∀ i : Id, (σ[i]?).map (Option.map (Blk.frz id k es)) = σ2[i]?
 | [], [], _, i => rfl
 | [], _ :: _, h, _ => h.elim
 | _ :: _, [], h, _ => h.elim
 | e :: r, e' :: r', h, (0, p) => by
  rw [b7.at_eq, b7.at_eq]
  simp only [b7.at, List.getElem?_cons_zero, Option.map_some, FrzE.get hX h.1 p]
 | e :: r, e' :: r', h, (i + 1, p) => by
  have := FrzS2.get hX h.2 (i, p)
  rw [b7.at_eq, b7.at_eq] at this ⊢
  simpa [b7.at] using this
theorem FrzS2.len {k : Nat} {es : List (List I)} {X : C → C → Prop} : ∀ {σ σ2 : b7}, FrzS2 id k es X σ σ2 → σ2.length = σ.length
 | [], [], _ => rfl
 | [], _ :: _, h => h.elim
 | _ :: _, [], h => h.elim
 | e :: r, e' :: r', h => by simp [FrzS2.len h.2]
end
end Ab
end
section
namespace Ab
open Go
theorem Rs.allocB {Γ : Cx} {σ : b7} {φ : Phi} {w : World} (h : Rs Γ σ φ w) {p0 : Obj → List Value → Prop} {cs0 : List C} {us0 : List Value} {obj : Obj} (hob : p0 obj us0) (hcs : ∀ (i : Nat) (x : C), cs0[i]? = some x → ∃ u, us0[i]? = some u ∧ RelC w φ σ (Al Γ.N φ σ) x u) :
  Kept w (w.alloc obj) φ (k8 σ.length φ w.heap.size) σ (σ ++ [.one (.obj p0 cs0)]) (Al Γ.N φ σ) (Al Γ.N (k8 σ.length φ w.heap.size) (σ ++ [.one (.obj p0 cs0)])) ∧
  Rs Γ (σ ++ [.one (.obj p0 cs0)]) (k8 σ.length φ w.heap.size) (w.alloc obj) := by
 have old : ∀ b, b < w.heap.size → (w.alloc obj).heap[b]? = w.heap[b]? := fun b hb => by first | exact heap_alloc_old w _ hb | exact heap_alloc_old w _ _ hb
 have new : (w.alloc obj).heap[w.heap.size]? = some obj := heap_alloc_new w _
 have plo : ∀ i : Id, i.1 < σ.length → k8 σ.length φ w.heap.size i = φ i := fun i hi => by
  have : i ≠ (σ.length, []) := fun e => by rw [e] at hi; exact Nat.lt_irrefl _ hi
  simp [k8, this]
 have pnew : k8 σ.length φ w.heap.size (σ.length, []) = some (w.heap.size, 0) := by simp [k8]
 have cases2 : ∀ (i : Id) blk, (σ ++ [.one (.obj p0 cs0)])[i]? = some (some blk) → (i.1 < σ.length ∧ σ[i]? = some (some blk)) ∨ (i = (σ.length, []) ∧ blk = .obj p0 cs0) := fun i blk hi => b7.get_new hi
 have A1 : ∀ b, Al Γ.N φ σ b → b < w.heap.size → Al Γ.N (k8 σ.length φ w.heap.size) (σ ++ [.one (.obj p0 cs0)]) b := fun b hb hl => ⟨hb.1, fun i blk base hi hp => by
  rcases cases2 i blk hi with ⟨h1, h2⟩ | ⟨rfl, rfl⟩
  ·rw [plo i h1] at hp; exact hb.2 i blk base h2 hp
  ·rw [pnew] at hp; cases hp; omega⟩
 have hK : Kept w (w.alloc obj) φ (k8 σ.length φ w.heap.size) σ (σ ++ [.one (.obj p0 cs0)]) (Al Γ.N φ σ) (Al Γ.N (k8 σ.length φ w.heap.size) (σ ++ [.one (.obj p0 cs0)])) :=
  {imm := fun b _ hl => old b hl, all := A1, len := by simp,
   cells := fun i kk es' hi he => by
    rw [b7.get_left hi] at he
    exact ⟨es', he, rfl, plo i hi, fun b base arr ety hp hb => ⟨arr, (old b (Al.own_lt h.st he hp)).trans hb, rfl⟩⟩,
   obj := fun i p' cs' hi he => by
    rw [b7.get_left hi] at he
    exact ⟨plo i hi, p', cs', he⟩ }
 refine ⟨hK, ?_⟩
 exact {
  good := h.good
  st := ⟨fun i b hi => by
    rcases cases2 i b hi with ⟨h1, h2⟩ | ⟨rfl, rfl⟩
    ·rw [plo i h1]
     exact (h.st.blk i b h2).mono hK fun g base hp => old g (Al.own_lt h.st h2 hp)
    ·rw [pnew]
     exact ⟨w.heap.size, obj, us0, rfl, new, hob, fun i x hx => let ⟨u, g1, g2⟩ := hcs i x hx; ⟨u, g1, g2.mono hK⟩⟩,
   fun i j bi bj p q hi hj hp hq he => by
    obtain ⟨pb, po⟩ := p
    obtain ⟨qb, qo⟩ := q
    dsimp only at he
    subst he
    rcases cases2 i bi hi with ⟨h1, h2⟩ | ⟨rfl, rfl⟩ <;> rcases cases2 j bj hj with ⟨g1, g2⟩ | ⟨rfl, rfl⟩
    ·rw [plo i h1] at hp; rw [plo j g1] at hq
     exact h.st.inj i j bi bj _ _ h2 g2 hp hq rfl
    ·rw [plo i h1] at hp; rw [pnew] at hq; cases hq
     have := Al.own_lt h.st h2 hp; omega
    ·rw [plo j g1] at hq; rw [pnew] at hp; cases hp
     have := Al.own_lt h.st g2 hq; omega
    ·rfl⟩
  keep := fun i blk b base hi hp hKb => by
   rcases cases2 i blk hi with ⟨h1, h2⟩ | ⟨rfl, rfl⟩
   ·rw [plo i h1] at hp; exact h.keep i blk b base h2 hp hKb
   ·rw [pnew] at hp; cases hp
    have := hKb.1; have := h.size; omega
  os := h.os
  tape := h.tape
  drawn := h.drawn
  output := h.output
  size := Nat.le_trans h.size (by simp)
  block := fun b hKb => (old b (Nat.lt_of_lt_of_le hKb.1 h.size)).trans (h.block b hKb)
  kept := Kept.trans h.size h.kept hK }
theorem Rs.writeB {Γ : Cx} {σ : b7} {φ : Phi} {w : World} (h : Rs Γ σ φ w) {id : Id} {b : Nat} {q0 q1 : Obj → List Value → Prop} {cs0 cs1 : List C} {us1 : List Value} {o0 o1 : Obj} (hid : σ[id]? = some (some (.obj q0 cs0))) (hp : φ id = some (b, 0)) (hb : w.heap[b]? = some o0) (hq : q1 o1 us1) (hcs : ∀ (i : Nat) (x : C), cs1[i]? = some x → ∃ u, us1[i]? = some u ∧ RelC w φ σ (Al Γ.N φ σ) x u) :
  Kept w ({ w with heap := w.heap.setIfInBounds b o1 } : World) φ φ σ (σ.put id (some (.obj q1 cs1))) (Al Γ.N φ σ) (Al Γ.N φ (σ.put id (some (.obj q1 cs1)))) ∧ Rs Γ (σ.put id (some (.obj q1 cs1))) φ ({ w with heap := w.heap.setIfInBounds b o1 } : World) := by
 have new : ({ w with heap := w.heap.setIfInBounds b o1 } : World).heap[b]? = some o1 := (Go.MapKept.heap_set hb).1
 have old : ∀ g, g ≠ b → ({ w with heap := w.heap.setIfInBounds b o1 } : World).heap[g]? = w.heap[g]? := fun g hg => (Go.MapKept.heap_set hb).2 g hg
 have hsize : ({ w with heap := w.heap.setIfInBounds b o1 } : World).heap.size = w.heap.size := by simp
 have at_ : ∀ (i : Id) x, (σ.put id (some (.obj q1 cs1)))[i]? = some (some x) → (i = id ∧ x = .obj q1 cs1) ∨ (i ≠ id ∧ σ[i]? = some (some x)) := fun i x hi => by
  rcases b7.get_put hid hi with ⟨h1, h2⟩ | h
  ·cases h2; exact .inl ⟨h1, rfl⟩
  ·exact .inr h
 have other : ∀ (i : Id) blk g bs, i ≠ id → σ[i]? = some (some blk) → φ i = some (g, bs) → g ≠ b := fun i blk g bs hne hi hpi e => by
  subst e
  exact hne (h.st.inj i id _ _ _ _ hi hid hpi hp rfl)
 have A1 : ∀ g, Al Γ.N φ σ g → Al Γ.N φ (σ.put id (some (.obj q1 cs1))) g := fun g hg => ⟨hg.1, fun i blk bs hi hpi => by
  rcases at_ i blk hi with ⟨rfl, _⟩ | ⟨_, hi⟩
  ·exact hg.2 i _ bs hid hpi
  ·exact hg.2 i blk bs hi hpi⟩
 have hK : Kept w ({ w with heap := w.heap.setIfInBounds b o1 } : World) φ φ σ (σ.put id (some (.obj q1 cs1))) (Al Γ.N φ σ) (Al Γ.N φ (σ.put id (some (.obj q1 cs1)))) :=
  {imm := fun g hg _ => old g (fun e => by subst e; exact hg.2 id _ 0 hid hp), all := fun g hg _ => A1 g hg, len := by simp,
   cells := fun i kk es2 hi he => by
    rcases at_ i _ he with ⟨rfl, e⟩ | ⟨hne, he⟩
    ·cases e
    ·refine ⟨es2, he, rfl, rfl, fun b2 base2 arr2 ety2 hp2 hb2 => ⟨arr2, ?_, rfl⟩⟩
     exact (old b2 (other i _ b2 base2 hne he hp2)).trans hb2,
   obj := fun i p' cs' hi he => by
    rcases at_ i _ he with ⟨rfl, e⟩ | ⟨_, he⟩
    ·exact ⟨rfl, _, _, hid⟩
    ·exact ⟨rfl, p', cs', he⟩ }
 refine ⟨hK, ?_⟩
 exact {
  good := h.good
  st := ⟨fun i bk hi => by
    rcases at_ i _ hi with ⟨rfl, e⟩ | ⟨hne, hi⟩
    ·cases e
     rw [hp]
     exact ⟨b, o1, us1, rfl, new, hq, fun i x hx => let ⟨u, g1, g2⟩ := hcs i x hx; ⟨u, g1, g2.mono hK⟩⟩
    ·exact (h.st.blk i bk hi).mono hK fun g bs hpi => old g (other i bk g bs hne hi hpi),
   fun i j bi bj p q hi hj hpi hqj he => by
    have alive : ∀ (i : Id) bi, (σ.put id (some (.obj q1 cs1)))[i]? = some (some bi) → ∃ b0, σ[i]? = some (some b0) := fun i bi hi => by
     rcases at_ i _ hi with ⟨rfl, _⟩ | ⟨_, hi⟩
     ·exact ⟨_, hid⟩
     ·exact ⟨_, hi⟩
    obtain ⟨b1, h1⟩ := alive i bi hi
    obtain ⟨b2, h2⟩ := alive j bj hj
    exact h.st.inj i j b1 b2 p q h1 h2 hpi hqj he⟩
  keep := fun i blk g bs hi hpi hKb => by
   rcases at_ i _ hi with ⟨rfl, _⟩ | ⟨_, hi⟩
   ·exact h.keep i _ g bs hid hpi hKb
   ·exact h.keep i blk g bs hi hpi hKb
  os := h.os
  tape := h.tape
  drawn := h.drawn
  output := h.output
  size := by rw [hsize]; exact h.size
  block := fun g hKb => (old g (fun e => by subst e; exact h.keep id _ g 0 hid hp hKb)).trans (h.block g hKb)
  kept := Kept.trans h.size h.kept hK }
/-! ### What the slots hold that rounds read -/
def slotsP : List (Nat × Option Nat) → List Value → Array Value → Prop
 | [], _, _ => True
 | (t, none) :: r, us, a => (∃ u, us.head? = some u ∧ a[t]? = some u) ∧ slotsP r us.tail a
 | (t, some n) :: r, us, a => ((us.take n).length = n ∧ a[t]? = some (.agg (us.take n).toArray)) ∧ slotsP r (us.drop n) a
def slotE : List (Nat × Option Nat) → List C → Env
 | [], _ => []
 | (_, none) :: _, [] => []
 | (t, none) :: r, c :: cs => (t, .c c) :: slotE r cs
 | (t, some n) :: r, cs => match Nat.beq (cs.take n).length n with
  | true => (t, .agg (cs.take n)) :: slotE r (cs.drop n)
  | false => []
def slotC : List (Nat × Option Nat) → Env → Option (List C)
 | [], _ => some []
 | (t, none) :: r, env => match lookup t env, slotC r env with
  | some (.c c), some cs => some (c :: cs)
  | _, _ => none
 | (t, some n) :: r, env => match lookup t env, slotC r env with
  | some (.agg l), some cs => match Nat.beq l.length n with
   | true => some (l ++ cs)
   | false => none
  | _, _ => none
section
variable {w : World} {φ : Phi} {σ : b7} {A : Nat → Prop}
theorem slot_env : ∀ (sh : List (Nat × Option Nat)) {us : List Value} {a : Array Value} {cs : List C}, slotsP sh us a → (∀ (i : Nat) (x : C), cs[i]? = some x → ∃ u, us[i]? = some u ∧ RelC w φ σ A x u) →
  ∀ (t : Nat) (v : T), lookup t (slotE sh cs) = some v → ∃ u, a[t]? = some u ∧ RelT w φ σ A v u
 | [], us, a, cs, _, _, t, v, h => by simp [slotE, lookup] at h
 | (s, none) :: r, us, a, [], _, _, t, v, h => by simp [slotE, lookup] at h
 | (s, none) :: r, us, a, c :: cs, hs, hr, t, v, h => by
  simp only [slotE, lookup] at h
  obtain ⟨⟨u, hu, ha⟩, hs⟩ := hs
  obtain ⟨u0, hu0, hr0⟩ := hr 0 c rfl
  rw [List.head?_eq_getElem?] at hu
  rw [hu] at hu0; cases hu0
  split at h
  ·rename_i e
   cases h
   have := Nat.eq_of_beq_eq_true e
   subst this
   exact ⟨u, ha, .c hr0⟩
  ·exact slot_env r hs (fun i x hx => by
    obtain ⟨u, g1, g2⟩ := hr (i + 1) x hx
    exact ⟨u, by rw [← g1]; cases us <;> simp, g2⟩) t v h
 | (s, some n) :: r, us, a, cs, hs, hr, t, v, h => by
  simp only [slotE] at h
  obtain ⟨⟨hl, ha⟩, hs⟩ := hs
  cases hb : Nat.beq (cs.take n).length n with
  | false => rw [hb] at h; simp [lookup] at h
  | true =>
   rw [hb] at h
   have hlen := Nat.eq_of_beq_eq_true hb
   simp only [lookup] at h
   split at h
   ·rename_i e
    cases h
    have := Nat.eq_of_beq_eq_true e
    subst this
    refine ⟨_, ha, RelT.agg' (by rw [hl, hlen]) fun i c v hc hv => ?_⟩
    rw [List.getElem?_take] at hc hv
    split at hc
    ·rename_i hi
     rw [if_pos hi] at hv
     obtain ⟨u, g1, g2⟩ := hr i c hc
     rw [hv] at g1; cases g1; exact g2
    ·cases hc
   ·exact slot_env r hs (fun i x hx => by
     rw [List.getElem?_drop] at hx
     obtain ⟨u, g1, g2⟩ := hr _ x hx
     exact ⟨u, by rw [List.getElem?_drop]; exact g1, g2⟩) t v h
theorem slot_mk : ∀ (sh : List (Nat × Option Nat)) {env : Env} {a : Array Value} {cs : List C}, (∀ t v, lookup t env = some v → ∃ u, a[t]? = some u ∧ RelT w φ σ A v u) → slotC sh env = some cs →
  ∃ us, slotsP sh us a ∧ us.length = cs.length ∧ ∀ (i : Nat) (x : C), cs[i]? = some x → ∃ u, us[i]? = some u ∧ RelC w φ σ A x u
 | [], env, a, cs, _, h => by cases h; exact ⟨[], trivial, rfl, fun i x hx => by simp at hx⟩
 | (s, none) :: r, env, a, cs, he, h => by
  simp only [slotC] at h
  split at h <;> cases h
  rename_i c cs' h1 h2
  obtain ⟨us, g1, g0, g2⟩ := slot_mk r he h2
  obtain ⟨u, k1, k2⟩ := he s _ h1
  cases k2 with | c k2 =>
  refine ⟨u :: us, ⟨⟨u, rfl, k1⟩, g1⟩, by simp [g0], fun i x hx => ?_⟩
  match i with
  | 0 => cases hx; exact ⟨u, rfl, k2⟩
  | i + 1 => exact g2 i x hx
 | (s, some n) :: r, env, a, cs, he, h => by
  simp only [slotC] at h
  split at h
  ·rename_i l cs' h1 h2
   split at h <;> cases h
   rename_i hb
   have hn := Nat.eq_of_beq_eq_true hb
   obtain ⟨us, g1, g0, g2⟩ := slot_mk r he h2
   obtain ⟨u, k1, k2⟩ := he s _ h1
   obtain ⟨vs, rfl, k3, k4⟩ := RelT.agg_inv k2
   have hvn : vs.length = n := by omega
   refine ⟨vs ++ us, ⟨⟨by rw [List.take_left' hvn]; exact hvn, by rw [List.take_left' hvn]; exact k1⟩, by rw [List.drop_left' hvn]; exact g1⟩, by simp [g0, k3], fun i x hx => ?_⟩
   rw [List.getElem?_append] at hx ⊢
   rw [k3]
   split at hx
   ·rename_i hi; rw [if_pos hi]; exact k4 i x hx
   ·rename_i hi; rw [if_neg hi]; exact g2 _ x hx
  ·cases h
end
def loopP (szc : Nat) (ps : List Nat) (asg body : Code) (st : LoopState) (pend : Option Code) (sh : List (Nat × Option Nat)) : Obj → List Value → Prop := fun o us =>
 ∃ r : Go.Loop, o = .loop r ∧ r.state = st ∧ r.pending = pend ∧ r.params = ps.toArray ∧ r.assign = asg ∧ r.body = body ∧ r.tmps.size = szc ∧ slotsP sh us r.tmps
abbrev l4 (szc : Nat) (ps : List Nat) (asg body : Code) (st : LoopState) (pend : Option Code) (sh : List (Nat × Option Nat)) (cs : List C) : Blk := .obj (loopP szc ps asg body st pend sh) cs
def zipE : List Nat → List T → Env → Env
 | p :: ps, t :: ts, E => zipE ps ts ((p, t) :: E)
 | _, _, E => E
theorem zip_env {w : World} {φ : Phi} {σ : b7} {A : Nat → Prop} {szc : Nat} : ∀ (ps : List Nat) (ts : List T) (us : List Value) (E : Env) (a : Array Value), a.size = szc → ts.length = us.length → (∀ p ∈ ps, p < szc) →
  (∀ (i : Nat) (t : T) (u : Value), ts[i]? = some t → us[i]? = some u → RelT w φ σ A t u) → (∀ t v, lookup t E = some v → ∃ u, a[t]? = some u ∧ RelT w φ σ A v u) →
  ((ps.zip us).foldl (fun tmps (t, a) => tmps.setIfInBounds t a) a).size = szc ∧
  ∀ t v, lookup t (zipE ps ts E) = some v → ∃ u, ((ps.zip us).foldl (fun tmps (t, a) => tmps.setIfInBounds t a) a)[t]? = some u ∧ RelT w φ σ A v u
 | [], ts, us, E, a, hz, _, _, _, he => ⟨by simpa using hz, fun t v h => by simpa using he t v (by cases ts <;> exact h)⟩
 | p :: ps, [], us, E, a, hz, hl, _, _, he => by
  cases us with
  | nil => exact ⟨by simpa using hz, fun t v h => by simpa using he t v h⟩
  | cons u us => simp at hl
 | p :: ps, t :: ts, us, E, a, hz, hl, hp, hr, he => by
  cases us with
  | nil => simp at hl
  | cons u us =>
   simp only [List.zip_cons_cons, List.foldl_cons, zipE]
   refine zip_env ps ts us _ _ (by simpa using hz) (by simpa using hl) (fun q hq => hp q (List.mem_cons_of_mem _ hq)) (fun i t u h1 h2 => hr (i + 1) t u h1 h2) (fun s v h => ?_)
   simp only [lookup] at h
   split at h
   ·rename_i e
    cases h
    have := Nat.eq_of_beq_eq_true e
    subst this
    have hlt : p < a.size := by rw [hz]; exact hp p (by simp)
    exact ⟨u, by simp [hlt], hr 0 _ u rfl rfl⟩
   ·rename_i e
    obtain ⟨y, hy, hr'⟩ := he s v h
    have hne : p ≠ s := fun e' => by subst e'; simp at e
    exact ⟨y, by simp [hne, hy], hr'⟩
theorem b7.put2 (σ : b7) (n : Nat) (b b' : Option Blk) : (σ.put (n, []) b).put (n, []) b' = σ.put (n, []) b' := by
 have : ∀ e : Ent, (e.put [] b).put [] b' = e.put [] b' := fun e => by cases e <;> cases b <;> rfl
 apply List.ext_getElem?
 intro i
 simp only [b7.put, List.getElem?_modify]
 cases hs : σ[i]? with
 | none => simp
 | some e => by_cases hi : n = i <;> simp [hi, this]
theorem Rs.allocU {Γ : Cx} {σ : b7} {φ : Phi} {w : World} (h : Rs Γ σ φ w) (obj : Obj) : Kept w (w.alloc obj) φ φ σ σ (Al Γ.N φ σ) (Al Γ.N φ σ) ∧ Rs Γ σ φ (w.alloc obj) := by
  have old : ∀ b, b < w.heap.size → (w.alloc obj).heap[b]? = w.heap[b]? := fun b hb => by first | exact heap_alloc_old w _ hb | exact heap_alloc_old w _ _ hb
  have hK : Kept w (w.alloc obj) φ φ σ σ (Al Γ.N φ σ) (Al Γ.N φ σ) :=
    { imm := fun b _ hl => old b hl, all := fun b hb _ => hb, len := Nat.le_refl _,
      cells := fun i kk es' hi he => ⟨es', he, rfl, rfl, fun b base arr ety hp hb => ⟨arr, (old b (Al.own_lt h.st he hp)).trans hb, rfl⟩⟩,
      obj := fun i p' cs' hi he => ⟨rfl, p', cs', he⟩ }
  refine ⟨hK, ?_⟩
  exact { good := h.good, st := ⟨fun i b hi => (h.st.blk i b hi).mono hK fun g base hp => old g (Al.own_lt h.st hi hp), h.st.inj⟩,
          keep := h.keep, os := h.os, tape := h.tape, drawn := h.drawn, output := h.output, size := Nat.le_trans h.size (by simp),
          block := fun b hKb => (old b (Nat.lt_of_lt_of_le hKb.1 h.size)).trans (h.block b hKb), kept := Kept.trans h.size h.kept hK }
section
variable {P : Program} {σ0 : b7} {sz : Nat} {Q : Post} {env env' : Env} {σv σ' σb : b7} {ops : Array Oper} {rest : List Oper} {dst : Option Nat} {ty : TypeId} {pos : String} {after : Array Edge}
variable {szc : Nat} {ps : List Nat} {asg body : Code} {sh : List (Nat × Option Nat)} {cs : List C}
theorem yld_inv {w : World} {φ : Phi} {σ : b7} {A : Nat → Prop} {id : Id} {p : Obj → List Value → Prop} {u : Value} (h : RelT w φ σ A (.c (.yld id)) u) (hσ : σ[id]? = some (some (.obj p cs))) : ∃ b base, φ id = some (b, base) ∧ u = .func (.yield b) #[] #[] := by
 cases h with | c h => cases h with | yld hid h1 h => exact h _ _ hσ
def yPost (P : Program) (σ0 : b7) (sz : Nat) (Q : Post) (ops : Array Oper) (rest : List Oper) (env : Env) (dst : Option Nat) (id : Id) (szc : Nat) (ps : List Nat) (asg body : Code) (sh : List (Nat × Option Nat)) : Post := fun e s' =>
 ∃ cs', s'.σ[id]? = some (some (l4 szc ps asg body .busy none sh cs')) ∧ match e with
 | .normal => AOps P σ0 sz ops Q rest ⟨putE env dst (.c (bool true)), s'.σ.put id (some (l4 szc ps asg body .ready none sh cs'))⟩
 | .ret => AOps P σ0 sz ops Q rest ⟨putE env dst (.c (bool false)), s'.σ.put id (some (l4 szc ps asg body .done (some .ret) sh cs'))⟩
 | .exit i => AOps P σ0 sz ops Q rest ⟨putE env dst (.c (bool false)), s'.σ.put id (some (l4 szc ps asg body .done (some (.exit i)) sh cs'))⟩
 | _ => False
theorem AOps.yield {x : Operand} {as' : List Operand} {ats : Array TypeId} {id : Id} {ts : List T} {E1 : Env} {σ1 : b7} (hx : ev env x = some (.c (.yld id))) (ha : evs env as' = some ts) (hσ : σv[id]? = some (some (l4 szc ps asg body .ready none sh cs)))
  (hl : Nat.beq ts.length ps.length = true) (hps : ps.all (fun p => Nat.blt p szc) = true) (hna : E4 asg = false) (hnr : E4 body = false) (hd : g7 sz dst = true) (hσ1 : σ1[id]? = some (some (l4 szc ps asg body .ready none sh cs))) (hσb : σ1.put id (some (l4 szc ps asg body .busy none sh cs)) = σb)
  (hass : AWP P σv szc asg (fun e s' => e = .normal ∧ s' = St.mk E1 σ1) ⟨zipE ps ts (slotE sh cs), σv⟩)
  (h : AWP P σv szc body (yPost P σ0 sz Q ops rest env dst id szc ps asg body sh) ⟨E1, σb⟩) :
  AOps P σ0 sz ops Q (⟨dst, .call ⟨.value x, as'.toArray, ats⟩, ty, pos, after, none⟩ :: rest) (St.mk env σv) := fun Γ φ a w hΓ hR ro => by
 subst hσb
 obtain ⟨b, base, hp, hv⟩ := yld_inv (i7 hR hx) hσ
 obtain ⟨b', o, us, g1, g2, ⟨r, rfl, r1, r2, r3, r4, r5, r6, r7⟩, g3⟩ := hR.st.blk _ _ hσ
 rw [hp] at g1; cases g1
 obtain ⟨k1, k2⟩ := evs_rel hR ha
 have hlen : ts.length = ps.length := Nat.eq_of_beq_eq_true hl
 have hrun : (execOp a.eval ⟨dst, .call ⟨.value x, as'.toArray, ats⟩, ty, pos, after, none⟩).run P w = .ok (.round b r.fn ((ps.zip (as'.map a.eval)).foldl (fun tmps (t, a) => tmps.setIfInBounds t a) r.tmps) asg body) w := by
  have := run_yield (P := P) (args := (as'.map a.eval).toArray) g2 (by rw [r3]; simp; omega)
  rw [r3, r4, r5] at this
  simp only [List.zip_toArray, List.foldl_toArray] at this
  simp [execOp, resolve, hv, Deferred.ofValue, invoke, this]
 refine P7 rfl ⟨fun _ _ => trivial, ?_⟩
 rw [sem_ro hrun (fun d => nofun), Oper.uponIn_round]
 have hz := zip_env (w := w) (φ := φ) (σ := σv) (A := Al Γ.N φ σv) (szc := szc) ps ts (as'.map a.eval) (slotE sh cs) r.tmps r6 (by simp [k1]) (fun p hp => by
   have := List.all_eq_true.1 hps p hp
   simpa using this) k2 (slot_env sh r7 g3)
 have hR1 : R ⟨w, Γ.N, φ, σv⟩ szc ⟨zipE ps ts (slotE sh cs), σv⟩ φ { tmps := (ps.zip (as'.map a.eval)).foldl (fun tmps (t, a) => tmps.setIfInBounds t a) r.tmps, defers := [] } w :=
  {toRs := hR.toRs.down.rs, defers := .nil, asize := hz.1, env := hz.2 }
 have hid : id.1 < σv.length := b7.lt_of hσ
 refine ⟨fun h => by simp at h, roundIn_of_wpIn (F := fw ro) trivial (wpIn_mono (hass _ φ _ _ rfl hR1 (some b) (fun e => by rw [hna] at e; cases e)) ?_)⟩
 rintro e a1 w1 ⟨s1, φ1, ⟨rfl, rfl⟩, hR1⟩
 have hφ1 : φ1 id = some (b, 0) := ((hR1.toRs.kept.obj id _ _ hid hσ1).1).trans hp
 obtain ⟨b', o, us, q1, q2, ⟨r', rfl, r1, r2, r3, r4, r5, r6, r7⟩, q3⟩ := hR1.st.blk _ _ hσ1
 rw [hφ1] at q1; cases q1
 have hW := Rs.writeB (q1 := loopP szc ps asg body .busy none sh) (cs1 := cs) (o1 := .loop { r' with state := .busy }) hR1.toRs hσ1 hφ1 q2 ⟨{ r' with state := .busy }, rfl, rfl, r2, r3, r4, r5, r6, r7⟩ q3
 refine ⟨_, run_beginRound (P := P) q2 r1, ?_⟩
 refine wpIn_mono (h _ φ1 _ _ rfl (hR1.of hW.1 hW.2) (some b) (fun e => by rw [hnr] at e; cases e)) ?_
 rintro e a' w' ⟨s', φ', ⟨cs', hσ', hm⟩, hR'⟩
 have hφ : φ' id = some (b, 0) := ((hR'.toRs.kept.obj id _ _ hid hσ').1).trans hp
 obtain ⟨b', o, us', q1, q2, ⟨r'', rfl, p1, p2, p3, p4, p5, p6, p7⟩, q3⟩ := hR'.st.blk _ _ hσ'
 rw [hφ] at q1; cases q1
 have fin : ∀ (jump : Option Code) (st : LoopState), st = (if jump.isNone then .ready else .done) → AOps P σ0 sz ops Q rest ⟨putE env dst (.c (bool jump.isNone)), s'.σ.put id (some (l4 szc ps asg body st jump sh cs'))⟩ →
   ∃ v w'', (Instr.endRound b jump).run P w' = .ok v w'' ∧ wpListIn (fw ro) 0 P ops (lift Γ sz Q) rest (a.put dst v) w'' := fun jump st hst hA => by
  subst hst
  have hE := Rs.writeB (q1 := loopP szc ps asg body (if jump.isNone then .ready else .done) jump sh) (cs1 := cs') (o1 := .loop { r'' with state := if jump.isNone then .ready else .done, pending := jump }) hR'.toRs hσ' hφ q2 ⟨_, rfl, rfl, rfl, p3, p4, p5, p6, p7⟩ q3
  refine ⟨_, _, run_endRound jump q2, ?_⟩
  exact hA Γ φ' _ _ hΓ ((hR.of hE.2.kept (hR.toRs.up hE.2)).put hd (.bool _)) ro
 cases e with
 | normal => exact fin none .ready rfl hm
 | ret => exact fin (some .ret) .done rfl hm
 | exit i => exact fin (some (.exit i)) .done rfl hm
 | goto t => exact hm.elim
 | panic c => exact hm.elim
 | outgrown => exact hm.elim
theorem T7 {id : Id} {env2 : Env} {σ2 σ3 : b7} (hσ : σ2[id]? = some (some (l4 szc ps asg body .busy none sh cs))) (h3 : σ2.put id (some (l4 szc ps asg body .ready none sh cs)) = σ3)
  (h : AOps P σ0 sz ops Q rest (St.mk (putE env dst (.c (bool true))) σ3)) : yPost P σ0 sz Q ops rest env dst id szc ps asg body sh .normal (St.mk env2 σ2) := ⟨cs, hσ, by subst h3; exact h⟩
theorem yPost_ret {id : Id} {env2 : Env} {σ2 σ3 : b7} (hσ : σ2[id]? = some (some (l4 szc ps asg body .busy none sh cs))) (h3 : σ2.put id (some (l4 szc ps asg body .done (some .ret) sh cs)) = σ3)
  (h : AOps P σ0 sz ops Q rest (St.mk (putE env dst (.c (bool false))) σ3)) : yPost P σ0 sz Q ops rest env dst id szc ps asg body sh .ret (St.mk env2 σ2) := ⟨cs, hσ, by subst h3; exact h⟩
def rPost (P : Program) (σ0 : b7) (sz : Nat) (Q : Post) (env : Env) (n : Nat) (ps : List Nat) (asg body : Code) (sh : List (Nat × Option Nat)) (σ' : b7) : Prop :=
 ∃ st pend cs', st ≠ .busy ∧ σ'[((n, []) : Id)]? = some (some (l4 sz ps asg body st pend sh cs')) ∧ match pend with
 | none => Q .normal ⟨env, σ'.put (n, []) none⟩
 | some c => AWP P σ0 sz c Q ⟨env, σ'.put (n, []) none⟩
theorem aj1 {n : Nat} {σ2 σ3 : b7} (hσ : σ2[((n, []) : Id)]? = some (some (l4 sz ps asg body .ready none sh cs))) (h3 : σ2.put (n, []) none = σ3) (h : Q .normal (St.mk env σ3)) : rPost P σ0 sz Q env n ps asg body sh σ2 :=
 ⟨.ready, none, cs, nofun, hσ, by subst h3; exact h⟩
theorem rPost_jump {n : Nat} {c : Code} {σ2 σ3 : b7} (hσ : σ2[((n, []) : Id)]? = some (some (l4 sz ps asg body .done (some c) sh cs))) (h3 : σ2.put (n, []) none = σ3) (h : AWP P σ0 sz c Q (St.mk env σ3)) : rPost P σ0 sz Q env n ps asg body sh σ2 :=
 ⟨.done, some c, cs, nofun, hσ, by subst h3; exact h⟩
theorem AWP.rangeFunc {g : Operand} {f : FuncId} {caps : List C} {n : Nat} {Qit : T → b7 → Prop} (sh : List (Nat × Option Nat)) (hg : ev env g = some (.c (.fn f caps))) (hs : slotC sh env = some cs) (hn : newF σv = some (n, [])) (hσ : u4 σv (.one (l4 sz ps asg body .ready none sh cs)) = some σ')
  (hf : FnOk P f (.c (.yld (n, [])) :: caps.map T.c) σ' Qit) (hq : ∀ r σ'', Qit r σ'' → rPost P σ0 sz Q env n ps asg body sh σ'') : AWP P σ0 sz (.rangeFunc g ps.toArray asg body) Q (St.mk env σv) := fun Γ φ a w hΓ hR ro hro => by
 have hro := hro rfl
 subst hro
 have h2 := B6 hn; have h3 := n8 hσ
 cases h2
 subst h3
 obtain ⟨fn, f1, f2, f3⟩ := hf.fn
 obtain ⟨cv, g1, g2, g3⟩ := fn_inv (i7 hR hg)
 obtain ⟨us, s1, _, s2⟩ := slot_mk sh hR.env hs
 refine wpIn_rangeFunc fun fid _ => ?_
 have hU := Rs.allocU hR.toRs (.deferred (some []))
 have hA := Rs.allocB (p0 := loopP sz ps asg body .ready none sh) (cs0 := cs) (us0 := us) (obj := .loop { state := .ready, pending := none, fn := fid, tmps := a.tmps, params := ps.toArray, assign := asg, body, defers := w.heap.size }) hU.2
  ⟨_, rfl, rfl, rfl, rfl, rfl, rfl, hR.asize, s1⟩ (fun i x hx => let ⟨u, q1, q2⟩ := s2 i x hx; ⟨u, q1, q2.mono hU.1⟩)
 have hw : (w.alloc (.deferred (some []))).heap.size = w.heap.size + 1 := by simp
 have hK := Kept.trans (by simp) hU.1 hA.1
 generalize hW : (w.alloc (.deferred (some []))).alloc (.loop { state := .ready, pending := none, fn := fid, tmps := a.tmps, params := ps.toArray, assign := asg, body, defers := w.heap.size }) = W at hA hK
 refine ⟨w.heap.size + 1, [{ target := .collected w.heap.size, args := #[] }], W, { target := .fn (.func f) cv.toArray, args := #[.func (.yield (w.heap.size + 1)) #[] #[]] }, W, f, (Value.func (.yield (w.heap.size + 1)) #[] #[] :: cv).toArray, W, ?_, ?_, fun _ _ => trivial, ?_, fun h => by simp at h, ?_⟩
 ·rw [← hW]; exact run_enterLoop_outer fid a.tmps ps.toArray asg body
 ·have e2 : a.eval (.const (.func (.yield (w.heap.size + 1)) #[] #[])) = .func (.yield (w.heap.size + 1)) #[] #[] := rfl
  simp [resolve, rangeCall, g1, e2, Deferred.ofValue]
 ·have f2' : ¬ fn.name = "runtime.NumGoroutine" := by simpa using f2
  have f3' : ¬ fn.body = none := fun e => by rw [e] at f3; cases f3
  simp [invoke, callFunc, f1, f2', f3']
 refine (callsIn_wide (n := 0 - 1)).2 ?_
 refine (hf.run ⟨_, Γ.N, _, _⟩ (Value.func (.yield (w.heap.size + 1)) #[] #[] :: cv) rfl hA.2.down (by simp [g2]) (fun i t u hi hu => ?_)).mono ?_
 ·match i with
  | 0 =>
   cases hi; cases hu
   exact .c (.yld (by simp) rfl fun p cs hp => ⟨_, 0, by simp [k8, hw], rfl⟩)
  | i + 1 =>
   simp only [List.getElem?_cons_succ, List.getElem?_map, Option.map_eq_some_iff] at hi hu
   obtain ⟨c, hc, rfl⟩ := hi
   exact .c ((g3 i c u hc hu).mono hK)
 ·rintro e w' ⟨v, r, σ2, φ', rfl, hQ, hr, hs'⟩
  obtain ⟨st, pend, cs', hb, hσ2, hm⟩ := hq r σ2 hQ
  have hφ : φ' (σv.length, []) = some (w.heap.size + 1, 0) := by
   rw [(hs'.kept.obj (σv.length, []) _ _ (by simp) hσ2).1]; simp [k8, hw]
  obtain ⟨b', o, us', q1, q2, ⟨r', rfl, p1, p2, p3, p4, p5, p6, p7⟩, q3⟩ := hs'.st.blk _ _ hσ2
  rw [hφ] at q1; cases q1
  have hE := Rs.writeB (q1 := fun _ _ => True) (cs1 := []) (us1 := []) (o1 := .loop { r' with state := .exhausted }) hs' hσ2 hφ q2 trivial (fun i x hx => by simp at hx)
  have hX := Rs.kill hE.2 (σv.length, [])
  rw [b7.put2] at hX
  have hDK := hK.trans (by rw [← hW]; simp; omega) (hX.2.kept)
  have hmark : Marks Γ φ' (σ2.put (σv.length, []) none) (w'.putObj (w.heap.size + 1) (.loop { r' with state := .exhausted })) ([{ target := .collected w.heap.size, args := #[] }] ++ a.defers) := by
   have m0 : Marks Γ φ σv (w.alloc (.deferred (some []))) ([{ target := .collected w.heap.size, args := #[] }] ++ a.defers) := by
    have m1 := hR.defers.kept hU.1
    refine ⟨List.nodup_cons.2 ⟨fun hin => ?_, m1.1⟩, fun d hd => ?_⟩
    ·obtain ⟨D, e, q, _⟩ := hR.defers.2 _ hin
     have : D = w.heap.size := by cases e; rfl
     rw [this] at q
     have := (Array.getElem?_eq_some_iff.1 q).1
     omega
    ·rcases List.mem_cons.1 hd with rfl | hd
     ·refine ⟨w.heap.size, rfl, heap_alloc_new w _, hR.size, fun hN => ?_, fun i blk base hi hp => ?_⟩
      ·have := hR.good.lt _ hN
       have := hR.size
       omega
      ·have := Al.own_lt hR.st hi hp
       omega
     ·exact m1.2 d hd
   exact (m0.kept hA.1).kept hX.2.kept
  have hRf : R Γ sz ⟨env, σ2.put (σv.length, []) none⟩ φ' { a with defers := [{ target := .collected w.heap.size, args := #[] }] ++ a.defers } (w'.putObj (w.heap.size + 1) (.loop { r' with state := .exhausted })) :=
   {toRs := hA.2.up hX.2, defers := hmark, asize := hR.asize, env := fun t v ht => let ⟨u, hu, hr⟩ := hR.env t v ht; ⟨u, hu, hr.mono hDK⟩ }
  refine ⟨r'.pending, _, run_endLoop q2 (by rw [p1]; exact hb), ?_⟩
  subst p2
  revert hm
  generalize r'.pending = pend at *
  intro hm
  cases pend with
  | none => exact ⟨_, φ', hm, hRf⟩
  | some c => exact hm Γ φ' _ _ hΓ hRf none (fun _ => rfl)
theorem AWP.rangeB {g : Operand} {f : FuncId} {caps : List C} {n : Nat} (sh : List (Nat × Option Nat)) (hg : ev env g = some (.c (.fn f caps))) (hs : slotC sh env = some cs) (hn : newF σv = some (n, []))
  (h : ∀ A B : Code, A = asg → B = body → ∃ (σ' : b7) (Qit : T → b7 → Prop), u4 σv (.one (l4 sz ps A B .ready none sh cs)) = some σ' ∧ FnOk P f (.c (.yld (n, [])) :: caps.map T.c) σ' Qit ∧ ∀ r σ'', Qit r σ'' → rPost P σ0 sz Q env n ps A B sh σ'') :
  AWP P σ0 sz (.rangeFunc g ps.toArray asg body) Q (St.mk env σv) := by
 obtain ⟨σ', Qit, h1, h2, h3⟩ := h asg body rfl rfl
 exact AWP.rangeFunc sh hg hs hn h1 h2 h3
theorem AOps.yieldB {A B : Code} {x : Operand} {as' : List Operand} {ats : Array TypeId} {id : Id} {ts : List T} {E1 : Env} {σ1 : b7} (hA : A = asg) (hB : B = body) (hx : ev env x = some (.c (.yld id))) (ha : evs env as' = some ts) (hσ : σv[id]? = some (some (l4 szc ps A B .ready none sh cs)))
  (hl : Nat.beq ts.length ps.length = true) (hps : ps.all (fun p => Nat.blt p szc) = true) (hna : E4 asg = false) (hnr : E4 body = false) (hd : g7 sz dst = true) (hσ1 : σ1[id]? = some (some (l4 szc ps A B .ready none sh cs))) (hσb : σ1.put id (some (l4 szc ps A B .busy none sh cs)) = σb)
  (hass : AWP P σv szc asg (fun e s' => e = .normal ∧ s' = St.mk E1 σ1) ⟨zipE ps ts (slotE sh cs), σv⟩)
  (h : AWP P σv szc body (yPost P σ0 sz Q ops rest env dst id szc ps A B sh) ⟨E1, σb⟩) :
  AOps P σ0 sz ops Q (⟨dst, .call ⟨.value x, as'.toArray, ats⟩, ty, pos, after, none⟩ :: rest) (St.mk env σv) := by
 subst hA hB
 exact AOps.yield hx ha hσ hl hps hna hnr hd hσ1 hσb hass h
end
end Ab
end
section
namespace Ab
open Go
def DatL : List C → List I → Prop
 | [], [] => True
 | c :: r, x :: s => (c = .imm x ∨ c = .imm (.val (.slice none 0 0)) ∧ ∃ k, x = .sl k []) ∧ DatL r s
 | _, _ => False
def DatLL : List (List C) → List (List I) → Prop
 | [], [] => True
 | c :: r, x :: s => DatL c x ∧ DatLL r s
 | _, _ => False
theorem DatL.get : ∀ {l : List C} {m : List I}, DatL l m → l.length = m.length ∧ ∀ (i : Nat) (x : I), m[i]? = some x → ∃ c, l[i]? = some c ∧ ∀ {w : World} {φ : Phi} {σ : b7} {A : Nat → Prop} {u : Value}, RelC w φ σ A c u → RelI w A x u
 | [], [], _ => ⟨rfl, fun i x h => by simp at h⟩
 | [], _ :: _, h => h.elim
 | _ :: _, [], h => h.elim
 | c :: r, x :: s, ⟨h1, h2⟩ => by
  obtain ⟨g1, g2⟩ := DatL.get h2
  refine ⟨by simp [g1], fun i y hy => ?_⟩
  cases i with
  | zero =>
   simp only [List.getElem?_cons_zero, Option.some.injEq] at hy
   subst hy
   refine ⟨c, rfl, fun {w φ σ A u} hr => ?_⟩
   rcases h1 with rfl | ⟨rfl, k, rfl⟩
   ·cases hr with | imm h => exact h
   ·cases hr with | imm h => cases h with | val => exact .slNil
  | succ i => simpa using g2 i y (by simpa using hy)
theorem DatLL.get : ∀ {l : List (List C)} {m : List (List I)}, DatLL l m → l.length = m.length ∧ ∀ (i : Nat) (x : List I), m[i]? = some x → ∃ c, l[i]? = some c ∧ DatL c x
 | [], [], _ => ⟨rfl, fun i x h => by simp at h⟩
 | [], _ :: _, h => h.elim
 | _ :: _, [], h => h.elim
 | c :: r, x :: s, ⟨h1, h2⟩ => by
  obtain ⟨g1, g2⟩ := DatLL.get h2
  refine ⟨by simp [g1], fun i y hy => ?_⟩
  cases i with
  | zero => simp only [List.getElem?_cons_zero, Option.some.injEq] at hy; subst hy; exact ⟨c, rfl, h1⟩
  | succ i => simpa using g2 i y (by simpa using hy)
section
variable {P : Program} {σ0 : b7} {sz : Nat} {Q : Post} {env env' : Env} {σv σ' : b7} {ops : Array Oper} {rest : List Oper} {dst : Option Nat} {ty : TypeId} {pos : String} {after : Array Edge}
theorem S.litD {α : Type} {f : α → List I} {l : List α} {t e : TypeId} {k bytes n : Nat} {z : Value} {zc : List C} {parts : List (Nat × Operand)} {ps : List (Nat × T)} {ess : List (List C)} [ht : TyD P t (.slice e)] [hs : TyS P e k bytes z] [hz : TyZ P e zc]
    (hl : Nat.beq zc.length k = true) (hkp : Nat.blt 0 k = true) (hn0 : Nat.blt 0 n = true) (hsm : Nat.ble (n * k) 16777216 = true) (hps : evP env parts = some ps) (hf : fillC (fun i => some (i * k, k)) (List.replicate n zc).flatten ps = some ess.flatten) (hlen : lens k ess = true) (hn : Nat.beq ess.length n = true)
    (hdat : DatLL ess (l.map f)) (hd : g7 sz dst = true)
    (h : AOps P σ0 sz ops Q rest (St.mk (putE env dst (.c (.imm (.sl k (l.map f))))) σv)) : AOps P σ0 sz ops Q (⟨dst, .buildSlice t n parts.toArray, ty, pos, after, none⟩ :: rest) (St.mk env σv) := by
  have hl' : zc.length = k := Nat.eq_of_beq_eq_true hl
  have hk0 : 0 < k := by simpa using hkp
  have hn1 : 0 < n := by simpa using hn0
  have hn' : ess.length = n := Nat.eq_of_beq_eq_true hn
  have hsm' : ¬ (16777216 < n * k) := by have : n * k ≤ 16777216 := Nat.le_of_ble_eq_true hsm
                                         omega
  have hle := lens_mem hlen
  obtain ⟨d1, d2⟩ := hdat.get
  refine AOps.valueW rfl hd (.c (.imm (.sl k (l.map f)))) σv (fun Γ φ a w hR => ?_) (by cases dst <;> exact h)
  obtain ⟨e1, e2⟩ := ab2 hR hps
  obtain ⟨size', bytes', z', v, hs', k1, k2⟩ := hz.h
  have hzz : z' = z := by
    obtain ⟨i, a1, _, _, a4⟩ := hs.h
    obtain ⟨i', b1, _, _, b4⟩ := hs'.h
    rw [a1] at b1; cases b1
    rw [a4] at b4; cases b4; rfl
  subst hzz
  obtain ⟨zr1, zr2⟩ := H9 (w := w) (φ := φ) (σ := σv) (A := Al Γ.N φ σv) (L9 k1) k2
  have hne : ¬ n * k = 0 := Nat.ne_of_gt (Nat.mul_pos hn1 hk0)
  have hbase : ∀ base, base = (Array.range (n * k)).map (fun i => (if n * k = 0 then (#[] : Array Value) else z'.cells)[i % (if n * k = 0 then (#[] : Array Value) else z'.cells).size]!) → RelL w φ σv (Al Γ.N φ σv) (List.replicate n zc).flatten base := by
    rintro base rfl
    refine ⟨by simp [hl'], fun i c hi => ?_⟩
    have hin : i < n * k := by
      have := (List.getElem?_eq_some_iff.1 hi).1
      simpa [hl'] using this
    rw [zrep_get (by omega) n i (by rw [hl']; exact hin), hl'] at hi
    obtain ⟨u, hu, hr⟩ := zr2 _ c hi
    refine ⟨u, ?_, hr⟩
    have hzs : z'.cells.size = k := by rw [zr1, hl']
    have hlt : i % k < z'.cells.size := by rw [hzs]; exact Nat.mod_lt _ hk0
    simp only [if_neg hne, Array.getElem?_map, Array.getElem?_range, hzs, hin, if_true, Option.map_some]
    rw [Array.getElem?_eq_getElem hlt] at hu
    simp [getElem!_pos, hlt, Option.some.inj hu]
  obtain ⟨arr', f1, f2⟩ := V8 (w := w) e1 e2 (hbase _ rfl) hf
  have hfl : ess.flatten.length = n * k := by
    rw [List.length_flatten]
    have : ess.map List.length = List.replicate n k := by
      rw [← hn']
      apply List.ext_getElem?
      intro i
      rw [List.getElem?_map, List.getElem?_replicate]
      by_cases hi : i < ess.length
      · rw [if_pos hi, List.getElem?_eq_getElem hi]
        simp only [Option.map_some]
        rw [hle _ (List.getElem_mem hi)]
      · rw [if_neg hi, List.getElem?_eq_none (by omega)]; rfl
    rw [this, List.sum_replicate_nat]
  have hU := hR.toRs.allocU (.cells arr' e (0, 0))
  have hold : ∀ b, b < w.heap.size → (w.alloc (.cells arr' e)).heap[b]? = w.heap[b]? := fun b hb => by first | exact heap_alloc_old w _ hb | exact heap_alloc_old w _ _ hb
  have hnew : Al Γ.N φ σv w.heap.size := ⟨fun hN => by have := hR.toRs.good.lt _ hN; have := hR.toRs.size; omega, fun i blk base hi hp => by have := Al.own_lt hR.toRs.st hi hp; omega⟩
  have hnm : n ≤ maxLen := by
    have : n * 1 ≤ n * k := Nat.mul_le_mul_left _ hk0
    simp only [maxLen]; omega
  have hln : (l.map f).length = n := by rw [← d1, hn']
  have key : ∀ (j : Nat) (x : List I) (o : Nat) (y : I), (l.map f)[j]? = some x → x[o]? = some y → ∃ u, arr'[j * k + o]? = some u ∧ RelI w (Al Γ.N φ σv) y u := fun j x o y hx hy => by
    obtain ⟨c, c1, c2⟩ := d2 j x hx
    obtain ⟨_, c3⟩ := c2.get
    obtain ⟨c0, c4, c5⟩ := c3 o y hy
    obtain ⟨u, u1, u2⟩ := f2.2 _ c0 (flat_get hle j c o c0 c1 c4)
    exact ⟨u, u1, c5 u2⟩
  have hrel : RelT (w.alloc (.cells arr' e)) φ σv (Al Γ.N φ σv) (.c (.imm (.sl k (l.map f)))) (.slice (some ⟨w.heap.size, 0, none⟩) n n) := by
    refine .c (.imm ?_)
    have := RelI.sl (w := w.alloc (.cells arr' e)) (A := Al Γ.N φ σv) (k := k) (es := l.map f) (a := ⟨w.heap.size, 0, none⟩) (cap := n) (fun j o => (arr'[j * k + o]?).getD (.bool false)) (by rw [hln]; exact Nat.le_refl _) hnm (fun j x hx => by
        obtain ⟨c, c1, c2⟩ := d2 j x hx
        rw [← c2.get.1, hle c (List.mem_of_getElem? c1)]) (fun j x o y hx hy => by
        obtain ⟨u, u1, _⟩ := key j x o y hx hy
        refine ⟨hnew, ?_⟩
        rw [u1, Addr.add_lit]
        have hh := heap_alloc_new w (.cells arr' e)
        unfold World.cell?
        dsimp only
        rw [hh]
        simpa using u1) (fun j x o y hx hy => by
        obtain ⟨u, u1, u2⟩ := key j x o y hx hy
        rw [u1]
        exact u2.mono (fun b _ hb => hold b hb) fun b hb _ => hb)
    rw [hln] at this
    exact this
  refine ⟨.slice (some ⟨w.heap.size, 0, none⟩) n n, _, φ, ?_, hrel, hR.of hU.1 hU.2⟩
  have e3 : (execOp a.eval ⟨dst, .buildSlice t n parts.toArray, ty, pos, after, none⟩).run P w = ((Instr.buildSlice t n (parts.map fun p => (p.1, a.eval p.2)).toArray).run P w).andThen fun v w => .ok (.value v) w := by
    simp [execOp]
  rw [e3]
  simp only [if_neg hne] at f1
  have hz2 : (zeroValue e).run P w = .ok z' w := O6 (t := e) w
  simp [Instr.buildSlice, run_underlying ht.h, l5 (t := e), hz2, hne, hsm', newRow]
  try simp at f1
  rw [f1]
  simp
end
end Ab
end
section
namespace Ab
open Go
theorem Rs.adopt {Γ : Cx} {σ : b7} {φ : Phi} {w w' : World} (h : Rs Γ σ φ w) (hos : w'.os = w.os) (ht : w'.tape = w.tape) (hdr : w.drawn ≤ w'.drawn) (ho : w'.output = w.output) (hs : w.heap.size ≤ w'.heap.size) (hold : ∀ b, b < w.heap.size → w'.heap[b]? = w.heap[b]?)
  {k : Nat} {es : List (List C)} {q : Option (Nat × Nat)} (hq : ∀ b base, q = some (b, base) → w.heap.size ≤ b) (hblk : ∀ φ σ A, BlkR w' φ σ A q (.cells k es)) :
  Kept w w' φ (fun i => if i = (σ.length, []) then q else φ i) σ (σ ++ [.one (.cells k es)]) (Al Γ.N φ σ) (Al Γ.N (fun i => if i = (σ.length, []) then q else φ i) (σ ++ [.one (.cells k es)])) ∧
  Rs Γ (σ ++ [.one (.cells k es)]) (fun i => if i = (σ.length, []) then q else φ i) w' := by
 generalize hφ : (fun i => if i = (σ.length, []) then q else φ i) = φ'
 have plo : ∀ i : Id, i.1 < σ.length → φ' i = φ i := fun i hi => by
  have : i ≠ (σ.length, []) := fun e => by rw [e] at hi; exact Nat.lt_irrefl _ hi
  rw [← hφ]; simp [this]
 have pnew : φ' (σ.length, []) = q := by rw [← hφ]; simp
 have cases2 : ∀ (i : Id) blk, (σ ++ [.one (.cells k es)])[i]? = some (some blk) → (i.1 < σ.length ∧ σ[i]? = some (some blk)) ∨ (i = (σ.length, []) ∧ blk = .cells k es) := fun i blk hi => b7.get_new hi
 have A1 : ∀ b, Al Γ.N φ σ b → b < w.heap.size → Al Γ.N φ' (σ ++ [.one (.cells k es)]) b := fun b hb hl => ⟨hb.1, fun i blk base hi hp => by
  rcases cases2 i blk hi with ⟨h1, h2⟩ | ⟨rfl, rfl⟩
  ·rw [plo i h1] at hp; exact hb.2 i blk base h2 hp
  ·rw [pnew] at hp; have := hq b base hp; omega⟩
 have hK : Kept w w' φ φ' σ (σ ++ [.one (.cells k es)]) (Al Γ.N φ σ) (Al Γ.N φ' (σ ++ [.one (.cells k es)])) :=
  {imm := fun b _ hl => hold b hl, all := A1, len := by simp,
   cells := fun i kk es' hi he => by
    rw [b7.get_left hi] at he
    exact ⟨es', he, rfl, plo i hi, fun b base arr ety hp hb => ⟨arr, (hold b (Al.own_lt h.st he hp)).trans hb, rfl⟩⟩,
   obj := fun i p' cs' hi he => by
    rw [b7.get_left hi] at he
    exact ⟨plo i hi, p', cs', he⟩ }
 refine ⟨hK, ?_⟩
 exact {
  good := h.good
  st := ⟨fun i b hi => by
    rcases cases2 i b hi with ⟨h1, h2⟩ | ⟨rfl, rfl⟩
    ·rw [plo i h1]
     exact (h.st.blk i b h2).mono hK fun g base hp => hold g (Al.own_lt h.st h2 hp)
    ·rw [pnew]
     exact hblk _ _ _,
   fun i j bi bj p1 q1 hi hj hp hq1 he => by
    obtain ⟨pb, po⟩ := p1
    obtain ⟨qb, qo⟩ := q1
    dsimp only at he
    subst he
    rcases cases2 i bi hi with ⟨h1, h2⟩ | ⟨rfl, rfl⟩ <;> rcases cases2 j bj hj with ⟨g1, g2⟩ | ⟨rfl, rfl⟩
    ·rw [plo i h1] at hp; rw [plo j g1] at hq1
     exact h.st.inj i j bi bj _ _ h2 g2 hp hq1 rfl
    ·rw [plo i h1] at hp; rw [pnew] at hq1
     have := Al.own_lt h.st h2 hp; have := hq _ _ hq1; omega
    ·rw [plo j g1] at hq1; rw [pnew] at hp
     have := Al.own_lt h.st g2 hq1; have := hq _ _ hp; omega
    ·rfl⟩
  keep := fun i blk b base hi hp hKb => by
   rcases cases2 i blk hi with ⟨h1, h2⟩ | ⟨rfl, rfl⟩
   ·rw [plo i h1] at hp; exact h.keep i blk b base h2 hp hKb
   ·rw [pnew] at hp
    have := hq _ _ hp
    have := hKb.1; have := h.size; omega
  os := hos.trans h.os
  tape := ht.trans h.tape
  drawn := Nat.le_trans h.drawn hdr
  output := ho.trans h.output
  size := Nat.le_trans h.size hs
  block := fun b hKb => (hold b (Nat.lt_of_lt_of_le hKb.1 h.size)).trans (h.block b hKb)
  kept := Kept.trans h.size h.kept hK }
section
variable {P : Program} {σ0 : b7} {sz : Nat} {Q : Post} {env : Env} {σv σ' : b7} {ops : Array Oper} {rest : List Oper} {dst : Option Nat} {ty : TypeId} {pos : String} {after : Array Edge}
theorem S.freshL {α : Type} {g : α → List I} {l : List α} {x : Operand} {as' : List Operand} {ats : Array TypeId} {f : FuncId} {caps : List C} {ts ts' : List T} {k : Nat} {n : Id} (hg : ∀ a, ((g a).map C.imm).all C.scal = true) (hx : ev env x = some (.c (.fn f caps))) (ha : evs env as' = some ts) (hl : U3 σv (ts ++ caps.map T.c) ts') (hd : g7 sz dst = true)
  (hf : m7 P f ts' k (l.map g)) (hn : newF σv = some n) (hσ : u4 σv (.one (vec k g l)) = some σ') (h : AOps P σ0 sz ops Q rest (St.mk (putE env dst (.c (.own n 0 l.length))) σ')) :
  AOps P σ0 sz ops Q (⟨dst, .call ⟨.value x, as'.toArray, ats⟩, ty, pos, after, none⟩ :: rest) (St.mk env σv) := by
 have h1 := B6 hn; have h2 := n8 hσ
 subst h1 h2
 intro Γ φ a w hΓ hR ro
 obtain ⟨vs, h1, h2, h3⟩ := aa1 (P := P) (dst := dst) (ty := ty) (pos := pos) (after := after) (ats := ats) hR hx ha hf.fn
 obtain ⟨l1, l2⟩ := hl.get
 refine P7 rfl (ac1 h1 ?_)
 refine (hf.run (Cx.open w) vs rfl (good_open w) (by rw [l1]; exact h2) (fun i t u hi hu => ?_)).mono ?_
 ·obtain ⟨t0, ht0, hlend⟩ := l2 i t hi
  exact hlend.rel hR (al_open w) (h3 i t0 u ht0 hu)
 ·rintro e w' ⟨v, r', σ2, φ', rfl, ⟨id', rfl, hid⟩, hrel, hs⟩
  have hview := x7 hrel hid
  have hb := hs.st.blk _ _ hid
  have hnew : ∀ b base, φ' id' = some (b, base) → w.heap.size ≤ b := fun b base hp => by
   have := hs.keep id' _ b base hid hp
   rcases Nat.lt_or_ge b w.heap.size with c | c
   ·exact absurd ⟨c, fun i blk base hi => by simp [Cx.open] at hi⟩ this
   ·exact c
  have scal : ∀ (j : Nat) (e : List C) (o : Nat) (y : C), ((l.map g).map (·.map C.imm))[j]? = some e → e[o]? = some y → y.scal = true := fun j e o y he hy => by
   simp only [List.map_map, List.getElem?_map, Option.map_eq_some_iff, Function.comp_apply] at he
   obtain ⟨z, _, rfl⟩ := he
   have := List.all_eq_true.1 (hg z)
   exact this y (List.mem_of_getElem? hy)
  obtain ⟨hK1, hR1⟩ := hR.toRs.adopt (w' := w') hs.os hs.tape hs.drawn hs.output hs.size (fun b hb => hs.block b ⟨hb, fun i blk base hi => by simp [Cx.open] at hi⟩) (k := k) (es := (l.map g).map (·.map C.imm)) (q := φ' id') hnew (fun φ σ A => by
   rcases hb with h | ⟨b, base, arr, ety, p1, p2, p3, p4, p5⟩
   ·exact .inl h
   ·refine .inr ⟨b, base, arr, ety, p1, p2, p3, p4, fun j e o y he hy => ?_⟩
    obtain ⟨u, hu, hr⟩ := p5 j e o y he hy
    exact ⟨u, hu, C.scal_rel (scal j e o y he hy) hr⟩)
  have hlen : (l.map g).length = l.length := List.length_map ..
  refine h Γ _ _ w' hΓ ((hR.of hK1 hR1).put hd ?_) ro
  refine H0 (k := k) (es := (l.map g).map (·.map C.imm)) (b7.get_last _ _) (by cases hrel with | c hr => exact hr.one) ?_
  rw [hlen] at hview
  simpa using hview
end
end Ab
end
section
namespace Ab
open Go
def mvr (r n : Nat) (i : Id) : Id := ((match Nat.beq i.1 r with | true => n | false => i.1), i.2)
section
variable {P : Program} {σ0 : b7} {sz : Nat} {Q : Post} {env env' : Env} {σv σ' : b7} {ops : Array Oper} {rest : List Oper} {dst : Option Nat} {ty : TypeId} {pos : String} {after : Array Edge}
inductive EntR (r n : Nat) (σ : b7) (m i : Nat) : Ent → Prop
 | dead : EntR r n σ m i .dead
 | one {b : Blk} (h1 : b.ok m = true) (h2 : σ[mvr r n (i, [])]? = some (some (b.ren (mvr r n)))) : EntR r n σ m i (.one b)
 | vec {α : Type} {k : Nat} {f : α → List I} {l : List α} (h2 : σ[mvr r n (i, [])]? = some (some (vec k f l))) : EntR r n σ m i (.one (vec k f l))
 | mat {α : Type} {k j : Nat} {f : α → List I} {M : List (List α)} (hj : (mvr r n (i, [])).1 = j) (hi : Nat.blt i m = true) (h : σ[j]? = some (mat (j, []) k f M)) : EntR r n σ m i (mat (i, []) k f M)
 | any {e : Ent} (h : ∀ p b, e.sub p = some b → b.ok m = true ∧ σ[mvr r n (i, p)]? = some (some (b.ren (mvr r n)))) : EntR r n σ m i e
def StR_ (r n : Nat) (σ : b7) (m : Nat) : Nat → b7 → Prop
 | _, [] => True
 | i, e :: l => EntR r n σ m i e ∧ StR_ r n σ m (i + 1) l
theorem EntR.get {r n : Nat} {σ : b7} {m i : Nat} {e : Ent} (h : EntR r n σ m i e) {p : List Nat} {b : Blk} (hb : e.sub p = some b) : b.ok m = true ∧ σ[mvr r n (i, p)]? = some (some (b.ren (mvr r n))) := by
 cases h with
 | dead => cases p <;> cases hb
 | one h1 h2 => cases p with
  | nil => cases hb; exact ⟨h1, h2⟩
  | cons => cases hb
 | vec h2 => cases p with
  | nil => cases hb; exact ⟨P2, by rw [Blk.im_ren]; exact h2⟩
  | cons => cases hb
 | @mat α k j f M hj hi h =>
  have hi' : i < m := by simpa using hi
  have e : ∀ q, mvr r n (i, q) = (j, q) := fun q => by rw [← hj]; rfl
  rw [e, p9 h]
  cases p with
  | nil =>
   cases hb
   refine ⟨hdr_ok hi' _, ?_⟩
   rw [mat_main]
   congr 2
   simp only [Blk.ren]
   congr 1
   apply List.ext_getElem?
   intro q
   rw [List.getElem?_map]
   simp only [hdr, List.getElem?_mapIdx, Option.map_map]
   cases M[q]? with
   | none => rfl
   | some row => simp [C.renL, C.ren, e]
  | cons a q =>
   rw [G8] at hb ⊢
   split at hb
   ·rename_i row hrow
    cases q with
    | cons b q => cases hb
    | nil => cases hb; exact ⟨P2, by rw [Blk.im_ren]⟩
   ·cases hb
 | any h => exact h p b hb
theorem StR_.get {r n m : Nat} {σ : b7} : ∀ {i : Nat} {σ' : b7}, StR_ r n σ m i σ' → ∀ (j : Nat) (p : List Nat) (b : Blk), σ'[((j, p) : Id)]? = some (some b) → b.ok m = true ∧ σ[mvr r n (i + j, p)]? = some (some (b.ren (mvr r n)))
 | _, [], _, j, p, b, h => by simp at h
 | i, e :: l, h, 0, p, b, hb => by
  rw [b7.at_eq] at hb
  simp only [b7.at, List.getElem?_cons_zero, Option.some.injEq] at hb
  exact h.1.get hb
 | i, e :: l, h, j + 1, p, b, hb => by
  have := StR_.get (i := i + 1) h.2 j p b (by
   rw [b7.at_eq] at hb ⊢
   simpa [b7.at] using hb)
  rwa [show i + 1 + j = i + (j + 1) by omega] at this
def EnvR (r n : Nat) (env : Env) : Env → Prop
 | [] => True
 | (t, v) :: l => lookup t env = some (v.ren (mvr r n)) ∧ EnvR r n env l
theorem EnvR.get {r n : Nat} : ∀ {env' : Env}, EnvR r n env env' → ∀ t v, lookup t env' = some v → lookup t env = some (v.ren (mvr r n))
 | [], _, t, v, h => by simp [lookup] at h
 | (k, x) :: l, ⟨h1, h2⟩, t, v, h => by
  simp only [lookup] at h
  split at h
  ·rename_i he; cases h; rw [← Nat.eq_of_beq_eq_true he]; exact h1
  ·exact EnvR.get h2 t v h
/-! ### A row of nothing appended to rows -/
end
end Ab
end
section
namespace Ab
open Go
section
variable {P : Program} {σ0 : b7} {sz : Nat} {Q : Post} {env env' : Env} {σv σ' : b7}
end
end Ab
end
section
namespace Ab
open Go
section
variable {P : Program} {σ0 : b7} {sz : Nat} {Q : Post} {env env' : Env} {σv σ' : b7} {ops : Array Oper} {rest : List Oper} {dst : Option Nat} {ty : TypeId} {pos : String} {after : Array Edge}
def isIfaceD : TypeDesc → Bool
 | .interface _ => true
 | _ => false
theorem ifc1_inv {w : World} {φ : Phi} {σ : b7} {A : Nat → Prop} {t : TypeId} {c : C} {u : Value} (h : RelT w φ σ A (.c (.ifc t [c] false)) u) : ∃ v, u = .iface t v ∧ RelC w φ σ A c v := by
 cases h with | c h => cases h with | ifc1 h => exact ⟨_, rfl, h⟩
theorem ifcA_inv {w : World} {φ : Phi} {σ : b7} {A : Nat → Prop} {t : TypeId} {cs : List C} {u : Value} (h : RelT w φ σ A (.c (.ifc t cs true)) u) : ∃ us : List Value, us.length = cs.length ∧ u = .iface t (.agg us.toArray) ∧ ∀ (i : Nat) (c : C) (v : Value), cs[i]? = some c → us[i]? = some v → RelC w φ σ A c v := by
 cases h with | c h => cases h with | ifcA us h =>
  refine ⟨(List.range cs.length).map us, by simp, rfl, fun i c v hi hv => ?_⟩
  rw [List.getElem?_map, Option.map_eq_some_iff] at hv
  obtain ⟨j, hj, rfl⟩ := hv
  obtain ⟨_, rfl⟩ := F1 hj
  exact h i c hi
theorem S.mkIfc {x : Operand} {t : TypeId} {d : TypeDesc} {c : C} [ht : TyD P t d] (hi : isIfaceD d = false) (hx : ev env x = some (.c c)) (hd : g7 sz dst = true)
  (h : AOps P σ0 sz ops Q rest (St.mk (putE env dst (.c (.ifc t [c] false))) σv)) : AOps P σ0 sz ops Q (⟨dst, .makeInterface t x, ty, pos, after, none⟩ :: rest) (St.mk env σv) :=
 .value rfl hd _ (fun Γ φ a w hR => by
  have hr := i7 hR hx
  generalize hu : a.eval x = u at hr
  cases hr with | c hr =>
   refine ⟨.iface t u, ?_, .c (.ifc1 hr)⟩
   cases d <;> first | (cases hi; done) | simp [execOp, Instr.makeInterface, run_underlying ht.h, hu]) h
theorem S.mkIfcA {x : Operand} {t : TypeId} {d : TypeDesc} {cs : List C} [ht : TyD P t d] (hi : isIfaceD d = false) (hx : ev env x = some (.agg cs)) (hd : g7 sz dst = true)
  (h : AOps P σ0 sz ops Q rest (St.mk (putE env dst (.c (.ifc t cs true))) σv)) : AOps P σ0 sz ops Q (⟨dst, .makeInterface t x, ty, pos, after, none⟩ :: rest) (St.mk env σv) :=
 .value rfl hd _ (fun Γ φ a w hR => by
  have hr := i7 hR hx
  generalize hu : a.eval x = u at hr
  cases hr with | agg us hr =>
   refine ⟨.iface t (.agg ((List.range cs.length).map us).toArray), ?_, .c (.ifcA us hr)⟩
   cases d <;> first | (cases hi; done) | simp [execOp, Instr.makeInterface, run_underlying ht.h, hu]) h
theorem S.assertA {x : Operand} {xt t : TypeId} {d : TypeDesc} {cs : List C} [ht : TyD P t d] (hi : isIfaceD d = false) (hx : ev env x = some (.c (.ifc t cs true))) (hd : g7 sz dst = true)
  (h : AOps P σ0 sz ops Q rest (St.mk (putE env dst (.agg cs)) σv)) : AOps P σ0 sz ops Q (⟨dst, .typeAssert x xt t false, ty, pos, after, none⟩ :: rest) (St.mk env σv) :=
 .value rfl hd _ (fun Γ φ a w hR => by
  obtain ⟨us, hl, hv, hr⟩ := ifcA_inv (i7 hR hx)
  refine ⟨.agg us.toArray, ?_, RelT.agg' (by simp [hl]) fun i c v hc hv => hr i c v hc (by simpa using hv)⟩
  cases d <;> first | (cases hi; done) | simp [execOp, Instr.typeAssert, run_underlying ht.h, hv]) h
/-! ### Calls through an interface -/
theorem AOps.enterS {o : Oper} {f : FuncId} {ts : List T} {Qc : T → b7 → Prop} (hg : o.guard = none) (hd : g7 sz o.dst = true) (hf : FnOk P f ts σv Qc)
  (he : ∀ Γ φ a w, R Γ sz (St.mk env σv) φ a w → ∃ vs : List Value, (execOp a.eval o).run P w = .ok (.enter f vs.toArray) w ∧ ts.length = vs.length ∧ ∀ (i : Nat) (t : T) (u : Value), ts[i]? = some t → vs[i]? = some u → RelT w φ σv (Al Γ.N φ σv) t u)
  (h : ∀ r σ', Qc r σ' → AOps P σ0 sz ops Q rest ((St.mk env σ').put o.dst r)) : AOps P σ0 sz ops Q (o :: rest) (St.mk env σv) := fun Γ φ a w hΓ hR ro => by
 obtain ⟨vs, h1, h2, h3⟩ := he Γ φ a w hR
 refine P7 hg (ac1 h1 ?_)
 refine (hf.run ⟨w, Γ.N, φ, σv⟩ vs rfl hR.toRs.down h2 h3).mono ?_
 rintro e w' ⟨v, r, σ', φ', rfl, hq, hr, hs⟩
 exact h r σ' hq Γ φ' _ w' hΓ ((hR.of hs.kept (hR.toRs.up hs)).put hd hr) ro
class MethF (P : Program) (t : TypeId) (name : String) (f : outParam FuncId) (b : outParam Bool) : Prop where
 h : ((P.info? t).bind fun i => (i.methods.find? (·.name == name)).map fun m => (m.path.toList, m.func)) = some ([], some (f, b))
theorem MethF.get {t : TypeId} {name : String} {f : FuncId} {b : Bool} [h : MethF P t name f b] : ∃ i m, P.info? t = some i ∧ i.methods.find? (·.name == name) = some m ∧ m.path = #[] ∧ m.func = some (f, b) := by
 obtain ⟨i, h1, h2⟩ := Option.bind_eq_some_iff.1 h.h
 obtain ⟨m, h3, h4⟩ := Option.map_eq_some_iff.1 h2
 simp only [Prod.mk.injEq] at h4
 exact ⟨i, m, h1, h3, by simpa using h4.1, h4.2⟩
theorem run_recvP {t e : TypeId} {v : Value} {wr : Option String} {w : World} [hd : TyD P t (.pointer e)] : (receiverAt t (.val v) true wr).run P w = .ok v w := by
 unfold receiverAt
 rw [Sem.run_bind, run_underlying hd.h]
 rfl
theorem run_recvV {t e : TypeId} {de : TypeDesc} {a : Addr} {u : Value} {wr : String} {w : World} [hd : TyD P t (.pointer e)] [he : TyD P e de] (ha : s8 de = false) (hu : w.cell? a = some u) : (receiverAt t (.val (.pointer (some a))) false (some wr)).run P w = .ok u w := by
 unfold receiverAt
 rw [Sem.run_bind, run_underlying hd.h]
 show (loadVar e a).run P w = _
 exact U0 ha hu
theorem run_method {t : TypeId} {name : String} {f : FuncId} {b : Bool} {v u : Value} {w : World} [hm : MethF P t name f b] (hr : ∀ wr : String, (receiverAt t (.val v) b (some wr)).run P w = .ok u w) : (method (P.types.size + Made.depth) t v name).run P w = .ok (f, u) w := by
 obtain ⟨i, m, h1, h2, h3, h4⟩ := hm.get
 rw [show P.types.size + Made.depth = (P.types.size + 99) + 1 from rfl]
 have hi : (typeInfo t).run P w = .ok i w := by simp [typeInfo, h1]
 unfold method
 rw [Sem.run_bind, hi]
 simp only [Result.andThen_ok, h2, h3, h4, follow]
 simp only [Sem.run_bind, Sem.run_pure, Result.andThen_ok, Array.isEmpty_empty, if_true]
 rw [hr]
 rfl
theorem fn_body {f : FuncId} (hfn : ∃ fn, P.funcs[f]? = some fn ∧ (fn.name == "runtime.NumGoroutine") = false ∧ fn.body.isNone = false) (vs : Array Value) (w : World) : (callFunc f vs).run P w = .ok (.enter f vs) w := by
 obtain ⟨fn, h1, h2, h3⟩ := hfn
 have h2' : ¬ fn.name = "runtime.NumGoroutine" := by simpa using h2
 have h3' : ¬ fn.body = none := fun e => by rw [e] at h3; cases h3
 simp [callFunc, h1, h2', h3']
theorem invoke_args {Γ : Cx} {φ : Phi} {a : Act} {w : World} (hR : R Γ sz (St.mk env σv) φ a w) {as' : List Operand} {ts : List T} (ha : evs env as' = some ts) {c : C} {v : Value} (hc : RelC w φ σv (Al Γ.N φ σv) c v) :
  (T.c c :: ts).length = (v :: as'.map a.eval).length ∧ ∀ (i : Nat) (t : T) (u : Value), (T.c c :: ts)[i]? = some t → (v :: as'.map a.eval)[i]? = some u → RelT w φ σv (Al Γ.N φ σv) t u := by
 obtain ⟨k1, k2⟩ := evs_rel hR ha
 refine ⟨by simp [k1], fun i t u hi hu => ?_⟩
 cases i with
 | zero => simp only [List.getElem?_cons_zero, Option.some.injEq] at hi hu; subst hi hu; exact .c hc
 | succ i => exact k2 i t u (by simpa using hi) (by simpa using hu)
theorem S.invokeP {x : Operand} {as' : List Operand} {ats : Array TypeId} {name : String} {t e : TypeId} {c : C} {f : FuncId} {ts : List T} {r2 : T} {σ'' : b7} [hd : TyD P t (.pointer e)] [hm : MethF P t name f true] (hx : ev env x = some (.c (.ifc t [c] false))) (ha : evs env as' = some ts) (hdst : g7 sz dst = true)
  (hf : FnOk P f (.c c :: ts) σv fun r s => r = r2 ∧ s = σ'') (h : AOps P σ0 sz ops Q rest (St.mk (putE env dst r2) σ'')) :
  AOps P σ0 sz ops Q (⟨dst, .call ⟨.invoke x name, as'.toArray, ats⟩, ty, pos, after, none⟩ :: rest) (St.mk env σv) := by
 refine AOps.enterS rfl hdst hf (fun Γ φ a w hR => ?_) (fun r s ⟨h1, h2⟩ => by subst h1 h2; exact h)
 obtain ⟨v, hv, hr⟩ := ifc1_inv (i7 hR hx)
 refine ⟨v :: as'.map a.eval, ?_, invoke_args hR ha hr⟩
 have := fn_body hf.fn (v :: as'.map a.eval).toArray w
 simp [execOp, resolve, invoke, callMethod, hv, run_method (P := P) (t := t) (name := name) (fun wr => run_recvP (e := e))]
 simpa [List.take_of_length_le] using this
theorem S.invokeV {x : Operand} {as' : List Operand} {ats : Array TypeId} {name : String} {t e : TypeId} {de : TypeDesc} {id : Id} {j o k : Nat} {es : List (List C)} {el : List C} {c : C} {f : FuncId} {ts : List T} {r2 : T} {σ'' : b7} [hd : TyD P t (.pointer e)] [he : TyD P e de] [hm : MethF P t name f false] (hagg : s8 de = false)
  (hx : ev env x = some (.c (.ifc t [.ptr id j o] false))) (hσ : σv[id]? = some (some (.cells k es))) (hel : es[j]? = some el) (hc : el[o]? = some c) (ha : evs env as' = some ts) (hdst : g7 sz dst = true)
  (hf : FnOk P f (.c c :: ts) σv fun r s => r = r2 ∧ s = σ'') (h : AOps P σ0 sz ops Q rest (St.mk (putE env dst r2) σ'')) :
  AOps P σ0 sz ops Q (⟨dst, .call ⟨.invoke x name, as'.toArray, ats⟩, ty, pos, after, none⟩ :: rest) (St.mk env σv) := by
 refine AOps.enterS rfl hdst hf (fun Γ φ a w hR => ?_) (fun r s ⟨h1, h2⟩ => by subst h1 h2; exact h)
 obtain ⟨v, hv, hr⟩ := ifc1_inv (i7 hR hx)
 obtain ⟨hid, b, base, hp, hv2⟩ := T2 (.c hr) hσ
 obtain ⟨arr, ety, hb, _, _, hcs⟩ := y9 hR hσ hp
 obtain ⟨u, hu, hru⟩ := hcs j el o c hel hc
 refine ⟨u :: as'.map a.eval, ?_, invoke_args hR ha hru⟩
 have := fn_body hf.fn (u :: as'.map a.eval).toArray w
 simp [execOp, resolve, invoke, callMethod, hv, hv2, run_method (P := P) (t := t) (name := name) (fun wr => run_recvV (e := e) hagg ((G9 hb).trans hu))]
 simpa [List.take_of_length_le] using this
/-! ### Maps: how many keys -/
/-! ### Maps whose values are nothing (sets) -/
end
/-! ### A struct without fields -/
/-! ### Contracts with two kinds of ends -/
end Ab
end
section
namespace Ab
open Go
section
variable {α : Type}
/-! ### Rows and maps of pointers among other blocks -/
section
variable {K : Type} {fk : K → Value} {r : Nat} {m : List (K × Int)}
end
end
section
variable {P : Program} {σ0 : b7} {sz : Nat} {Q : Post} {env env' : Env} {σv σ' : b7} {ops : Array Oper} {rest : List Oper} {dst : Option Nat} {ty : TypeId} {pos : String} {after : Array Edge}
/-! ### Rows of pointers -/
/-! ### Entries -/
/-! ### Maps of pointers -/
section
variable {K : Type} [DecidableEq K] {V : Type} {fk : K → Value} {d : TypeDesc}
end
/-! ### A view becomes a row of its own -/
/-! ### Places told by their bounds alone -/
def X2 {A B : Type} (l : List A) (l' : List B) : Option Unit := if l.length = l'.length then some () else none
theorem af9 {A B : Type} {l : List A} {l' : List B} {u : Unit} (h : X2 l l' = some u) : l.length = l'.length := by
 unfold X2 at h
 split at h
 ·assumption
 ·cases h
end
end Ab
end
section
namespace Ab
open Go
section
variable {K α : Type} [DecidableEq K]
variable {fk : K → Value} {f : α → List I} {m : List (K × List α)} {r k : Nat}
end
section
variable {P : Program} {σ0 : b7} {sz : Nat} {Q : Post} {env env' : Env} {σv σ' : b7} {ops : Array Oper} {rest : List Oper} {dst : Option Nat} {ty : TypeId} {pos : String} {after : Array Edge}
variable {K α : Type} [DecidableEq K] {fk : K → Value} {d : TypeDesc} {f : α → List I} {m : List (K × List α)} {r k : Nat}
end
end Ab
end
section
namespace Ab
open Go Go.Proofs Go.Sort Go.Lib
theorem rev_fn {P : Program} {f : FuncId} (hf : K3 P f)
  (hC : ∀ (blk off cap : Nat) (zs : List Int) (w : World), Holds (Value.int .i64) w blk off zs.toArray → zs.length ≤ 9223372036854775807 → Calls P f #[.slice (some ⟨blk, off, none⟩) zs.length cap] w fun e w' => e = .returned (.tuple #[]) ∧ ∃ n, w' = putRow (Value.int .i64) (Go.Sort.ahead w n) blk off zs.reverse.toArray)
  (hC0 : ∀ (p : Option Addr) (cap : Nat) (w : World), Calls P f #[.slice p 0 cap] w fun e w' => e = .returned (.tuple #[]) ∧ w' = w)
  {σ : b7} {id : Id} {l : List Int} (hσ : σ[id]? = some (some (vec 1 intI l))) :
  FnOk P f [.c (.own id 0 l.length)] σ fun r σ' => r = .tup [] ∧ σ'.length = σ.length ∧ ∀ i : Id, σ'[i]? = (σ.put id (some (vec 1 intI l.reverse)))[i]? := by
 refine ⟨hf, fun Γ vs hΓ hG hlen hrel => ?_⟩
 subst hΓ
 match vs, hlen with
 | [u], _ =>
 have hu := x7 (hrel 0 _ u rfl rfl) hσ
 have tupR : ∀ {w φ σ A}, RelT w φ σ A (.tup []) (.tuple #[]) := fun {w φ σ A} => RelT.tup (ts := []) (fun _ => undef) fun i t h => by simp at h
 rw [E2] at hu
 have empty : ∀ (p : Option Addr) (cap : Nat), l = [] → Calls P f #[.slice p 0 cap] Γ.w0 fun e w' => ∃ v r σ' φ', e = .returned v ∧ (r = .tup [] ∧ σ'.length = Γ.σ0.length ∧ ∀ i : Id, σ'[i]? = (Γ.σ0.put id (some (vec 1 intI l.reverse)))[i]?) ∧ RelT w' φ' σ' (Al Γ.N φ' σ') r v ∧ Rs Γ σ' φ' w' := fun p cap he => by
  refine (hC0 p cap Γ.w0).mono ?_
  rintro e w' ⟨rfl, rfl⟩
  refine ⟨_, .tup [], Γ.σ0, Γ.φ0, rfl, ⟨rfl, rfl, fun i => ?_⟩, tupR, Rs.refl hG⟩
  have : l.reverse = l := by rw [he]; rfl
  rw [this]
  by_cases hi : i = id
  ·rw [hi, b7.get_put_eq hσ, hσ]
  ·rw [b7.get_put_ne hi]
 rcases hu with ⟨_, hv, _, h0⟩ | ⟨b, base, cap, arr, ety, a, hp, hv, ha, hcap, hmax, hjn, hbk, hsz⟩
 ·have he : l = [] := List.eq_nil_of_length_eq_zero (by omega)
  rw [hv]
  exact empty none 0 he
 ·rw [hv]
  by_cases hc0 : 0 < cap
  ·have := ha hc0
   subst this
   simp only [Nat.zero_mul, Nat.add_zero]
   have hR := Rs.refl hG
   rcases hR.st.blk _ _ hσ with ⟨h1, _⟩ | ⟨b', base', arr2, ety2, h1, h2, h3, h4, h5⟩
   ·rw [hp] at h1; cases h1
   ·rw [hp] at h1; cases h1
    rw [hbk] at h2; cases h2
    rw [E2] at h3
    have hcell : ∀ (j : Nat) (x : Int), l[j]? = some x → arr[base + j]? = some (.int .i64 x) := fun j x hj => int_cells h5 hj
    have hls : l.reverse.length = l.length := by simp
    refine (hC b base cap l Γ.w0 (holds_of hbk hcell) (by simp only [maxLen] at hmax; omega)).mono ?_
    rintro e w' ⟨rfl, n, rfl⟩
    have hW := Rs.write (k := 1) (es' := (l.reverse.map intI).map (·.map C.imm)) (arr' := putCells (Value.int .i64) base l.reverse.toArray arr) hR hσ hp hbk (by rw [E2, E2, hls]) R2 (fun j e he => vec_hk he) (by rw [E2]; omega)
     (vec_hc fun j x hj => ac3 (by omega) hj)
    rw [putRow_ahead, Y1 hbk]
    refine ⟨_, .tup [], _, Γ.φ0, rfl, ⟨rfl, ?_, fun i => rfl⟩, tupR, hW.2.ahead n⟩
    rw [b7.length_put]
  ·have he : l = [] := List.eq_nil_of_length_eq_zero (by omega)
   have hl0 : l.length = 0 := by rw [he]; rfl
   rw [hl0]
   exact empty (some a) cap he
def RevOk (P : Program) (f : FuncId) : Prop := ∀ {σ : b7} {id : Id} {l : List Int}, σ[id]? = some (some (vec 1 intI l)) →
  FnOk P f [.c (.own id 0 l.length)] σ fun r σ' => r = .tup [] ∧ σ'.length = σ.length ∧ ∀ i : Id, σ'[i]? = (σ.put id (some (vec 1 intI l.reverse)))[i]?
section
variable {P : Program} {σ0 : b7} {sz : Nat} {Q : Post} {env : Env} {σv σ' : b7} {ops : Array Oper} {rest : List Oper} {dst : Option Nat} {ty : TypeId} {pos : String} {after : Array Edge}
theorem S.rev {x : Operand} {al : List Operand} {ats : Array TypeId} {f : FuncId} {id : Id} {n : Nat} {l : List Int} (hf : RevOk P f) (hx : ev env x = some (.c (.fn f []))) (ha : evs env al = some [.c (.own id 0 n)]) (hn : n = l.length) (hσ : σv[id]? = some (some (vec 1 intI l)))
  (hd : g7 sz dst = true) (hσ' : putF σv id (some (vec 1 intI l.reverse)) = some σ') (h : AOps P σ0 sz ops Q rest (St.mk (putE env dst (.tup [])) σ')) :
  AOps P σ0 sz ops Q (⟨dst, .call ⟨.value x, al.toArray, ats⟩, ty, pos, after, none⟩ :: rest) (St.mk env σv) := by
 have h2 := B5 hσ'
 subst h2 hn
 refine AOps.callS hx ha hd (hf hσ) ?_
 rintro r σ2 ⟨rfl, hl, he⟩
 refine AOps.sub (s' := ⟨putE env dst (.tup []), σv.put id (some (vec 1 intI l.reverse))⟩) ?_ h
 have := Sub.same (σ0 := σ0) (env := putE env dst (.tup [])) (σ1 := σ2) (σ2 := σv.put id (some (vec 1 intI l.reverse))) (by rw [b7.length_put, hl]) he
 cases dst <;> exact this
end
end Ab
end
section
namespace Ab
open Go Go.Proofs
open Tryz
set_option maxHeartbeats 4000000
attribute [local irreducible] AWP AOps thn inB Done f9 m7 Sub
abbrev u64 (n : Int) : C := .imm (.val (.int .u64 n))
theorem and32 (n : Nat) (hn : n ≤ 4294967295) : Go.bits .and .u64 (n : Int) 4294967295 = n := by
 have h := bits_and_u64_nat n 4294967295 (by omega) (by omega)
 rw [show (4294967295 : Nat) = 2 ^ 32 - 1 from rfl, Nat.and_two_pow_sub_one_eq_mod] at h
 rw [show ((4294967295 : Int)) = ((2 ^ 32 - 1 : Nat) : Int) from rfl, h]
 omega
theorem small_facts (n : Nat) (hn : n ≤ 4294967295) : Go.bits .and .u64 (n : Int) 4294967295 = n ∧ Int.fdiv (n : Int) (2 ^ (min (32 : Int).toNat (IntKind.bits .u64))) = 0 ∧ IntKind.u64.wrap (1 * (n : Int)) = n ∧ IntKind.u64.wrap (0 * (n : Int)) = 0 := by
 refine ⟨and32 n hn, ?_, ?_, ?_⟩
 ·show Int.fdiv (n : Int) 4294967296 = 0
  rw [Int.fdiv_eq_ediv_of_nonneg _ (by omega)]; omega
 ·simp only [IntKind.wrap, IntKind.bits, IntKind.signed, Bool.false_and]; simp; omega
 ·simp [IntKind.wrap, IntKind.bits, IntKind.signed]
theorem j6 (n : Nat) (hn : n ≤ 4294967295) : f9 prog 92 [.c (u64 1), .c (u64 n)] (.tup [.c (u64 0), .c (u64 n)]) := by
 obtain ⟨f1, f2, f3, f4⟩ := small_facts n hn
 unfold f9
 refine FnOk.enter (rs := [.t 4, .t 5]) func92 rfl ntmps92 results92 rfl ⟨trivial, trivial, trivial⟩ (by kernel_rfl) rfl ?_
 repeat (first | refine AOps.j rfl rfl ?_ | refine AOps.v rfl rfl ?_ | refine AOps.nil ?_ | refine AWP.q ?_ | refine AWP.u ?_ | refine b6 ?_ | refine AOps.andE (c := (n : Int)) rfl rfl rfl f1 ?_ | refine AOps.andE (c := 1) rfl rfl rfl (by decide) ?_ | refine AOps.andE (c := 0) rfl rfl rfl (by decide) ?_ | refine AOps.shr (c := 0) rfl rfl rfl (by decide) (by first | exact f2 | decide) ?_ | refine AOps.mulE (c := (n : Int)) rfl rfl rfl f3 ?_ | refine AOps.mulE (c := 0) rfl rfl rfl (by first | exact f4 | decide) ?_ | refine AOps.addE (c := 0) rfl rfl rfl (by decide) ?_)
 repeat (first | refine AWP.q ?_ | refine AWP.ret ?_ | refine e9 ?_ | refine i5 ?_ | refine AWP.skip ?_ | refine b6 ?_ | refine e6 ?_ | refine AWP.exit ?_ | refine e8 ?_ | refine h9 ?_ | refine J4 rfl ?_)
 exact Done.ret rfl rfl
theorem l0 (n : Nat) (hn : n ≤ 4294967295) : f9 prog 72 [.c (u64 1), .c (u64 n)] (.tup [.c (u64 0), .c (u64 n)]) := by
 unfold f9
 refine FnOk.enter (rs := [.t 4, .t 5]) func72 rfl ntmps72 results72 rfl ⟨trivial, trivial, trivial⟩ (by kernel_rfl) rfl ?_
 repeat (first | refine AWP.q ?_ | refine AWP.O ?_ | refine AWP.skip ?_ | refine b6 ?_ | refine e6 ?_ | refine AWP.condT rfl ?_ | refine AWP.condF rfl ?_)
 refine AWP.u ?_
 refine AOps.v rfl rfl ?_
 refine AOps.v rfl rfl ?_
 refine AOps.nil ?_
 repeat (first | refine b6 ?_ | refine e6 ?_)
 repeat (first | refine AWP.q ?_ | refine AWP.O ?_ | refine AWP.skip ?_ | refine b6 ?_ | refine e6 ?_ | refine AWP.condT rfl ?_ | refine AWP.condF rfl ?_)
 refine AWP.u ?_
 refine AOps.j rfl rfl ?_
 refine AOps.j rfl rfl ?_
 first | refine AOps.J rfl rfl rfl rfl (j6 n hn) rfl ?_ | refine AOps.J rfl rfl rfl rfl (j6 n hn) rfl ?_ | refine AOps.J rfl rfl rfl rfl (j6 n hn) rfl ?_ | refine AOps.J rfl rfl rfl rfl (j6 n hn) rfl ?_ | refine AOps.J rfl rfl rfl rfl (j6 n hn) rfl ?_ | refine AOps.J rfl rfl rfl rfl (j6 n hn) rfl ?_ | refine AOps.J rfl rfl rfl rfl (j6 n hn) rfl ?_ | refine AOps.J rfl rfl rfl rfl (j6 n hn) rfl ?_ | refine AOps.J rfl rfl rfl rfl (j6 n hn) rfl ?_ | refine AOps.J rfl rfl rfl rfl (j6 n hn) rfl ?_ | refine AOps.J rfl rfl rfl rfl (j6 n hn) rfl ?_ | refine AOps.J rfl rfl rfl rfl (j6 n hn) rfl ?_ | refine AOps.J rfl rfl rfl rfl (j6 n hn) rfl ?_ | refine AOps.J rfl rfl rfl rfl (j6 n hn) rfl ?_ | refine AOps.J rfl rfl rfl rfl (j6 n hn) rfl ?_ | refine AOps.J rfl rfl rfl rfl (j6 n hn) rfl ?_ | refine AOps.J rfl rfl rfl rfl (j6 n hn) rfl ?_ | refine AOps.J rfl rfl rfl rfl (j6 n hn) rfl ?_ | refine AOps.J rfl rfl rfl rfl (j6 n hn) rfl ?_ | refine AOps.J rfl rfl rfl rfl (j6 n hn) rfl ?_ | refine AOps.J rfl rfl rfl rfl (j6 n hn) rfl ?_ | refine AOps.J rfl rfl rfl rfl (j6 n hn) rfl ?_ | refine AOps.J rfl rfl rfl rfl (j6 n hn) rfl ?_ | refine AOps.J rfl rfl rfl rfl (j6 n hn) rfl ?_ | refine AOps.J rfl rfl rfl rfl (j6 n hn) rfl ?_ | refine AOps.J rfl rfl rfl rfl (j6 n hn) rfl ?_ | refine AOps.J rfl rfl rfl rfl (j6 n hn) rfl ?_ | refine AOps.J rfl rfl rfl rfl (j6 n hn) rfl ?_ | refine AOps.J rfl rfl rfl rfl (j6 n hn) rfl ?_ | refine AOps.J rfl rfl rfl rfl (j6 n hn) rfl ?_ | refine AOps.J rfl rfl rfl rfl (j6 n hn) rfl ?_ | refine AOps.J rfl rfl rfl rfl (j6 n hn) rfl ?_ | refine AOps.J rfl rfl rfl rfl (j6 n hn) rfl ?_ | refine AOps.J rfl rfl rfl rfl (j6 n hn) rfl ?_ | refine AOps.J rfl rfl rfl rfl (j6 n hn) rfl ?_ | refine AOps.J rfl rfl rfl rfl (j6 n hn) rfl ?_ | refine AOps.J rfl rfl rfl rfl (j6 n hn) rfl ?_ | refine AOps.J rfl rfl rfl rfl (j6 n hn) rfl ?_ | refine AOps.J rfl rfl rfl rfl (j6 n hn) rfl ?_ | refine AOps.J rfl rfl rfl rfl (j6 n hn) rfl ?_ | refine AOps.J rfl rfl rfl rfl (j6 n hn) rfl ?_ | refine AOps.J rfl rfl rfl rfl (j6 n hn) rfl ?_ | refine AOps.J rfl rfl rfl rfl (j6 n hn) rfl ?_
 refine AOps.j rfl rfl ?_
 refine AOps.ai rfl rfl rfl ?_
 refine AOps.ai rfl rfl rfl ?_
 refine AOps.v rfl rfl ?_
 refine AOps.v rfl rfl ?_
 refine AOps.nil ?_
 repeat (first | refine b6 ?_ | refine e6 ?_)
 repeat (first | refine AWP.q ?_ | refine AWP.O ?_ | refine AWP.skip ?_ | refine b6 ?_ | refine e6 ?_ | refine AWP.condT rfl ?_ | refine AWP.condF rfl ?_)
 refine AWP.u ?_
 refine AOps.j rfl rfl ?_
 refine AOps.j rfl rfl ?_
 refine AOps.v rfl rfl ?_
 refine AOps.v rfl rfl ?_
 refine AOps.nil ?_
 repeat (first | refine b6 ?_ | refine e6 ?_)
 repeat (first | refine AWP.q ?_ | refine AWP.ret ?_ | refine e9 ?_ | refine i5 ?_ | refine AWP.skip ?_ | refine b6 ?_ | refine e6 ?_ | refine AWP.exit ?_ | refine e8 ?_ | refine h9 ?_ | refine J4 rfl ?_)
 exact Done.ret rfl rfl
theorem wrap_facts (n : Nat) (hn : n ≤ 4294967295) : IntKind.u64.wrap (n : Int) = n ∧ IntKind.i64.wrap (n : Int) = n := by
 refine ⟨?_, wrap_i64 (by omega)⟩
 simp only [IntKind.wrap, IntKind.bits, IntKind.signed, Bool.false_and]; simp; omega
def repC (c : Int) (n i : Nat) : List (List C) := (List.range n).map fun j => [int (if j < i then c else 0)]
theorem rep_first {c : Int} {n : Nat} (h : 1 ≤ n) : (List.replicate n [C.imm (.val (.int .i64 0))]).take 0 ++ (([c] : List Int).map intI |>.map (·.map C.imm)).take 1 ++ (List.replicate n [C.imm (.val (.int .i64 0))]).drop (0 + 1) = repC c n 1 := by
 apply List.ext_getElem?
 intro j
 simp only [repC, List.getElem?_map]
 match j with
 | 0 => simp [show 0 < n by omega]
 | j + 1 =>
  simp only [List.take_zero, List.nil_append, List.map_cons, List.map_nil, List.take_succ_cons, List.take_nil, List.cons_append, List.getElem?_cons_succ, List.getElem?_drop, List.getElem?_replicate]
  by_cases hj : j + 1 < n
  ·rw [if_pos (by omega), List.getElem?_range hj]; simp
  ·rw [if_neg (by omega), List.getElem?_eq_none (by simp; omega)]; rfl
theorem rep_more {c : Int} {n i m : Nat} (h1 : m ≤ i) (h2 : i + m ≤ n) : (repC c n i).take (0 + i) ++ (((repC c n i).drop 0).take i).take m ++ (repC c n i).drop (0 + i + m) = repC c n (i + m) := by
 apply List.ext_getElem?
 intro j
 have len : (repC c n i).length = n := by simp [repC]
 have hg : ∀ k j, (repC c n k)[j]? = if j < n then some [int (if j < k then c else 0)] else none := fun k j => by
  simp only [repC, List.getElem?_map]
  by_cases hj : j < n
  ·rw [List.getElem?_range hj, if_pos hj]; rfl
  ·rw [List.getElem?_eq_none (by simp; omega), if_neg hj]; rfl
 rw [Nat.zero_add, List.drop_zero, hg]
 rcases Nat.lt_or_ge j i with hl | hl
 ·rw [List.append_assoc, List.getElem?_append_left (by simp [len]; omega), List.getElem?_take, if_pos hl, hg]
  simp [show j < n by omega, hl, show j < i + m by omega]
 ·rcases Nat.lt_or_ge j (i + m) with hl2 | hl2
  ·rw [List.getElem?_append_left (by simp [len]; omega), List.getElem?_append_right (by simp [len]; omega), List.getElem?_take, if_pos (by simp [len]; omega), List.getElem?_take, if_pos (by simp [len]; omega), hg]
   have e : (List.take i (repC c n i)).length = i := by simp [len]; omega
   rw [e, if_pos (by omega), if_pos (by omega), if_pos (by omega), if_pos (by omega)]
  ·rw [List.getElem?_append_right (by simp [len]; omega), List.getElem?_drop, hg]
   have e : (List.take i (repC c n i) ++ List.take m (List.take i (repC c n i))).length = i + m := by simp [len]; omega
   rw [e, show i + m + (j - (i + m)) = j by omega]
   split
   ·rw [if_neg (by omega), if_neg (by omega)]
   ·rfl
theorem rep_full (c : Int) (n : Nat) : Blk.cells 1 (repC c n n) = Blk.im 1 (List.replicate n [.val (.int .i64 c)]) := by
 rw [Blk.im, repC]
 congr 1
 apply List.ext_getElem?
 intro j
 simp only [List.getElem?_map, List.getElem?_replicate]
 by_cases hj : j < n
 ·rw [List.getElem?_range hj, if_pos hj]; simp [hj]
 ·rw [List.getElem?_eq_none (by simp; omega), if_neg hj]; rfl
theorem repeat_ok (c : Int) (n : Nat) (h1 : 1 ≤ n) (hn : n ≤ 4294967295) : m7 prog 42 [.c (ints [c]), .c (int n)] 1 (List.replicate n [.val (.int .i64 c)]) := by
 obtain ⟨w1, w2⟩ := wrap_facts n hn
 unfold m7
 refine FnOk.enter (rs := [.t 4]) func42 rfl ntmps42 results42 rfl ⟨trivial, trivial⟩ (by kernel_rfl) rfl ?_
 repeat (first | refine AWP.q ?_ | refine AWP.O ?_ | refine AWP.skip ?_ | refine b6 ?_ | refine e6 ?_ | refine AWP.condT rfl ?_ | refine AWP.condF rfl ?_)
 refine AWP.u ?_
 refine AOps.v rfl rfl ?_
 refine AOps.nil ?_
 repeat (first | refine b6 ?_ | refine e6 ?_)
 have hd : decide ((n : Int) < 0) = false := decide_eq_false (by omega)
 repeat (first | refine AWP.q ?_ | refine AWP.O ?_ | refine AWP.skip ?_ | refine b6 ?_ | refine e6 ?_ | refine AWP.condT rfl ?_ | refine AWP.condF rfl ?_)
 refine AWP.u ?_
 refine AOps.j rfl rfl ?_
 refine AOps.F rfl rfl rfl ?_
 refine AOps.nil ?_
 repeat (first | refine b6 ?_ | refine e6 ?_)
 (repeat (refine AWP.q ?_)); first | refine AWP.condD rfl (fun hc => ?_) (fun hc => ?_) | refine AWP.condN rfl (fun hc => ?_) (fun hc => ?_) | refine AWP.condE rfl (fun hc => ?_) (fun hc hc' => ?_) | refine AWP.condB rfl (fun hc => ?_) (fun hc => ?_) | refine AWP.cond rfl (fun hc => ?_) (fun hc => ?_)
 ·omega
 repeat (first | refine AWP.skip ?_ | refine b6 ?_ | refine e6 ?_ | refine AWP.condT rfl ?_ | refine AWP.condF rfl ?_)
 repeat (first | refine AWP.q ?_ | refine AWP.O ?_ | refine AWP.skip ?_ | refine b6 ?_ | refine e6 ?_ | refine AWP.condT rfl ?_ | refine AWP.condF rfl ?_)
 refine AWP.u ?_
 refine AOps.j rfl rfl ?_
 first | refine AOps.lenB rfl rfl (fun _ => ?_) | refine AOps.lenOwnB rfl rfl rfl (fun _ => ?_) | refine AOps.lenNil rfl rfl ?_
 refine AOps.convE (c := 1) rfl rfl (show IntKind.u64.wrap ((1 : Nat) : Int) = 1 by decide) ?_
 refine AOps.j rfl rfl ?_
 refine AOps.convE (c := (n : Int)) rfl rfl w1 ?_
 first | refine AOps.J rfl rfl rfl rfl (l0 n hn) rfl ?_ | refine AOps.J rfl rfl rfl rfl (l0 n hn) rfl ?_ | refine AOps.J rfl rfl rfl rfl (l0 n hn) rfl ?_ | refine AOps.J rfl rfl rfl rfl (l0 n hn) rfl ?_ | refine AOps.J rfl rfl rfl rfl (l0 n hn) rfl ?_ | refine AOps.J rfl rfl rfl rfl (l0 n hn) rfl ?_ | refine AOps.J rfl rfl rfl rfl (l0 n hn) rfl ?_ | refine AOps.J rfl rfl rfl rfl (l0 n hn) rfl ?_ | refine AOps.J rfl rfl rfl rfl (l0 n hn) rfl ?_ | refine AOps.J rfl rfl rfl rfl (l0 n hn) rfl ?_ | refine AOps.J rfl rfl rfl rfl (l0 n hn) rfl ?_ | refine AOps.J rfl rfl rfl rfl (l0 n hn) rfl ?_ | refine AOps.J rfl rfl rfl rfl (l0 n hn) rfl ?_ | refine AOps.J rfl rfl rfl rfl (l0 n hn) rfl ?_ | refine AOps.J rfl rfl rfl rfl (l0 n hn) rfl ?_ | refine AOps.J rfl rfl rfl rfl (l0 n hn) rfl ?_ | refine AOps.J rfl rfl rfl rfl (l0 n hn) rfl ?_ | refine AOps.J rfl rfl rfl rfl (l0 n hn) rfl ?_ | refine AOps.J rfl rfl rfl rfl (l0 n hn) rfl ?_ | refine AOps.J rfl rfl rfl rfl (l0 n hn) rfl ?_ | refine AOps.J rfl rfl rfl rfl (l0 n hn) rfl ?_ | refine AOps.J rfl rfl rfl rfl (l0 n hn) rfl ?_ | refine AOps.J rfl rfl rfl rfl (l0 n hn) rfl ?_ | refine AOps.J rfl rfl rfl rfl (l0 n hn) rfl ?_ | refine AOps.J rfl rfl rfl rfl (l0 n hn) rfl ?_ | refine AOps.J rfl rfl rfl rfl (l0 n hn) rfl ?_ | refine AOps.J rfl rfl rfl rfl (l0 n hn) rfl ?_ | refine AOps.J rfl rfl rfl rfl (l0 n hn) rfl ?_ | refine AOps.J rfl rfl rfl rfl (l0 n hn) rfl ?_ | refine AOps.J rfl rfl rfl rfl (l0 n hn) rfl ?_ | refine AOps.J rfl rfl rfl rfl (l0 n hn) rfl ?_ | refine AOps.J rfl rfl rfl rfl (l0 n hn) rfl ?_ | refine AOps.J rfl rfl rfl rfl (l0 n hn) rfl ?_ | refine AOps.J rfl rfl rfl rfl (l0 n hn) rfl ?_ | refine AOps.J rfl rfl rfl rfl (l0 n hn) rfl ?_ | refine AOps.J rfl rfl rfl rfl (l0 n hn) rfl ?_ | refine AOps.J rfl rfl rfl rfl (l0 n hn) rfl ?_ | refine AOps.J rfl rfl rfl rfl (l0 n hn) rfl ?_ | refine AOps.J rfl rfl rfl rfl (l0 n hn) rfl ?_ | refine AOps.J rfl rfl rfl rfl (l0 n hn) rfl ?_ | refine AOps.J rfl rfl rfl rfl (l0 n hn) rfl ?_ | refine AOps.J rfl rfl rfl rfl (l0 n hn) rfl ?_ | refine AOps.J rfl rfl rfl rfl (l0 n hn) rfl ?_
 refine AOps.j rfl rfl ?_
 refine AOps.ai rfl rfl rfl ?_
 refine AOps.ai rfl rfl rfl ?_
 refine AOps.v rfl rfl ?_
 refine AOps.v rfl rfl ?_
 refine AOps.nil ?_
 repeat (first | refine b6 ?_ | refine e6 ?_)
 have hd2 : decide ((0 : Int) < 0) = false := by decide
 repeat (first | refine AWP.q ?_ | refine AWP.O ?_ | refine AWP.skip ?_ | refine b6 ?_ | refine e6 ?_ | refine AWP.condT rfl ?_ | refine AWP.condF rfl ?_)
 refine AWP.u ?_
 refine AOps.j rfl rfl ?_
 refine AOps.gtr rfl rfl rfl ?_
 refine AOps.j rfl rfl ?_
 first | (refine AOps.B rfl rfl rfl (by assumption) ?_) | (refine AOps.ag rfl rfl rfl ?_) | (refine AOps.z rfl rfl rfl (by assumption) ?_; refine AOps.j rfl rfl ?_)
 first | (refine AOps.B rfl rfl rfl (by assumption) ?_) | (refine AOps.ag rfl rfl rfl ?_) | (refine AOps.z rfl rfl rfl (by assumption) ?_; refine AOps.gtr rfl rfl rfl ?_)
 first | refine AOps.U rfl (by assumption) rfl rfl ?_ | refine AOps.aa rfl (by assumption) rfl rfl ?_
 refine AOps.nil ?_
 repeat (first | refine b6 ?_ | refine e6 ?_)
 (repeat (refine AWP.q ?_)); first | refine AWP.condD rfl (fun hc => ?_) (fun hc => ?_) | refine AWP.condN rfl (fun hc => ?_) (fun hc => ?_) | refine AWP.condE rfl (fun hc => ?_) (fun hc hc' => ?_) | refine AWP.condB rfl (fun hc => ?_) (fun hc => ?_) | refine AWP.cond rfl (fun hc => ?_) (fun hc => ?_)
 ·omega
 repeat (first | refine AWP.skip ?_ | refine b6 ?_ | refine e6 ?_ | refine AWP.condT rfl ?_ | refine AWP.condF rfl ?_)
 repeat (first | refine AWP.q ?_ | refine AWP.O ?_ | refine AWP.skip ?_ | refine b6 ?_ | refine e6 ?_ | refine AWP.condT rfl ?_ | refine AWP.condF rfl ?_)
 refine AWP.u ?_
 refine AOps.j rfl rfl ?_
 refine AOps.convE (c := (n : Int)) rfl rfl w2 ?_
 refine W.make rfl rfl rfl (by omega) (by omega) rfl rfl rfl ?_
 refine AOps.v rfl rfl ?_
 refine AOps.nil ?_
 repeat (first | refine b6 ?_ | refine e6 ?_)
 repeat (first | refine AWP.q ?_ | refine AWP.O ?_ | refine AWP.skip ?_ | refine b6 ?_ | refine e6 ?_ | refine AWP.condT rfl ?_ | refine AWP.condF rfl ?_)
 refine AWP.u ?_
 refine AOps.j rfl rfl ?_
 refine AOps.j rfl rfl ?_
 refine AOps.copyE (m := 1) (es' := repC c n 1) rfl rfl (by omega) rfl .imm rfl (Nat.min_eq_left h1) (rep_first h1) rfl ?_
 refine AOps.v rfl rfl ?_
 refine AOps.nil ?_
 repeat (first | refine b6 ?_ | refine e6 ?_)
 refine AWP.q ?_
 refine AWP.O ?_
 refine AWP.loop (X := Nat) (fun i => ⟨[(7, .c (.own 0 0 n)), (8, .c (int i))], [.one (.cells 1 (repC c n i))]⟩) (fun i => 1 ≤ i ∧ i ≤ n) (fun i => n - i) 1 (Sub.env ⟨rfl, rfl, trivial⟩) ⟨Nat.le_refl _, h1⟩ ?_
 rintro i ⟨i1, i2⟩
 repeat (first | refine AWP.q ?_ | refine AWP.O ?_ | refine AWP.skip ?_ | refine b6 ?_ | refine e6 ?_ | refine AWP.condT rfl ?_ | refine AWP.condF rfl ?_)
 refine AWP.u ?_
 refine AOps.j rfl rfl ?_
 refine AOps.j rfl rfl ?_
 first | refine AOps.lenB rfl rfl (fun _ => ?_) | refine AOps.lenOwnB rfl rfl rfl (fun _ => ?_) | refine AOps.lenNil rfl rfl ?_
 refine AOps.F rfl rfl rfl ?_
 refine AOps.nil ?_
 repeat (first | refine b6 ?_ | refine e6 ?_)
 (repeat (refine AWP.q ?_)); first | refine AWP.condD rfl (fun hc => ?_) (fun hc => ?_) | refine AWP.condN rfl (fun hc => ?_) (fun hc => ?_) | refine AWP.condE rfl (fun hc => ?_) (fun hc hc' => ?_) | refine AWP.condB rfl (fun hc => ?_) (fun hc => ?_) | refine AWP.cond rfl (fun hc => ?_) (fun hc => ?_)
 ·have hi : i < n := by omega
  obtain ⟨m, hm⟩ : ∃ m, m = Nat.min i (n - i) := ⟨_, rfl⟩
  have hm1 : 1 ≤ m := by rw [hm]; exact Nat.le_min.2 ⟨i1, by omega⟩
  have hm2 : m ≤ i ∧ i + m ≤ n := by
   have := Nat.min_le_left i (n - i)
   have := Nat.min_le_right i (n - i)
   change m = min i (n - i) at hm
   omega
  have hcm : Nat.min (((repC c n i).drop 0).take i).length (n - i) = m := by
   rw [hm]
   congr 1
   simp [repC]; omega
  have hce : (repC c n i).take (0 + i) ++ (((repC c n i).drop 0).take i).take m ++ (repC c n i).drop (0 + i + m) = repC c n (i + m) := rep_more hm2.1 hm2.2
  repeat (first | refine AWP.skip ?_ | refine b6 ?_ | refine e6 ?_ | refine AWP.condT rfl ?_ | refine AWP.condF rfl ?_)
  repeat (first | refine AWP.q ?_ | refine AWP.O ?_ | refine AWP.skip ?_ | refine b6 ?_ | refine e6 ?_ | refine AWP.condT rfl ?_ | refine AWP.condF rfl ?_)
  refine AWP.drawEI [7] mixed rfl rfl rfl ?_
  apply f8.consN; exact rfl; exact rfl; intro E
  refine AOps.j rfl rfl ?_
  exact AOps.nil ⟨rfl, rfl⟩
  exact rfl
  apply f8.consN; exact rfl; exact rfl; intro E
  refine AOps.j rfl rfl ?_
  exact AOps.nil ⟨rfl, rfl⟩
  exact rfl
  apply f8.consN; exact rfl; exact rfl; intro E
  refine AOps.j rfl rfl ?_
  exact AOps.nil ⟨rfl, rfl⟩
  exact rfl
  apply f8.consN; exact rfl; exact rfl; intro E
  first | refine AOps.sliceArrI rfl (Nat.le_of_ble_eq_true rfl) rfl rfl ?_ | refine AOps.sliceOwnTo rfl rfl rfl (by omega) rfl ?_ | refine AOps.sliceOwnFrom rfl rfl rfl (by omega) rfl ?_
  exact AOps.nil ⟨rfl, rfl⟩
  exact rfl
  apply f8.consN; exact rfl; exact rfl; intro E
  refine AOps.j rfl rfl ?_
  exact AOps.nil ⟨rfl, rfl⟩
  exact rfl
  apply f8.consN; exact rfl; exact rfl; intro E
  refine AOps.j rfl rfl ?_
  exact AOps.nil ⟨rfl, rfl⟩
  exact rfl
  apply f8.consN; exact rfl; exact rfl; intro E
  first | refine AOps.sliceArrI rfl (Nat.le_of_ble_eq_true rfl) rfl rfl ?_ | refine AOps.sliceOwnTo rfl rfl rfl (by omega) rfl ?_ | refine AOps.sliceOwnFrom rfl rfl rfl (by omega) rfl ?_
  exact AOps.nil ⟨rfl, rfl⟩
  exact rfl
  apply f8.consE; exact rfl; exact rfl; intro E
  refine AOps.copyE rfl rfl (by omega) rfl (Src.own rfl) rfl hcm hce rfl ?_
  exact AOps.nil ⟨rfl, rfl⟩
  exact rfl
  exact rfl
  apply f8.consN; exact rfl; exact rfl; intro E
  refine AOps.add rfl rfl rfl (by omega) ?_
  exact AOps.nil ⟨rfl, rfl⟩
  exact rfl
  apply f8.consN; exact rfl; exact rfl; intro E
  refine AOps.v rfl rfl ?_
  exact AOps.nil ⟨rfl, rfl⟩
  exact rfl
  refine f8.done rfl ?_ ?_
  ·apply e7.cons; exact rfl; exact rfl
   first | refine b8.skip rfl ?_ | (apply b8.go; exact rfl; exact rfl; intro E; (refine AOps.j rfl rfl ?_); exact AOps.nil ⟨rfl, rfl⟩)
   first | refine b8.skip rfl ?_ | (apply b8.go; exact rfl; exact rfl; intro E; (refine AOps.j rfl rfl ?_); exact AOps.nil ⟨rfl, rfl⟩)
   exact b8.nil
   apply e7.cons; exact rfl; exact rfl
   first | refine b8.skip rfl ?_ | (apply b8.go; exact rfl; exact rfl; intro E; (refine AOps.j rfl rfl ?_); exact AOps.nil ⟨rfl, rfl⟩)
   first | refine b8.skip rfl ?_ | (apply b8.go; exact rfl; exact rfl; intro E; (refine AOps.j rfl rfl ?_); exact AOps.nil ⟨rfl, rfl⟩)
   exact b8.nil
   apply e7.cons; exact rfl; exact rfl
   first | refine b8.skip rfl ?_ | (apply b8.go; exact rfl; exact rfl; intro E; (refine AOps.j rfl rfl ?_); exact AOps.nil ⟨rfl, rfl⟩)
   first | refine b8.skip rfl ?_ | (apply b8.go; exact rfl; exact rfl; intro E; (refine AOps.j rfl rfl ?_); exact AOps.nil ⟨rfl, rfl⟩)
   exact b8.nil
   apply e7.cons; exact rfl; exact rfl
   first | refine b8.skip rfl ?_ | (apply b8.go; exact rfl; exact rfl; intro E; (first | refine AOps.sliceArrI rfl (Nat.le_of_ble_eq_true rfl) rfl rfl ?_ | refine AOps.sliceOwnTo rfl rfl rfl (by omega) rfl ?_ | refine AOps.sliceOwnFrom rfl rfl rfl (by omega) rfl ?_); exact AOps.nil ⟨rfl, rfl⟩)
   first | refine b8.skip rfl ?_ | (apply b8.go; exact rfl; exact rfl; intro E; (first | refine AOps.sliceArrI rfl (Nat.le_of_ble_eq_true rfl) rfl rfl ?_ | refine AOps.sliceOwnTo rfl rfl rfl (by omega) rfl ?_ | refine AOps.sliceOwnFrom rfl rfl rfl (by omega) rfl ?_); exact AOps.nil ⟨rfl, rfl⟩)
   exact b8.nil
   apply e7.cons; exact rfl; exact rfl
   first | refine b8.skip rfl ?_ | (apply b8.go; exact rfl; exact rfl; intro E; (refine AOps.j rfl rfl ?_); exact AOps.nil ⟨rfl, rfl⟩)
   first | refine b8.skip rfl ?_ | (apply b8.go; exact rfl; exact rfl; intro E; (refine AOps.j rfl rfl ?_); exact AOps.nil ⟨rfl, rfl⟩)
   exact b8.nil
   apply e7.cons; exact rfl; exact rfl
   first | refine b8.skip rfl ?_ | (apply b8.go; exact rfl; exact rfl; intro E; (refine AOps.j rfl rfl ?_); exact AOps.nil ⟨rfl, rfl⟩)
   first | refine b8.skip rfl ?_ | (apply b8.go; exact rfl; exact rfl; intro E; (refine AOps.j rfl rfl ?_); exact AOps.nil ⟨rfl, rfl⟩)
   exact b8.nil
   apply e7.cons; exact rfl; exact rfl
   first | refine b8.skip rfl ?_ | (apply b8.go; exact rfl; exact rfl; intro E; (first | refine AOps.sliceArrI rfl (Nat.le_of_ble_eq_true rfl) rfl rfl ?_ | refine AOps.sliceOwnTo rfl rfl rfl (by omega) rfl ?_ | refine AOps.sliceOwnFrom rfl rfl rfl (by omega) rfl ?_); exact AOps.nil ⟨rfl, rfl⟩)
   first | refine b8.skip rfl ?_ | (apply b8.go; exact rfl; exact rfl; intro E; (first | refine AOps.sliceArrI rfl (Nat.le_of_ble_eq_true rfl) rfl rfl ?_ | refine AOps.sliceOwnTo rfl rfl rfl (by omega) rfl ?_ | refine AOps.sliceOwnFrom rfl rfl rfl (by omega) rfl ?_); exact AOps.nil ⟨rfl, rfl⟩)
   exact b8.nil
   refine e7.skip rfl ?_
   apply e7.cons; exact rfl; exact rfl
   first | refine b8.skip rfl ?_ | (apply b8.go; exact rfl; exact rfl; intro E; (refine AOps.add rfl rfl rfl (by omega) ?_); exact AOps.nil ⟨rfl, rfl⟩)
   first | refine b8.skip rfl ?_ | (apply b8.go; exact rfl; exact rfl; intro E; (refine AOps.add rfl rfl rfl (by omega) ?_); exact AOps.nil ⟨rfl, rfl⟩)
   exact b8.nil
   apply e7.cons; exact rfl; exact rfl
   first | refine b8.skip rfl ?_ | (apply b8.go; exact rfl; exact rfl; intro E; (refine AOps.v rfl rfl ?_); exact AOps.nil ⟨rfl, rfl⟩)
   first | refine b8.skip rfl ?_ | (apply b8.go; exact rfl; exact rfl; intro E; (refine AOps.v rfl rfl ?_); exact AOps.nil ⟨rfl, rfl⟩)
   exact b8.nil
   exact e7.nil
  dsimp only [k6]
  repeat (first | refine b6 ?_ | refine e6 ?_)
  exact ⟨i + m, Sub.env ⟨rfl, rfl, trivial⟩, ⟨by omega, by omega⟩, by omega⟩
 repeat (first | refine AWP.q ?_ | refine AWP.ret ?_ | refine e9 ?_ | refine i5 ?_ | refine AWP.skip ?_ | refine b6 ?_ | refine e6 ?_ | refine AWP.exit ?_ | refine e8 ?_ | refine h9 ?_ | refine J4 rfl ?_)
 repeat (first | refine AWP.q ?_ | refine AWP.O ?_ | refine AWP.skip ?_ | refine b6 ?_ | refine e6 ?_ | refine AWP.condT rfl ?_ | refine AWP.condF rfl ?_)
 refine AWP.u ?_
 refine AOps.j rfl rfl ?_
 refine AOps.v rfl rfl ?_
 refine AOps.nil ?_
 repeat (first | refine b6 ?_ | refine e6 ?_)
 repeat (first | refine AWP.q ?_ | refine AWP.ret ?_ | refine e9 ?_ | refine i5 ?_ | refine AWP.skip ?_ | refine b6 ?_ | refine e6 ?_ | refine AWP.exit ?_ | refine e8 ?_ | refine h9 ?_ | refine J4 rfl ?_)
 have hin : i = n := by omega
 subst hin
 refine Done.ret rfl ⟨0, by simp, ?_⟩
 show some (some (Blk.cells 1 (repC c i i))) = _
 rw [rep_full]
def A4 (x : List Int) (n : Int) : Option (List Int) := match x with
 | [c] => if 1 ≤ n ∧ n ≤ 4294967295 then some (List.replicate n.toNat c) else none
 | _ => none
theorem ab9 {x : List Int} {n : Int} {r : List Int} (h : A4 x n = some r) : m7 prog 42 [.c (row 1 intI x), .c (int n)] 1 (List.map intI r) := by
 unfold A4 at h
 split at h
 ·rename_i c
  split at h
  ·rename_i hn
   cases h
   have := repeat_ok c n.toNat (by omega) (by omega)
   rw [Int.toNat_of_nonneg (by omega)] at this
   rwa [List.map_replicate]
  ·cases h
 ·cases h
end Ab
end
section
namespace Ab
open Go
section
variable {P : Program} {σ0 : b7} {sz : Nat} {Q : Post} {env : Env} {σv σ' : b7} {ops : Array Oper} {rest : List Oper} {dst : Option Nat} {ty : TypeId} {pos : String} {after : Array Edge}
end
end Ab
end
section
namespace Ab
open Go Go.Proofs
end Ab
end
section
namespace Ab
open Go Go.Sort
section
variable {P : Program} {σ0 : b7} {sz : Nat} {Q : Post} {env : Env} {σv σ' : b7} {ops : Array Oper} {rest : List Oper} {dst : Option Nat} {ty : TypeId} {pos : String} {after : Array Edge}
end
end Ab
end
section
namespace Ab
open Go Go.Proofs
set_option linter.all false
abbrev f5 (l : List Int) : List I := [.sl 1 (l.map intI)]
structure i6 where
  pre : List Int
  add : List Int
  del : List Int
  cost : Int
abbrev n9 (v : i6) : List I := [.sl 1 (List.map intI v.pre), .sl 1 (List.map intI v.add), .sl 1 (List.map intI v.del), .val (.int .i64 v.cost)]
structure f7 where
  facts : Int
  init : List Int
  goal : List Int
  operators : List i6
abbrev eTTask (v : f7) : List I := [.val (.int .i64 v.facts), .sl 1 (List.map intI v.init), .sl 1 (List.map intI v.goal), .sl 4 (List.map n9 v.operators)]
structure TFault where
  code : Int
  index : Int
abbrev eLLi64 (l : List (List Int)) : List I := [.sl 1 (l.map f5)]
structure Y7 where
  fx : Int
  fy : Int
  signed : Bool
  code : Int
structure Truntime_boundsError where
  fx : Int
  fy : Int
  signed : Bool
  code : Int
structure Tmsg_string_addr_uintptr where
  msg : ByteArray
  addr : Int
structure Truntime_errorAddressString where
  msg : ByteArray
  addr : Int
structure Y6 where
  facts : Int
  init : List Int
  goal : List Int
  operators : List i6
abbrev j8 (v : Int × Int) : List I := [.val (.int .i64 v.1), .val (.int .i64 v.2)]
structure TCode_int_Index_int where
  code : Int
  index : Int
structure aj5 where
  pre : List Int
  add : List Int
  del : List Int
  cost : Int
structure ah2 where
  fs : List Int
  seen : Int
  cost : Int
  sequence : Int
structure d9 where
  fs : List Int
  seen : Int
  cost : Int
  sequence : Int
abbrev b9 (v : d9) : List I := [.sl 1 (List.map intI v.fs), .val (.int .i64 v.seen), .val (.int .i64 v.cost), .val (.int .i64 v.sequence)]
structure Tspace_arc where
  ffrom : Int
  cost : Int
structure Tspace_Step_uint32 where
  op : Int
  cost : Int
  to : Int
structure TOp_int_Cost_int_To_uint32 where
  op : Int
  cost : Int
  to : Int
structure Tfrom_uint32_cost_int where
  ffrom : Int
  cost : Int
structure ac6 where
  pre : Int
  add : Int
  del : Int
  cost : Int
structure af2 where
  start : Int
  goal : Int
  ops : List ac6
structure Tspace_Words where
  start : Int
  goal : Int
  ops : List ac6
structure ae7 where
  pre : Int
  add : Int
  del : Int
  cost : Int
structure ai6 where
  item : Int
  key : Int
  time : Int
  fat : Int
structure ad5 where
  item : Int
  key : Int
  time : Int
  fat : Int
structure Tnode_int_from_int_step_int where
  node : List (List Int)
  ffrom : Int
  step : Int
structure g8 where
  node : List (List Int)
  ffrom : Int
  step : Int
abbrev g9 (v : g8) : List I := [.sl 1 (List.map f5 v.node), .val (.int .i64 v.ffrom), .val (.int .i64 v.step)]
def O3 (l : List Int) (nv : Int) : Int → Unit → Option (Unit ⊕ Bool) := fun t3 _ => Option.bind (ix l t3) fun a12 => Option.bind (if a12 < 0 then some true else if nv ≤ a12 then some true else if 0 < t3 then Option.bind (ix l (t3 - 1)) fun a29 => some (decide (a12 ≤ a29)) else some false) fun t4 => if t4 = true then some (.inr false) else some (.inl ())
def x8 (l : List Int) (nv : Int) : Option Bool := (Option.bind (rngX 0 (l.length : Int) (O3 l nv) ()) fun | .inl _ => some true | .inr x => some x)
def B9 (xv : Int) : Option Bool := some (!(decide (xv = xv)))
def P6 (xv : Int) (yv : Int) : Option Bool := Option.bind (Option.bind (B9 xv) fun a6 => if a6 = true then Option.bind (B9 yv) fun a9 => if (!a9) = true then some true else some (decide (xv < yv)) else some (decide (xv < yv))) fun t3 => some t3
def G2 (xv : Int) : Option Bool := some (!(decide (xv = xv)))
def s5 (xv : List Int) (target : Int) : (Int × Int) → Option ((Int × Int) ⊕ Int) := fun (iv3, j4) => if iv3 < j4 then Option.bind (ix xv (w64 (shrW .u64 ((IntKind.u64).wrap (w64 (iv3 + j4))) 1))) fun a24 => Option.bind (P6 a24 target) fun a27 => if a27 = true then some (.inl (w64 ((w64 (shrW .u64 ((IntKind.u64).wrap (w64 (iv3 + j4))) 1)) + 1), j4)) else some (.inl (iv3, w64 (shrW .u64 ((IntKind.u64).wrap (w64 (iv3 + j4))) 1))) else some (.inr iv3)
noncomputable def m4 (xv : List Int) (target : Int) : Option (Int × Bool) := Option.bind (Loop (s5 xv target) (0, (xv.length : Int))) fun iv5 => Option.bind (if iv5 < (xv.length : Int) then Option.bind (ix xv iv5) fun a38 => if a38 = target then some true else Option.bind (ix xv iv5) fun a45 => Option.bind (G2 a45) fun a47 => if a47 = true then Option.bind (G2 target) fun a50 => some a50 else some false else some false) fun t8 => some (iv5, t8)
noncomputable def Q0 (xv : Int) (c2 : List Int) : Option Bool := Option.bind (m4 c2 xv) fun a9 => some a9.2
def x5 (sv : List Int) (fv : Int → Option Bool) : Int → Unit → Option (Unit ⊕ Int) := fun t3 _ => Option.bind (ix sv t3) fun a14 => Option.bind (fv a14) fun a16 => if a16 = true then some (.inr t3) else some (.inl ())
def B2 (sv : List Int) (fv : Int → Option Bool) : Option Int := (Option.bind (rngX 0 (sv.length : Int) (x5 sv fv) ()) fun | .inl _ => some (-1) | .inr x => some x)
def p8 (sv : List Int) (fv : Int → Option Bool) : Option Bool := Option.bind (B2 sv fv) fun a7 => some (decide (0 ≤ a7))
noncomputable def O5 (av : List Int) (bv : List Int) : Option Bool := Option.bind (p8 av (fun y1 => Q0 y1 bv)) fun a7 => some a7
noncomputable def I0 (ov : i6) (facts : Int) : Option Int := Option.bind (Option.bind (x8 ov.pre facts) fun a9 => if (!a9) = true then some true else Option.bind (x8 ov.add facts) fun a15 => if (!a15) = true then some true else Option.bind (x8 ov.del facts) fun a22 => if (!a22) = true then some true else Option.bind (O5 ov.add ov.del) fun a30 => some a30) fun t3 => if t3 = true then some 5 else if ((decide (ov.cost < 0)) || (decide (100 < ov.cost))) = true then some 3 else some 0
noncomputable def D4 (t : f7) : Int → Unit → Option (Unit ⊕ TFault) := fun t6 _ => Option.bind (ix t.operators t6) fun a44 => Option.bind (I0 a44 t.facts) fun a49 => if a49 = 0 then some (.inl ()) else some (.inr (⟨a49, t6⟩ : TFault))
noncomputable def w9 (t : f7) : Option TFault := if ((decide (t.facts < 0)) || (decide (24 < t.facts))) = true then some (⟨3, -1⟩ : TFault) else Option.bind (x8 t.init t.facts) fun a21 => if (!a21) = true then some (⟨5, -2⟩ : TFault) else Option.bind (x8 t.goal t.facts) fun a29 => if (!a29) = true then some (⟨5, -3⟩ : TFault) else if 40 < (t.operators.length : Int) then some (⟨2, -1⟩ : TFault) else (Option.bind (rngX 0 (t.operators.length : Int) (D4 t) ()) fun | .inl _ => some (⟨0, 0⟩ : TFault) | .inr x => some x)
def D3 (sv : List Int) (a12 : Int) : Int → Option (Int ⊕ Int) := fun iv5 => Option.bind (if iv5 < (sv.length : Int) then Option.bind (ix sv iv5) fun a21 => some (decide (a21 < a12)) else some false) fun t7 => if t7 = true then some (.inl (w64 (iv5 + 1))) else some (.inr iv5)
noncomputable def H4 (sv : List Int) (part : List Int) : Int → Int → Option (Int ⊕ Bool) := fun t4 iv3 => Option.bind (ix part t4) fun a12 => Option.bind (Loop (D3 sv a12) iv3) fun iv6 => Option.bind (if iv6 = (sv.length : Int) then some true else Option.bind (ix sv iv6) fun a35 => some (!(decide (a35 = a12)))) fun t11 => if t11 = true then some (.inr false) else some (.inl iv6)
noncomputable def B3 (sv : List Int) (part : List Int) : Option Bool := (Option.bind (rngX 0 (part.length : Int) (H4 sv part) 0) fun | .inl iv3 => some true | .inr x => some x)
noncomputable def R1 (sv : List Int) (c2 : List Int) : Option Bool := Option.bind (B3 sv c2) fun a6 => some (!a6)
def B1 (sv : List (List Int)) (fv : (List Int) → Option Bool) : Int → Unit → Option (Unit ⊕ Int) := fun t3 _ => Option.bind (ix sv t3) fun a14 => Option.bind (fv a14) fun a16 => if a16 = true then some (.inr t3) else some (.inl ())
def D1 (sv : List (List Int)) (fv : (List Int) → Option Bool) : Option Int := (Option.bind (rngX 0 (sv.length : Int) (B1 sv fv) ()) fun | .inl _ => some (-1) | .inr x => some x)
def s7 (sv : List (List Int)) (fv : (List Int) → Option Bool) : Option Bool := Option.bind (D1 sv fv) fun a7 => some (decide (0 ≤ a7))
noncomputable def Q6 (worlds : List (List Int)) (facts : List Int) : Option Bool := Option.bind (s7 worlds (fun y1 => R1 y1 facts)) fun a7 => some (!a7)
noncomputable def S7 (sv : List Int) (del : List Int) : Int → (List Int) → Option (List Int) := fun t5 c4 => Option.bind (Option.bind (ix sv t5) fun a16 => Option.bind (m4 del a16) fun a21 => if (!a21.2) = true then Option.bind (app 8 c4 [a16]) fun a29 => some a29 else some c4) fun c6 => some c6
noncomputable def H1 (sv : List Int) (add : List Int) (del : List Int) : Option (List Int) := (Option.bind (forR 0 (sv.length : Int) (S7 sv del) []) fun c4 => Option.bind (app 8 c4 add) fun a33 => Option.bind (sortL a33) fun a35 => some (R7 a35))
noncomputable def N1 (t : f7) (sv : List Int) (op : Int) : Option (List Int) := Option.bind (ix t.operators op) fun a11 => Option.bind (H1 sv a11.add a11.del) fun a18 => some a18
def I7 (xv : Int) (yv : Int) : Option Int := Option.bind (B9 xv) fun a8 => Option.bind (B9 yv) fun a10 => if a8 = true then if a10 = true then some 0 else some (-1) else if a10 = true then some 1 else if xv < yv then some (-1) else if yv < xv then some 1 else some 0
def A5 (s11 : List Int) (s22 : List Int) : Int → Unit → Option (Unit ⊕ Int) := fun t3 _ => Option.bind (ix s11 t3) fun a14 => if (s22.length : Int) ≤ t3 then some (.inr 1) else Option.bind (ix s22 t3) fun a22 => Option.bind (I7 a14 a22) fun a26 => if a26 = 0 then some (.inl ()) else some (.inr a26)
def q8 (s11 : List Int) (s22 : List Int) : Option Int := (Option.bind (rngX 0 (s11.length : Int) (A5 s11 s22) ()) fun | .inl _ => if (s11.length : Int) < (s22.length : Int) then some (-1) else some 0 | .inr x => some x)
def G6 (s11 : List Int) (s22 : List Int) : Int → Unit → Option (Unit ⊕ Bool) := fun t4 _ => Option.bind (ix s11 t4) fun a18 => Option.bind (ix s22 t4) fun a22 => if a18 = a22 then some (.inl ()) else some (.inr false)
def w6 (s11 : List Int) (s22 : List Int) : Option Bool := if (s11.length : Int) = (s22.length : Int) then (Option.bind (rngX 0 (s11.length : Int) (G6 s11 s22) ()) fun | .inl _ => some true | .inr x => some x) else some false
abbrev q6 (l : List (List Int)) : b7 := [.one (vec 1 f5 l)]
def n5 (l : List (List Int)) (kv54 : Int) : Int → ((List (List Int)) × Int) → Option ((List (List Int)) × Int) := fun k258 (c56, kv57) => Option.bind (Option.bind (ixV c56 (0 + kv54) ((l.length : Int) - kv54) k258) fun a41 => Option.bind (ixV c56 (0 + kv54) ((l.length : Int) - kv54) (k258 - 1)) fun a46 => Option.bind (w6 a41 a46) fun a48 => if (!a48) = true then Option.bind (ixV c56 (0 + kv54) ((l.length : Int) - kv54) k258) fun a54 => Option.bind (ix c56 kv57) fun a56 => some (c56.set kv57.toNat a54, w64 (kv57 + 1)) else some (c56, kv57)) fun ⟨c59, kv60⟩ => some (c59, kv60)
def l9 (l : List (List Int)) : Int → Unit → Option (Unit ⊕ (List (List Int))) := fun kv54 _ => Option.bind (ix l kv54) fun a21 => Option.bind (ix l (kv54 - 1)) fun a26 => Option.bind (w6 a21 a26) fun a28 => if a28 = true then Option.bind (cutV (l.length : Int) kv54 (l.length : Int)) fun u31 => (Option.bind (forR 1 ((l.length : Int) - kv54) (n5 l kv54) (l, kv54)) fun ⟨c56, kv57⟩ => Option.bind (cutV (c56.length : Int) kv57 (c56.length : Int)) fun u61 => Option.bind (cutV ((clrL c56 (0 + kv57) ((c56.length : Int) - kv57) []).length : Int) 0 kv57) fun u64 => some (.inr (k7 (clrL c56 (0 + kv57) ((c56.length : Int) - kv57) []) 0 kv57))) else some (.inl ())
def o7 (l : List (List Int)) : Option (List (List Int)) := if (l.length : Int) < 2 then some l else (Option.bind (rngX 1 (l.length : Int) (l9 l) ()) fun | .inl _ => some l | .inr x => some x)
abbrev ai9 (l : List (List Int)) : b7 := [.one (vec 1 f5 l)]
noncomputable def H7 (l : List (List Int)) : Option (List (List Int)) := Option.bind (sortFL q8 l) fun a4 => Option.bind (o7 a4) fun a6 => some a6
noncomputable def I9 (t : f7) (worlds : List (List Int)) (op : Int) : Int → (List (List Int)) → Option (List (List Int)) := fun t5 c4 => Option.bind (ix worlds t5) fun a14 => Option.bind (N1 t a14 op) fun a20 => Option.bind (app 24 c4 [a20]) fun a22 => some a22
noncomputable def K4 (t : f7) (worlds : List (List Int)) (op : Int) : Option (List (List Int)) := (Option.bind (forR 0 (worlds.length : Int) (I9 t worlds op) []) fun c4 => Option.bind (H7 c4) fun a25 => some a25)
abbrev ad9 (t : f7) (worlds : List (List Int)) : b7 := []
def G4 (t : f7) (worlds : List (List Int)) : Option Unit := some ()
def H5 (v : List (List Int)) : Option Bool := some false
def internal_strconv_small (iv : Int) : Option ByteArray := if iv < 10 then Option.bind (subS (⟨#[48, 49, 50, 51, 52, 53, 54, 55, 56, 57, 97, 98, 99, 100, 101, 102, 103, 104, 105, 106, 107, 108, 109, 110, 111, 112, 113, 114, 115, 116, 117, 118, 119, 120, 121, 122]⟩ : ByteArray) iv (w64 (iv + 1))) fun a8 => some a8 else Option.bind (subS (⟨#[48, 48, 48, 49, 48, 50, 48, 51, 48, 52, 48, 53, 48, 54, 48, 55, 48, 56, 48, 57, 49, 48, 49, 49, 49, 50, 49, 51, 49, 52, 49, 53, 49, 54, 49, 55, 49, 56, 49, 57, 50, 48, 50, 49, 50, 50, 50, 51, 50, 52, 50, 53, 50, 54, 50, 55, 50, 56, 50, 57, 51, 48, 51, 49, 51, 50, 51, 51, 51, 52, 51, 53, 51, 54, 51, 55, 51, 56, 51, 57, 52, 48, 52, 49, 52, 50, 52, 51, 52, 52, 52, 53, 52, 54, 52, 55, 52, 56, 52, 57, 53, 48, 53, 49, 53, 50, 53, 51, 53, 52, 53, 53, 53, 54, 53, 55, 53, 56, 53, 57, 54, 48, 54, 49, 54, 50, 54, 51, 54, 52, 54, 53, 54, 54, 54, 55, 54, 56, 54, 57, 55, 48, 55, 49, 55, 50, 55, 51, 55, 52, 55, 53, 55, 54, 55, 55, 55, 56, 55, 57, 56, 48, 56, 49, 56, 50, 56, 51, 56, 52, 56, 53, 56, 54, 56, 55, 56, 56, 56, 57, 57, 48, 57, 49, 57, 50, 57, 51, 57, 52, 57, 53, 57, 54, 57, 55, 57, 56, 57, 57]⟩ : ByteArray) (w64 (iv * 2)) (w64 ((w64 (iv * 2)) + 2))) fun a14 => some a14
abbrev Q8 (iv : Int) (base : Int) (l : List Int) : b7 := [.one (vec 1 eU8 l)]
def s6 (iv : Int) (base : Int) (l : List Int) : Option (List Int) := if base = 10 then if iv < 100 then Option.bind (internal_strconv_small (w64 iv)) fun a16 => Option.bind (app 1 l (strL a16)) fun a17 => some a17 else none else none
abbrev R8 (iv : Int) (base : Int) (l : List Int) : b7 := [.one (vec 1 eU8 l)]
def u3 (iv : Int) (base : Int) (l : List Int) : Option (List Int) := Option.bind (if iv < 0 then none else some ()) fun _ => Option.bind (s6 ((IntKind.u64).wrap iv) base l) fun a20 => some a20
abbrev ac7 (iv : Int) (base : Int) (l : List Int) : b7 := [.one (vec 1 eU8 l)]
def u6 (iv : Int) (base : Int) (l : List Int) : Option (List Int) := Option.bind (u3 iv base l) fun a10 => some a10
def Y2 (a12 : List Int) : Int → (List Int) → Option (List Int) := fun t5 c4 => Option.bind (ix a12 t5) fun a18 => Option.bind (u6 a18 10 c4) fun a22 => Option.bind (app 1 a22 [44]) fun a24 => some a24
def Y3 (l : List (List Int)) : Int → (List Int) → Option (List Int) := fun t3 c2 => Option.bind (ix l t3) fun a12 => (Option.bind (forR 0 (a12.length : Int) (Y2 a12) c2) fun c4 => Option.bind (app 1 c4 [59]) fun a28 => some a28)
def D0 (l : List (List Int)) : Option ByteArray := (Option.bind (forR 0 (l.length : Int) (Y3 l) []) fun c2 => some (strB c2))
abbrev ak1 (t : f7) : b7 := []
def R4 (t : f7) : Option Unit := some ()
abbrev aj0 (worlds : List (List Int)) (Facts : Int) (Init : List Int) (Goal : List Int) (Operators : List i6) : b7 := [.one (.cells 4 [[int Facts, row 1 intI Init, row 1 intI Goal, row 4 n9 Operators]])]
def O0 (worlds : List (List Int)) (Facts : Int) (Init : List Int) (Goal : List Int) (Operators : List i6) : Option Unit := Option.bind (G4 (⟨Facts, Init, Goal, Operators⟩ : f7) worlds) fun a6 => some ()
abbrev C2 (start : List (List Int)) (Facts : Int) (Init : List Int) (Goal : List Int) (Operators : List i6) : b7 := [.one (.cells 4 [[int Facts, row 1 intI Init, row 1 intI Goal, row 4 n9 Operators]])]
def Q2 (c59 : List g8) : ((List Int) × Int) → Option (((List Int) × Int) ⊕ (List Int)) := fun (c64, iv65) => Option.bind (ix c59 iv65) fun a43 => if 0 ≤ a43.ffrom then Option.bind (ix c59 iv65) fun a55 => Option.bind (app 8 c64 [a55.step]) fun a59 => Option.bind (ix c59 iv65) fun a49 => some (.inl (a59, a49.ffrom)) else some (.inr c64)
noncomputable def C1 (Facts : Int) (Init : List Int) (Goal : List Int) (Operators : List i6) (c61 : Int) (a66 : g8) : Int → ((List (ByteArray × Int)) × (List g8)) → Option (((List (ByteArray × Int)) × (List g8)) ⊕ (((List (ByteArray × Int)) × (List g8)) ⊕ ((List (ByteArray × Int)) × (List g8)))) := fun t75 (c73, c74) => Option.bind (ix Operators t75) fun ai12 => Option.bind (Q6 a66.node ai12.pre) fun ai17 => if ai17 = true then Option.bind (K4 (⟨Facts, Init, Goal, Operators⟩ : f7) a66.node t75) fun ai24 => Option.bind (D0 ai24) fun ab74 => if 0 < Option.getD (mget c73 ab74) 0 then some (.inl (c73, c74)) else if (c74.length : Int) = 2000 then some (.inr (.inr (c73, c74))) else Option.bind (app 40 c74 [(⟨ai24, c61, t75⟩ : g8)]) fun ab90 => some (.inl (mset c73 ab74 1, ab90)) else some (.inl (c73, c74))
noncomputable def w7 (Facts : Int) (Init : List Int) (Goal : List Int) (Operators : List i6) (c59 : List g8) (c60 : List (ByteArray × Int)) (c61 : Int) (a66 : g8) : Option (((List (ByteArray × Int)) × (List g8)) ⊕ ((List (ByteArray × Int)) × (List g8))) := (Option.bind (rngX 0 (Operators.length : Int) (C1 Facts Init Goal Operators c61 a66) (c60, c59)) fun | .inl (c73, c74) => some (.inl (c73, c74)) | .inr x => some x)
noncomputable def C0 (Facts : Int) (Init : List Int) (Goal : List Int) (Operators : List i6) : ((List g8) × (List (ByteArray × Int)) × Int) → Option (((List g8) × (List (ByteArray × Int)) × Int) ⊕ (Unit ⊕ ((List Int) × Bool × Bool))) := fun (c59, c60, c61) => if c61 < (c59.length : Int) then Option.bind (ix c59 c61) fun a36 => Option.bind (H5 a36.node) fun a39 => if a39 = true then Option.bind (Loop (Q2 c59) ([], c61)) fun c66 => some (.inr (.inr (c66.reverse, true, true))) else Option.bind (ix c59 c61) fun a66 => Option.bind (O0 a66.node Facts Init Goal Operators) fun a69 => Option.bind (w7 Facts Init Goal Operators c59 c60 c61 a66) fun | .inl (c69, c70) => some (.inl (c70, c69, w64 (c61 + 1))) | .inr (c71, c72) => some (.inr (.inr ([], false, false))) else some (.inr (.inl ()))
noncomputable def F3 (start : List (List Int)) (Facts : Int) (Init : List Int) (Goal : List Int) (Operators : List i6) : Option ((List Int) × Bool × Bool) := Option.bind (D0 start) fun a25 => Option.bind (Loop (C0 Facts Init Goal Operators) ([(⟨start, -1, 0⟩ : g8)], mset ([] : List (ByteArray × Int)) a25 1, 0)) fun | .inl _ => some ([], false, true) | .inr x => some x
abbrev ae4 (start : List (List Int)) (Facts : Int) (Init : List Int) (Goal : List Int) (Operators : List i6) : b7 := [.one (.cells 4 [[int Facts, row 1 intI Init, row 1 intI Goal, row 4 n9 Operators]])]
noncomputable def D7 (start : List (List Int)) (Facts : Int) (Init : List Int) (Goal : List Int) (Operators : List i6) : Option Bool := Option.bind (F3 start Facts Init Goal Operators) fun a14 => some a14.2.2
def z7 (t : f7) (goals : List (List Int)) : Int → Unit → Option (Unit ⊕ TFault) := fun t6 _ => Option.bind (ix goals t6) fun a32 => Option.bind (x8 a32 t.facts) fun a37 => if (!a37) = true then some (.inr (⟨5, w64 ((-10) - t6)⟩ : TFault)) else some (.inl ())
def H6 (t : f7) (observed : List Int) : Int → Unit → Option (Unit ⊕ TFault) := fun t9 _ => Option.bind (ix observed t9) fun a51 => if ((decide (a51 < 0)) || (decide ((t.operators.length : Int) ≤ a51))) = true then some (.inr (⟨3, -6⟩ : TFault)) else some (.inl ())
noncomputable def I3 (t : f7) (goals : List (List Int)) (observed : List Int) : Option TFault := Option.bind (w9 t) fun a13 => if (!((decide (a13.code = 0)) && (decide (a13.index = 0)))) = true then some a13 else if ((decide ((goals.length : Int) = 0)) || (decide (4 < (goals.length : Int)))) = true then some (⟨9, -8⟩ : TFault) else (Option.bind (rngX 0 (goals.length : Int) (z7 t goals) ()) fun | .inl _ => if 8 < (observed.length : Int) then some (⟨2, -5⟩ : TFault) else (Option.bind (rngX 0 (observed.length : Int) (H6 t observed) ()) fun | .inl _ => Option.bind (R4 t) fun a68 => Option.bind (D7 [t.init] t.facts t.init t.goal t.operators) fun a69 => if (!a69) = true then some (⟨10, -7⟩ : TFault) else some (⟨0, 0⟩ : TFault) | .inr x => some x) | .inr x => some x)
def C8 (l : List d9) : Option Int := some (l.length : Int)
noncomputable def T9 (t : f7) (sv : List Int) (op : Int) : Option Bool := Option.bind (ix t.operators op) fun a11 => Option.bind (B3 sv a11.pre) fun a14 => some a14
abbrev X1 (l : List d9) : b7 := [.one (vec 4 b9 l)]
def o6 (l : List d9) : Option Unit := some ()
abbrev W1 (iv : Int) (kv : Int) (l : List d9) : b7 := [.one (vec 4 b9 l)]
def m8 (iv : Int) (kv : Int) (l : List d9) : Option (List d9) := Option.bind (ix l kv) fun a12 => Option.bind (ix l iv) fun a16 => Option.bind (ix l iv) fun a18 => Option.bind (ix (l.set iv.toNat a12) kv) fun a19 => some ((l.set iv.toNat a12).set kv.toNat a16)
abbrev V3 (iv : Int) (kv : Int) (l : List d9) : b7 := [.one (vec 4 b9 l)]
def l8 (iv : Int) (kv : Int) (l : List d9) : Option Bool := Option.bind (Option.bind (ix l iv) fun a9 => Option.bind (ix l kv) fun a14 => if a9.cost < a14.cost then some true else Option.bind (ix l iv) fun a21 => Option.bind (ix l kv) fun a26 => if a21.cost = a26.cost then Option.bind (ix l iv) fun a33 => Option.bind (ix l kv) fun a38 => some (decide (a33.sequence < a38.sequence)) else some false) fun t55 => some t55
abbrev U6 (iv : Int) (kv : Int) (l : List d9) : b7 := [.one (vec 4 b9 l)]
def y6 (iv : Int) (kv : Int) (l : List d9) : Option Bool := Option.bind (Option.bind (ix l iv) fun a9 => Option.bind (ix l kv) fun a14 => if a9.cost < a14.cost then some true else Option.bind (ix l iv) fun a21 => Option.bind (ix l kv) fun a26 => if a21.cost = a26.cost then Option.bind (ix l iv) fun a33 => Option.bind (ix l kv) fun a38 => some (decide (a33.sequence < a38.sequence)) else some false) fun t55 => some t55
abbrev N9 (i01 : Int) (nv : Int) (l : List d9) : b7 := [.one (.cells 1 [[.own 1 0 l.length]]), .one (vec 4 b9 l)]
def A7 (nv : Int) : ((List d9) × Int) → Option (((List d9) × Int) ⊕ ((List d9) × Int)) := fun (c56, iv57) => if ((decide (nv ≤ w64 ((w64 (2 * iv57)) + 1))) || (decide (w64 ((w64 (2 * iv57)) + 1) < 0))) = true then some (.inr (c56, iv57)) else Option.bind (Option.bind (if w64 ((w64 ((w64 (2 * iv57)) + 1)) + 1) < nv then Option.bind (l8 (w64 ((w64 ((w64 (2 * iv57)) + 1)) + 1)) (w64 ((w64 (2 * iv57)) + 1)) c56) fun a32 => some a32 else some false) fun t63 => if t63 = true then some (w64 ((w64 ((w64 (2 * iv57)) + 1)) + 1)) else some (w64 ((w64 (2 * iv57)) + 1))) fun j61 => Option.bind (y6 j61 iv57 c56) fun a38 => if (!a38) = true then some (.inr (c56, iv57)) else Option.bind (m8 iv57 j61 c56) fun a43 => Option.bind (X2 c56 a43) fun u68 => some (.inl (a43, j61))
noncomputable def x9 (i01 : Int) (nv : Int) (l : List d9) : Option ((List d9) × Bool) := Option.bind (Loop (A7 nv) (l, i01)) fun ⟨c58, iv59⟩ => some (c58, decide (i01 < iv59))
abbrev W5 (l : List d9) : b7 := [.one (.cells 1 [[.own 1 0 l.length]]), .one (vec 4 b9 l)]
def A6 (l : List d9) : Option d9 := Option.bind (ix l (w64 ((l.length : Int) - 1))) fun a12 => Option.bind (cutV (l.length : Int) 0 (w64 ((l.length : Int) - 1))) fun u23 => some a12
abbrev ac0 (l : List d9) : b7 := [.one (.cells 1 [[.own 1 0 l.length]]), .one (vec 4 b9 l)]
noncomputable def A0 (l : List d9) : Option ((List d9) × d9) := Option.bind (o6 l) fun a5 => Option.bind (m8 0 (w64 ((l.length : Int) - 1)) l) fun a9 => Option.bind (X2 l a9) fun u54 => Option.bind (x9 0 (w64 ((l.length : Int) - 1)) a9) fun a12 => Option.bind (A6 a12.1) fun a14 => some (k7 a12.1 0 (w64 ((a12.1.length : Int) - 1)), a14)
abbrev ad8 (t : f7) (sv : List Int) : b7 := []
def G3 (t : f7) (sv : List Int) : Option Unit := some ()
abbrev V7 (xv : d9) (l : List d9) : b7 := [.one (.cells 1 [[.own 1 0 l.length]]), .one (vec 4 b9 l)]
def B0 (xv : d9) (l : List d9) : Option (List d9) := Option.bind (app 48 l [xv]) fun a11 => some a11
abbrev U5 (iv : Int) (kv : Int) (l : List d9) : b7 := [.one (vec 4 b9 l)]
def y7 (iv : Int) (kv : Int) (l : List d9) : Option (List d9) := Option.bind (ix l kv) fun a12 => Option.bind (ix l iv) fun a16 => Option.bind (ix l iv) fun a18 => Option.bind (ix (l.set iv.toNat a12) kv) fun a19 => some ((l.set iv.toNat a12).set kv.toNat a16)
abbrev Q4 (j : Int) (l : List d9) : b7 := [.one (.cells 1 [[.own 1 0 l.length]]), .one (vec 4 b9 l)]
def C3 : ((List d9) × Int) → Option (((List d9) × Int) ⊕ (List d9)) := fun (c54, j55) => Option.bind (chkN 2) fun u7 => Option.bind (if w64 ((w64 (j55 - 1)).tdiv 2) = j55 then some true else Option.bind (l8 j55 (w64 ((w64 (j55 - 1)).tdiv 2)) c54) fun a15 => some (!a15)) fun t57 => if t57 = true then some (.inr c54) else Option.bind (y7 (w64 ((w64 (j55 - 1)).tdiv 2)) j55 c54) fun a21 => Option.bind (X2 c54 a21) fun u61 => some (.inl (a21, w64 ((w64 (j55 - 1)).tdiv 2)))
noncomputable def B4 (j : Int) (l : List d9) : Option (List d9) := Option.bind (Loop C3 (l, j)) fun c56 => some c56
abbrev ab1 (xv : d9) (l : List d9) : b7 := [.one (.cells 1 [[.own 1 0 l.length]]), .one (vec 4 b9 l)]
noncomputable def q9 (xv : d9) (l : List d9) : Option (List d9) := Option.bind (B0 xv l) fun a6 => Option.bind (o6 a6) fun a9 => Option.bind (B4 (w64 ((a6.length : Int) - 1)) a6) fun a11 => some a11
noncomputable def D6 (goals : List (List Int)) (observed : List Int) (a35 : (List d9) × d9) : Int → (List Int) → Option (List Int) := fun t17 c16 => Option.bind (Option.bind (ix goals t17) fun a55 => Option.bind (if a35.2.seen = (observed.length : Int) then Option.bind (ix c16 t17) fun a65 => if a65 = 1000000000 then Option.bind (B3 a35.2.fs a55) fun a73 => some a73 else some false else some false) fun t20 => if t20 = true then Option.bind (ix c16 t17) fun a79 => some (c16.set t17.toNat a35.2.cost) else some c16) fun c18 => some c18
noncomputable def H8 (t : f7) (observed : List Int) (a35 : (List d9) × d9) : Int → (Int × (List d9)) → Option (Int × (List d9)) := fun t30 (c28, c29) => Option.bind (T9 t a35.2.fs t30) fun ai14 => if ai14 = true then Option.bind (N1 t a35.2.fs t30) fun ai21 => Option.bind (ix t.operators t30) fun ab95 => Option.bind (q9 (⟨ai21, a35.2.seen, w64 (a35.2.cost + ab95.cost), c28⟩ : d9) c29) fun ab107 => Option.bind (if a35.2.seen < (observed.length : Int) then Option.bind (ix observed a35.2.seen) fun ab117 => some (decide (ab117 = t30)) else some false) fun t32 => if t32 = true then Option.bind (q9 (⟨ai21, w64 (a35.2.seen + 1), w64 (a35.2.cost + ab95.cost), c28⟩ : d9) ab107) fun ab130 => some (w64 (c28 + 1), ab130) else some (w64 (c28 + 1), ab107) else some (c28, c29)
noncomputable def J1 (t : f7) (observed : List Int) (c7 : Int) (a35 : (List d9) × d9) : Option (Int × (List d9)) := (Option.bind (forR 0 (t.operators.length : Int) (H8 t observed a35) (c7, a35.1)) fun ⟨c28, c29⟩ => some (c28, c29))
noncomputable def I4 (t : f7) (goals : List (List Int)) (observed : List Int) : ((List Int) × (List d9) × (List (ByteArray × Int)) × Int) → Option (((List Int) × (List d9) × (List (ByteArray × Int)) × Int) ⊕ (List Int)) := fun (c4, c5, c6, c7) => Option.bind (C8 c5) fun a31 => if 0 < a31 then Option.bind (Option.bind (A0 c5) fun a35 => Option.bind (D0 ([a35.2.fs, [a35.2.seen]])) fun a43 => if 0 < Option.getD (mget c6 a43) 0 then some (c4, c6, c7, a35.1) else (Option.bind (forR 0 (goals.length : Int) (D6 goals observed a35) c4) fun c16 => Option.bind (G3 t a35.2.fs) fun a84 => Option.bind (J1 t observed c7 a35) fun ⟨c26, c27⟩ => some (c16, mset c6 a43 1, c26, c27))) fun ⟨c10, c11, c12, c13⟩ => some (.inl (c10, c13, c11, c12)) else some (.inr c4)
noncomputable def D8 (t : f7) (goals : List (List Int)) (observed : List Int) : Option (List Int) := Option.bind (A4 [1000000000] (goals.length : Int)) fun a21 => Option.bind (Loop (I4 t goals observed) (a21, [(⟨t.init, 0, 0, 0⟩ : d9)], ([] : List (ByteArray × Int)), 1)) fun c8 => some c8
def J2 (a24 : (List Int)) (a27 : (List Int)) : Int → (List (Int × Int)) → Option (List (Int × Int)) := fun t6 c5 => Option.bind (ix a24 t6) fun a36 => Option.bind (ix a27 t6) fun a40 => Option.bind (app 16 c5 [(a36, a40)]) fun a44 => some a44
noncomputable def s4 (t : f7) (goals : List (List Int)) (observed : List Int) : Option ((List (Int × Int)) × TFault) := Option.bind (I3 t goals observed) fun a16 => if (!((decide (a16.code = 0)) && (decide (a16.index = 0)))) = true then some ([], a16) else Option.bind (D8 t goals observed) fun a24 => Option.bind (D8 t goals []) fun a27 => (Option.bind (forR 0 (goals.length : Int) (J2 a24 a27) []) fun c5 => some (c5, (⟨0, 0⟩ : TFault)))
def J6 (a20 : (List (Int × Int)) × TFault) : Int → Int → Option Int := fun t6 least5 => Option.bind (Option.bind (ix a20.1 t6) fun a31 => if a31.1 < 1000000000 then some (min least5 (w64 (a31.1 - a31.2))) else some least5) fun least7 => some least7
def J5 (a20 : (List (Int × Int)) × TFault) (least5 : Int) : Int → (List Int) → Option (List Int) := fun t11 c10 => Option.bind (Option.bind (ix a20.1 t11) fun a49 => if ((decide (a49.1 < 1000000000)) && (decide (w64 (a49.1 - a49.2) = least5))) = true then Option.bind (app 8 c10 [t11]) fun a66 => some a66 else some c10) fun c12 => some c12
noncomputable def q7 (t : f7) (goals : List (List Int)) (observed : List Int) : Option ((List Int) × TFault) := Option.bind (s4 t goals observed) fun a20 => if (!((decide (a20.2.code = 0)) && (decide (a20.2.index = 0)))) = true then some ([], a20.2) else (Option.bind (forR 0 (a20.1.length : Int) (J6 a20) 1000000000) fun least5 => (Option.bind (forR 0 (a20.1.length : Int) (J5 a20 least5) []) fun c10 => some (c10, (⟨0, 0⟩ : TFault))))
def Q1 (nv : Int) (low : Int) (high : Int) : Option Bool := some ((decide (low ≤ nv)) && (decide (nv ≤ high)))
def C7 (code : Int) (index : Int) : Option TFault := some (⟨code, index⟩ : TFault)
def R3 (l : List Int) (nv : Int) : Int → Unit → Option (Unit ⊕ Bool) := fun iv3 _ => Option.bind (Option.bind (ix l iv3) fun a14 => Option.bind (Q1 a14 0 (w64 (nv - 1))) fun a18 => if (!a18) = true then some true else if 0 < iv3 then Option.bind (ix l iv3) fun a26 => Option.bind (ix l (iv3 - 1)) fun a31 => some (decide (a26 ≤ a31)) else some false) fun t4 => if t4 = true then some (.inr false) else some (.inl ())
def D2 (l : List Int) (nv : Int) : Option Bool := (Option.bind (rngX 0 (l.length : Int) (R3 l nv) ()) fun | .inl _ => some true | .inr x => some x)
def ae1 (l : List Int) (nv : Int) : Int → Unit → Option (Unit ⊕ Bool) := fun iv3 _ => Option.bind (ix l iv3) fun a14 => if a14 = nv then some (.inr true) else some (.inl ())
def J3 (l : List Int) (nv : Int) : Option Bool := (Option.bind (rngX 0 (l.length : Int) (ae1 l nv) ()) fun | .inl _ => some false | .inr x => some x)
def S5 (av : List Int) (bv : List Int) : Int → Unit → Option (Unit ⊕ Bool) := fun iv3 _ => Option.bind (ix av iv3) fun a15 => Option.bind (J3 bv a15) fun a17 => if a17 = true then some (.inr false) else some (.inl ())
def M7 (av : List Int) (bv : List Int) : Option Bool := (Option.bind (rngX 0 (av.length : Int) (S5 av bv) ()) fun | .inl _ => some true | .inr x => some x)
def B7 (t : f7) : Int → Unit → Option (Unit ⊕ TFault) := fun iv6 _ => Option.bind (ix t.operators iv6) fun a39 => Option.bind (Option.bind (D2 a39.pre t.facts) fun a45 => if (!a45) = true then some true else Option.bind (D2 a39.add t.facts) fun a52 => if (!a52) = true then some true else Option.bind (D2 a39.del t.facts) fun a60 => if (!a60) = true then some true else Option.bind (M7 a39.add a39.del) fun a68 => some (!a68)) fun t7 => if t7 = true then Option.bind (C7 5 iv6) fun a72 => some (.inr a72) else Option.bind (Q1 a39.cost 0 100) fun a75 => if (!a75) = true then Option.bind (C7 3 iv6) fun a78 => some (.inr a78) else some (.inl ())
def J9 (t : f7) : Option TFault := Option.bind (Q1 t.facts 0 24) fun a7 => if (!a7) = true then Option.bind (C7 3 (-1)) fun a9 => some a9 else Option.bind (D2 t.init t.facts) fun a14 => if (!a14) = true then Option.bind (C7 5 (-2)) fun a16 => some a16 else Option.bind (D2 t.goal t.facts) fun a21 => if (!a21) = true then Option.bind (C7 5 (-3)) fun a23 => some a23 else if 40 < (t.operators.length : Int) then Option.bind (C7 2 (-1)) fun a28 => some a28 else (Option.bind (rngX 0 (t.operators.length : Int) (B7 t) ()) fun | .inl _ => some (⟨0, 0⟩ : TFault) | .inr x => some x)
def P1 (operators : Int) (plan : List Int) : Int → Unit → Option (Unit ⊕ TFault) := fun iv4 _ => Option.bind (ix plan iv4) fun a18 => Option.bind (Q1 a18 0 (w64 (operators - 1))) fun a22 => if (!a22) = true then Option.bind (C7 3 (-6)) fun a24 => some (.inr a24) else some (.inl ())
def I8 (operators : Int) (plan : List Int) : Option TFault := if 60 < (plan.length : Int) then Option.bind (C7 2 (-5)) fun a9 => some a9 else (Option.bind (rngX 0 (plan.length : Int) (P1 operators plan) ()) fun | .inl _ => some (⟨0, 0⟩ : TFault) | .inr x => some x)
def D9 (t : f7) (goals : List (List Int)) : Int → Unit → Option (Unit ⊕ TFault) := fun iv6 _ => Option.bind (ix goals iv6) fun a28 => Option.bind (D2 a28 t.facts) fun a32 => if (!a32) = true then Option.bind (C7 5 (w64 ((-10) - iv6))) fun a36 => some (.inr a36) else some (.inl ())
def z8 (t : f7) (goals : List (List Int)) (observed : List Int) : Option TFault := Option.bind (J9 t) fun a10 => if a10.code = 0 then Option.bind (Q1 (goals.length : Int) 1 4) fun a17 => if (!a17) = true then Option.bind (C7 9 (-8)) fun a19 => some a19 else (Option.bind (rngX 0 (goals.length : Int) (D9 t goals) ()) fun | .inl _ => if 8 < (observed.length : Int) then Option.bind (C7 2 (-5)) fun a40 => some a40 else Option.bind (I8 (t.operators.length : Int) observed) fun a45 => if a45.code = 0 then some (⟨0, 0⟩ : TFault) else Option.bind (C7 3 (-6)) fun a48 => some a48 | .inr x => some x) else some a10
def W8 : Option f7 := some (⟨2, [0], [1], [(⟨[0], [1], [0], 1⟩ : i6), (⟨[], [1], [], 3⟩ : i6)]⟩ : f7)
def S4 (av : List (Int × Int)) (bv : List (Int × Int)) : Int → Unit → Option (Unit ⊕ Bool) := fun iv4 _ => Option.bind (ix av iv4) fun a19 => Option.bind (ix bv iv4) fun a23 => if (!((decide (a19.1 = a23.1)) && (decide (a19.2 = a23.2)))) = true then some (.inr false) else some (.inl ())
def H3 (av : List (Int × Int)) (bv : List (Int × Int)) : Option Bool := if (av.length : Int) = (bv.length : Int) then (Option.bind (rngX 0 (av.length : Int) (S4 av bv) ()) fun | .inl _ => some true | .inr x => some x) else some false
def L8 (av : List Int) (bv : List Int) : Int → Unit → Option (Unit ⊕ Bool) := fun iv4 _ => Option.bind (ix av iv4) fun a19 => Option.bind (ix bv iv4) fun a23 => if a19 = a23 then some (.inl ()) else some (.inr false)
def G7 (av : List Int) (bv : List Int) : Option Bool := if (av.length : Int) = (bv.length : Int) then (Option.bind (rngX 0 (av.length : Int) (L8 av bv) ()) fun | .inl _ => some true | .inr x => some x) else some false
noncomputable def C6 : Option Bool := Option.bind (W8) fun a6 => Option.bind (s4 a6 ([[1]]) [1]) fun a10 => Option.bind (W8) fun a14 => Option.bind (q7 a14 ([[1]]) [1]) fun a18 => Option.bind (if a10.2.code = 0 then if a18.2.code = 0 then Option.bind (H3 a10.1 [(3, 1)]) fun a33 => if a33 = true then Option.bind (G7 a18.1 [0]) fun a38 => some a38 else some false else some false else some false) fun t1 => some t1
def U1 (sv : List Int) : Int → Int → Option Int := fun iv3 w2 => Option.bind (ix sv iv3) fun a14 => Option.bind (chk0 ((IntKind.u64).wrap a14)) fun u17 => some (w64 (w2 + (shlW .i64 1 ((IntKind.u64).wrap a14))))
def O9 (sv : List Int) : Option Int := (Option.bind (forR 0 (sv.length : Int) (U1 sv) 0) fun w2 => some w2)
def V0 (part : List Int) (l : List Int) : Int → Unit → Option (Unit ⊕ Bool) := fun iv3 _ => Option.bind (ix part iv3) fun a15 => Option.bind (J3 l a15) fun a17 => if (!a17) = true then some (.inr false) else some (.inl ())
def N3 (part : List Int) (l : List Int) : Option Bool := (Option.bind (rngX 0 (part.length : Int) (V0 part l) ()) fun | .inl _ => some true | .inr x => some x)
def K5 (t : f7) (sv : List Int) (op : Int) : Option Bool := Option.bind (ix t.operators op) fun a10 => Option.bind (N3 a10.pre sv) fun a14 => some a14
def Y5 (t : f7) (sv : List Int) (op : Int) : Int → (List Int) → Option (List Int) := fun p5 c4 => Option.bind (Option.bind (Option.bind (ix t.operators op) fun a18 => Option.bind (J3 a18.add p5) fun a22 => if a22 = true then some true else Option.bind (J3 sv p5) fun a26 => if a26 = true then Option.bind (ix t.operators op) fun a31 => Option.bind (J3 a31.del p5) fun a35 => some (!a35) else some false) fun t8 => if t8 = true then Option.bind (app 8 c4 [p5]) fun a42 => some a42 else some c4) fun c6 => some c6
def P8 (t : f7) (sv : List Int) (op : Int) : Option (List Int) := if t.facts ≤ 9223372036854775807 then (Option.bind (forR 0 t.facts (Y5 t sv op) []) fun c4 => some c4) else none
def C5 : ((List (List Int)) × (List Int)) → Option (((List (List Int)) × (List Int)) ⊕ ((List (List Int)) × Bool)) := fun (c11, c12) => some (.inl (c11, c12))
def x6 (t : f7) (iv5 : Int) : Int → ((List (List Int)) × (List Int)) → Option (((List (List Int)) × (List Int)) ⊕ ((List (List Int)) × Bool)) := fun op10 (c8, c9) => Option.bind (ix c8 iv5) fun a32 => Option.bind (K5 t a32 op10) fun a35 => if (!a35) = true then C5 (c8, c9) else Option.bind (ix c8 iv5) fun a40 => Option.bind (P8 t a40 op10) fun a43 => Option.bind (O9 a43) fun a46 => Option.bind (J3 c9 a46) fun a47 => if a47 = true then C5 (c8, c9) else if (c8.length : Int) = 2000 then some (.inr ([], false)) else Option.bind (app 24 c8 [a43]) fun a54 => Option.bind (O9 a43) fun a57 => Option.bind (app 8 c9 [a57]) fun a59 => C5 (a54, a59)
def G5 (t : f7) : ((List (List Int)) × (List Int) × Int) → Option (((List (List Int)) × (List Int) × Int) ⊕ ((List (List Int)) ⊕ ((List (List Int)) × Bool))) := fun (c3, c4, iv5) => if iv5 < (c3.length : Int) then (Option.bind (rngX 0 (t.operators.length : Int) (x6 t iv5) (c3, c4)) fun | .inl (c8, c9) => some (.inl (c8, c9, w64 (iv5 + 1))) | .inr x => some (.inr (.inr x))) else some (.inr (.inl c3))
noncomputable def M0 (t : f7) (sv : List Int) : Option ((List (List Int)) × Bool) := Option.bind (O9 sv) fun a14 => Option.bind (Loop (G5 t) ([sv], [a14], 0)) fun | .inl c6 => some (c6, true) | .inr x => some x
noncomputable def O8 (t : f7) : Option ((List (List Int)) × Bool) := Option.bind (M0 t t.init) fun a7 => some (a7.1, a7.2)
def ab8 (av : List Int) (bv : List Int) : Int → Unit → Option (Unit ⊕ Bool) := fun iv4 _ => Option.bind (ix av iv4) fun a19 => Option.bind (ix bv iv4) fun a23 => if a19 = a23 then some (.inl ()) else some (.inr false)
def X4 (av : List Int) (bv : List Int) : Option Bool := if (av.length : Int) = (bv.length : Int) then (Option.bind (rngX 0 (av.length : Int) (ab8 av bv) ()) fun | .inl _ => some true | .inr x => some x) else some false
def R5 (l : List (List Int)) (sv : List Int) : Int → Unit → Option (Unit ⊕ Int) := fun iv3 _ => Option.bind (ix l iv3) fun a14 => Option.bind (X4 a14 sv) fun a17 => if a17 = true then some (.inr iv3) else some (.inl ())
def M3 (l : List (List Int)) (sv : List Int) : Option Int := (Option.bind (rngX 0 (l.length : Int) (R5 l sv) ()) fun | .inl _ => some (-1) | .inr x => some x)
def E6 (states : List (List Int)) (goal : List Int) (observed : List Int) (kv6 : Int) : Int → (List (List Int)) → Option (List (List Int)) := fun iv10 c9 => Option.bind (Option.bind (if kv6 < (observed.length : Int) then some true else Option.bind (ix states iv10) fun a47 => Option.bind (N3 goal a47) fun a49 => some (!a49)) fun t13 => if t13 = true then Option.bind (ix c9 kv6) fun a54 => Option.bind (ix a54 iv10) fun a57 => some (c9.set kv6.toNat (a54.set iv10.toNat 1000000000)) else some c9) fun c11 => some c11
def E7 (t : f7) (states : List (List Int)) (observed : List Int) (kv6 : Int) (iv23 : Int) : Int → ((List (List Int)) × Bool) → Option ((List (List Int)) × Bool) := fun op26 (c24, again25) => Option.bind (Option.bind (ix states iv23) fun a75 => Option.bind (K5 t a75 op26) fun a78 => if (!a78) = true then some (c24, again25) else Option.bind (ix states iv23) fun a84 => Option.bind (P8 t a84 op26) fun a87 => Option.bind (M3 states a87) fun a88 => Option.bind (ix c24 kv6) fun a91 => Option.bind (ix a91 a88) fun a94 => Option.bind (Option.bind (if kv6 < (observed.length : Int) then Option.bind (ix observed kv6) fun a102 => if a102 = op26 then Option.bind (ix c24 (w64 (kv6 + 1))) fun a111 => Option.bind (ix a111 a88) fun a114 => some (decide (a114 < a94)) else some false else some false) fun t33 => if t33 = true then Option.bind (ix c24 (w64 (kv6 + 1))) fun a122 => Option.bind (ix a122 a88) fun a125 => some a125 else some a94) fun v31 => Option.bind (if v31 < 1000000000 then Option.bind (ix t.operators op26) fun a134 => Option.bind (ix c24 kv6) fun a140 => Option.bind (ix a140 iv23) fun a143 => some (decide (w64 (v31 + a134.cost) < a143)) else some false) fun t38 => if t38 = true then Option.bind (ix c24 kv6) fun a149 => Option.bind (ix t.operators op26) fun a156 => Option.bind (ix a149 iv23) fun a160 => some (c24.set kv6.toNat (a149.set iv23.toNat (w64 (v31 + a156.cost))), true) else some (c24, again25)) fun ⟨c27, again28⟩ => some (c27, again28)
def E9 (t : f7) (states : List (List Int)) (observed : List Int) (kv6 : Int) : Int → ((List (List Int)) × Bool) → Option ((List (List Int)) × Bool) := fun iv23 (c21, again22) => (Option.bind (forR 0 (t.operators.length : Int) (E7 t states observed kv6 iv23) (c21, again22)) fun ⟨c24, again25⟩ => some (c24, again25))
def E5 (t : f7) (states : List (List Int)) (observed : List Int) (kv6 : Int) : ((List (List Int)) × Bool) → Option (((List (List Int)) × Bool) ⊕ (List (List Int))) := fun (c17, again18) => if again18 = true then (Option.bind (forR 0 (states.length : Int) (E9 t states observed kv6) (c17, false)) fun ⟨c21, again22⟩ => some (.inl (c21, again22))) else some (.inr c17)
noncomputable def J7 (t : f7) (states : List (List Int)) (goal : List Int) (observed : List Int) : ((List (List Int)) × Int) → Option (((List (List Int)) × Int) ⊕ (List (List Int))) := fun (c5, kv6) => if 0 ≤ kv6 then Option.bind (mkL 8 (states.length : Int) 0) fun a32 => Option.bind (ix c5 kv6) fun a33 => (Option.bind (forR 0 (states.length : Int) (E6 states goal observed kv6) (c5.set kv6.toNat a32)) fun c9 => Option.bind (Loop (E5 t states observed kv6) (c9, true)) fun c19 => some (.inl (c19, w64 (kv6 - 1)))) else some (.inr c5)
noncomputable def F7 (t : f7) (states : List (List Int)) (goal : List Int) (observed : List Int) : Option Int := Option.bind (mkL 24 (w64 ((observed.length : Int) + 1)) ([] : List Int)) fun a22 => Option.bind (Loop (J7 t states goal observed) (a22, (observed.length : Int))) fun c7 => Option.bind (ix c7 0) fun a162 => Option.bind (M3 states t.init) fun a167 => Option.bind (ix a162 a167) fun a168 => some a168
noncomputable def v6 (t : f7) (goals : List (List Int)) (observed : List Int) (a63 : (List (List Int)) × Bool) : Int → ((List (Int × Int)) × Int) → Option ((List (Int × Int)) × Int) := fun iv13 (c11, least12) => Option.bind (Option.bind (ix goals iv13) fun a84 => Option.bind (F7 t a63.1 a84 observed) fun a87 => Option.bind (ix goals iv13) fun a92 => Option.bind (F7 t a63.1 a92 []) fun a94 => Option.bind (app 16 c11 [(a87, a94)]) fun a100 => if ((decide (a87 < 1000000000)) && (decide (w64 (a87 - a94) < least12))) = true then some (a100, w64 (a87 - a94)) else some (a100, least12)) fun ⟨c14, least15⟩ => some (c14, least15)
def u9 (c11 : List (Int × Int)) (least12 : Int) : Int → (List Int) → Option (List Int) := fun iv19 c18 => Option.bind (Option.bind (Option.bind (ix c11 iv19) fun a121 => if a121.1 < 1000000000 then Option.bind (ix c11 iv19) fun a128 => Option.bind (ix c11 iv19) fun a133 => some (decide (w64 (a128.1 - a133.2) = least12)) else some false) fun t22 => if t22 = true then Option.bind (app 8 c18 [iv19]) fun a143 => some a143 else some c18) fun c20 => some c20
noncomputable def A8 (t : f7) (goals : List (List Int)) (observed : List Int) : Option Bool := Option.bind (s4 t goals observed) fun a25 => Option.bind (q7 t goals observed) fun a32 => Option.bind (z8 t goals observed) fun a38 => if a38.code = 0 then Option.bind (O8 t) fun a63 => if ((!a63.2) || (decide (60 < (a63.1.length : Int)))) = true then Option.bind (C6) fun a73 => some a73 else (Option.bind (forR 0 (goals.length : Int) (v6 t goals observed a63) ([], 1000000000)) fun ⟨c11, least12⟩ => (Option.bind (forR 0 (c11.length : Int) (u9 c11 least12) []) fun c18 => Option.bind (if a25.2.code = 0 then if a32.2.code = 0 then Option.bind (H3 a25.1 c11) fun a155 => if a155 = true then Option.bind (G7 a32.1 c18) fun a160 => if a160 = true then Option.bind (C6) fun a163 => some a163 else some false else some false else some false else some false) fun t26 => some t26)) else Option.bind (if ((decide (a25.2.code = a38.code)) && (decide (a25.2.index = a38.index))) = true then if ((decide (a32.2.code = a38.code)) && (decide (a32.2.index = a38.index))) = true then if w64 ((a25.1.length : Int) + (a32.1.length : Int)) = 0 then Option.bind (C6) fun a59 => some a59 else some false else some false else some false) fun t5 => some t5
end Ab
end
section
namespace Ab
open Go
section
open Go.Proofs
variable {P : Program} {σ0 : b7} {sz : Nat} {Q : Post} {env : Env} {σv : b7} {ops : Array Oper} {rest : List Oper}
end
end Ab
end
section
namespace Go.Proofs
open Go.Shelf
open Tryz
def Tryz.lays283_ren : Go.Shelf.Ren := ⟨fun | 283 => 122 | n => n, fun | 3 => 3 | 9 => 9 | 4 => 4 | n => n, fun | n => n⟩
theorem Tryz.lays283 : Go.Proofs.Lays.n283 prog Tryz.lays283_ren := {
 mixed := by kernel_rfl
 f283 := func122.trans (congrArg some (by kernel_rfl))
 t3 := underlying3
 a3 := isAgg3
 z3 := sizeOf3
 v3 := zeroValue3
 t4 := underlying4
 a4 := isAgg4
 z4 := sizeOf4
 v4 := zeroValue4
 t9 := underlying9
 a9 := isAgg9
 z9 := sizeOf9
 v9 := zeroValue9 }
open Go.Lib in
theorem Tryz.internal_strconv_small (i : Nat) (h : i < 100) (w : World) :
  Calls prog 122 #[.int .i64 i] w fun e w' => e = .returned (.string ⟨(Lib.decDigits i).toArray⟩) ∧ w' = w := Any.internal_strconv_small Tryz.lays283 i h w
def Tryz.lays189_ren : Go.Shelf.Ren := ⟨fun | 189 => 112 | 125 => 81 | 257 => 130 | 128 => 102 | 129 => 103 | 294 => 137 | 295 => 138 | 296 => 139 | 297 => 140 | 298 => 141 | 299 => 142 | 216 => 120 | 300 => 143 | 301 => 144 | 328 => 155 | 329 => 115 | 330 => 116 | 331 => 156 | 332 => 157 | 215 => 104 | 343 => 161 | n => n, fun | 28 => 22 | 3 => 3 | 46 => 126 | 0 => 0 | 51 => 72 | 53 => 169 | 4 => 4 | 183 => 176 | 182 => 175 | 131 => 180 | 5 => 5 | 9 => 9 | 218 => 191 | 222 => 195 | 228 => 207 | 229 => 208 | n => n, fun | n => n⟩
theorem Tryz.lays189 : Go.Proofs.Lays.n189 prog Tryz.lays189_ren := {
 mixed := by kernel_rfl
 f125 := func81.trans (congrArg some (by kernel_rfl))
 f128 := func102.trans (congrArg some (by kernel_rfl))
 f129 := func103.trans (congrArg some (by kernel_rfl))
 f189 := func112.trans (congrArg some (by kernel_rfl))
 f215 := func104.trans (congrArg some (by kernel_rfl))
 f216 := func120.trans (congrArg some (by kernel_rfl))
 f257 := func130.trans (congrArg some (by kernel_rfl))
 f294 := func137.trans (congrArg some (by kernel_rfl))
 f295 := func138.trans (congrArg some (by kernel_rfl))
 f296 := func139.trans (congrArg some (by kernel_rfl))
 f297 := func140.trans (congrArg some (by kernel_rfl))
 f298 := func141.trans (congrArg some (by kernel_rfl))
 f299 := func142.trans (congrArg some (by kernel_rfl))
 f300 := func143.trans (congrArg some (by kernel_rfl))
 f301 := func144.trans (congrArg some (by kernel_rfl))
 f328 := func155.trans (congrArg some (by kernel_rfl))
 f329 := func115.trans (congrArg some (by kernel_rfl))
 f330 := func116.trans (congrArg some (by kernel_rfl))
 f331 := func156.trans (congrArg some (by kernel_rfl))
 f332 := func157.trans (congrArg some (by kernel_rfl))
 f343 := func161.trans (congrArg some (by kernel_rfl))
 t0 := underlying0
 a0 := isAgg0
 z0 := sizeOf0
 v0 := zeroValue0
 t3 := underlying3
 a3 := isAgg3
 z3 := sizeOf3
 v3 := zeroValue3
 t4 := underlying4
 a4 := isAgg4
 z4 := sizeOf4
 v4 := zeroValue4
 t5 := underlying5
 a5 := isAgg5
 z5 := sizeOf5
 v5 := zeroValue5
 t9 := underlying9
 a9 := isAgg9
 z9 := sizeOf9
 v9 := zeroValue9
 t28 := underlying22
 a28 := isAgg22
 z28 := sizeOf22
 v28 := zeroValue22
 t46 := underlying126
 a46 := isAgg126
 z46 := sizeOf126
 v46 := zeroValue126
 t51 := underlying72
 a51 := isAgg72
 z51 := sizeOf72
 v51 := zeroValue72
 t53 := underlying169
 a53 := isAgg169
 z53 := sizeOf169
 v53 := zeroValue169
 t131 := underlying180
 a131 := isAgg180
 z131 := sizeOf180
 v131 := zeroValue180
 t182 := underlying175
 a182 := isAgg175
 z182 := sizeOf175
 v182 := zeroValue175
 t183 := underlying176
 a183 := isAgg176
 z183 := sizeOf176
 v183 := zeroValue176
 t218 := underlying191
 a218 := isAgg191
 z218 := sizeOf191
 v218 := zeroValue191
 t222 := underlying195
 a222 := isAgg195
 z222 := sizeOf195
 v222 := zeroValue195
 t228 := underlying207
 a228 := isAgg207
 z228 := sizeOf207
 v228 := zeroValue207
 t229 := underlying208
 a229 := isAgg208
 z229 := sizeOf208
 v229 := zeroValue208 }
open Go.Sort Go.RowKit in
theorem Tryz.slices_Sort_int (blk off cap : Nat) (zs : List Int) (w : World) (hH : Holds (Value.int .i64) w blk off zs.toArray) (hblk : blk < w.heap.size) (hsz : zs.length < 4611686018427387904) :
  Calls prog 112 #[.slice (some ⟨blk, off, none⟩) zs.length cap] w fun e w' =>
   e = .returned (.tuple #[]) ∧ ∃ n os, w' = grow (putRow (Value.int .i64) (Sort.ahead w n) blk off (zs.mergeSort fun x y => decide (x ≤ y)).toArray) os := Any.slices_Sort_int Tryz.lays189 blk off cap zs w hH hblk hsz
def Tryz.lays112_ren : Go.Shelf.Ren := ⟨fun | 112 => 86 | n => n, fun | 28 => 22 | 3 => 3 | 4 => 4 | 0 => 0 | n => n, fun | n => n⟩
theorem Tryz.lays112 : Go.Proofs.Lays.n112 prog Tryz.lays112_ren := {
 mixed := by kernel_rfl
 f112 := func86.trans (congrArg some (by kernel_rfl))
 t0 := underlying0
 a0 := isAgg0
 z0 := sizeOf0
 v0 := zeroValue0
 t3 := underlying3
 a3 := isAgg3
 z3 := sizeOf3
 v3 := zeroValue3
 t4 := underlying4
 a4 := isAgg4
 z4 := sizeOf4
 v4 := zeroValue4
 t28 := underlying22
 a28 := isAgg22
 z28 := sizeOf22
 v28 := zeroValue22 }
open Go.RowKit Go.Lib Go.Sort in
theorem Tryz.slices_Reverse_int (blk off cap : Nat) (zs : List Int) (w : World) (hH : Holds (Value.int .i64) w blk off zs.toArray) (hsz : zs.length ≤ 9223372036854775807) :
  Calls prog 86 #[.slice (some ⟨blk, off, none⟩) zs.length cap] w fun e w' => e = .returned (.tuple #[]) ∧ ∃ n, w' = putRow (Value.int .i64) (Sort.ahead w n) blk off zs.reverse.toArray := Any.slices_Reverse_int Tryz.lays112 blk off cap zs w hH hsz
open Go.RowKit Go.Lib Go.Sort in
theorem Tryz.slices_Reverse_int_empty (a : Option Addr) (cap : Nat) (w : World) :
  Calls prog 86 #[.slice a 0 cap] w fun e w' => e = .returned (.tuple #[]) ∧ w' = w := Any.slices_Reverse_int_empty Tryz.lays112 a cap w
def Tryz.laysNm220_ren : Go.Shelf.Ren := ⟨fun | 20 => 113 | n => n, fun | 22 => 22 | 3 => 3 | 4 => 4 | 0 => 0 | n => n, fun | n => n⟩
theorem Tryz.laysNm220 : Go.Proofs.Lays2.n20 prog Tryz.laysNm220_ren := {
 mixed := by kernel_rfl
 f20 := func113.trans (congrArg some (by kernel_rfl))
 t0 := underlying0
 a0 := isAgg0
 z0 := sizeOf0
 v0 := zeroValue0
 t3 := underlying3
 a3 := isAgg3
 z3 := sizeOf3
 v3 := zeroValue3
 t4 := underlying4
 a4 := isAgg4
 z4 := sizeOf4
 v4 := zeroValue4
 t22 := underlying22
 a22 := isAgg22
 z22 := sizeOf22
 v22 := zeroValue22
 i3 := by kernel_rfl }
open Go.RowKit Go.Lib Go.Sort in
theorem Tryz.slices_Compact_int (blk off cap : Nat) (zs : List Int) (w : World) (hH : Holds (Value.int .i64) w blk off zs.toArray) (hsz : zs.length ≤ 9223372036854775807) (hcap : zs.length ≤ cap) :
  Calls prog 113 #[.slice (some ⟨blk, off, none⟩) zs.length cap] w fun e w' => e = .returned (.slice (some ⟨blk, off, none⟩) (Lib.compact zs).length cap) ∧ ∃ q, w' = putRow (Value.int .i64) (Sort.ahead w q) blk off (Lib.compact zs ++ List.replicate (zs.length - (Lib.compact zs).length) 0).toArray := Any.slices_Compact_int Tryz.laysNm220 blk off cap zs w hH hsz hcap
open Go.RowKit Go.Lib Go.Sort in
theorem Tryz.slices_Compact_int_empty (a : Option Addr) (cap : Nat) (w : World) :
  Calls prog 113 #[.slice a 0 cap] w fun e w' => e = .returned (.slice a 0 cap) ∧ w' = w := Any.slices_Compact_int_empty Tryz.laysNm220 a cap w
open Go.RowKit Go.Sort in
theorem Tryz.slices_Sort_int_none (p : Option Addr) (cap : Nat) (w : World) :
  Calls prog 112 #[.slice p 0 cap] w fun e w' => e = .returned (.tuple #[]) ∧ w' = w := Any.slices_Sort_int_none Tryz.lays189 p cap w
def Tryz.laysSlF6_f127_ren : Go.Shelf.Ren := ⟨fun | 6 => 127 | 15 => 81 | 14 => 136 | 28 => 102 | 29 => 103 | 20 => 147 | 21 => 148 | 22 => 149 | 23 => 150 | 24 => 151 | 25 => 152 | 26 => 153 | 27 => 154 | 46 => 158 | 47 => 115 | 48 => 116 | 49 => 159 | 50 => 160 | 57 => 162 | n => n, fun | 22 => 26 | 24 => 22 | 25 => 96 | 3 => 3 | 39 => 126 | 0 => 0 | 53 => 72 | 55 => 169 | 4 => 4 | 46 => 176 | 45 => 175 | 50 => 180 | 5 => 5 | 9 => 9 | 66 => 191 | 70 => 195 | 76 => 207 | 77 => 208 | n => n, fun | n => n⟩
theorem Tryz.laysSlF6_f127 : Go.Proofs.SlLaysF.n6 prog Tryz.laysSlF6_f127_ren := {
 mixed := by kernel_rfl
 f6 := ⟨Tryz.f127.name, by decide, func127.trans (congrArg some (by kernel_rfl))⟩
 f14 := ⟨Tryz.f136.name, by decide, func136.trans (congrArg some (by kernel_rfl))⟩
 f15 := func81.trans (congrArg some (by kernel_rfl))
 f20 := ⟨Tryz.f147.name, by decide, func147.trans (congrArg some (by kernel_rfl))⟩
 f21 := ⟨Tryz.f148.name, by decide, func148.trans (congrArg some (by kernel_rfl))⟩
 f22 := ⟨Tryz.f149.name, by decide, func149.trans (congrArg some (by kernel_rfl))⟩
 f23 := ⟨Tryz.f150.name, by decide, func150.trans (congrArg some (by kernel_rfl))⟩
 f24 := ⟨Tryz.f151.name, by decide, func151.trans (congrArg some (by kernel_rfl))⟩
 f25 := ⟨Tryz.f152.name, by decide, func152.trans (congrArg some (by kernel_rfl))⟩
 f26 := ⟨Tryz.f153.name, by decide, func153.trans (congrArg some (by kernel_rfl))⟩
 f27 := ⟨Tryz.f154.name, by decide, func154.trans (congrArg some (by kernel_rfl))⟩
 f28 := func102.trans (congrArg some (by kernel_rfl))
 f29 := func103.trans (congrArg some (by kernel_rfl))
 f46 := ⟨Tryz.f158.name, by decide, func158.trans (congrArg some (by kernel_rfl))⟩
 f47 := func115.trans (congrArg some (by kernel_rfl))
 f48 := func116.trans (congrArg some (by kernel_rfl))
 f49 := ⟨Tryz.f159.name, by decide, func159.trans (congrArg some (by kernel_rfl))⟩
 f50 := ⟨Tryz.f160.name, by decide, func160.trans (congrArg some (by kernel_rfl))⟩
 f57 := ⟨Tryz.f162.name, by decide, func162.trans (congrArg some (by kernel_rfl))⟩
 t0 := underlying0
 a0 := isAgg0
 z0 := sizeOf0
 v0 := zeroValue0
 t3 := underlying3
 a3 := isAgg3
 z3 := sizeOf3
 v3 := zeroValue3
 t4 := underlying4
 a4 := isAgg4
 z4 := sizeOf4
 v4 := zeroValue4
 t5 := underlying5
 a5 := isAgg5
 z5 := sizeOf5
 v5 := zeroValue5
 t9 := underlying9
 a9 := isAgg9
 z9 := sizeOf9
 v9 := zeroValue9
 t22 := underlying26
 a22 := isAgg26
 z22 := sizeOf26
 v22 := zeroValue26
 a24 := isAgg22
 z24 := sizeOf22
 t25 := underlying96
 a25 := isAgg96
 z25 := sizeOf96
 v25 := zeroValue96
 t39 := underlying126
 a39 := isAgg126
 z39 := sizeOf126
 v39 := zeroValue126
 t45 := underlying175
 a45 := isAgg175
 z45 := sizeOf175
 v45 := zeroValue175
 t46 := underlying176
 a46 := isAgg176
 z46 := sizeOf176
 v46 := zeroValue176
 t50 := underlying180
 a50 := isAgg180
 z50 := sizeOf180
 v50 := zeroValue180
 t53 := underlying72
 a53 := isAgg72
 z53 := sizeOf72
 v53 := zeroValue72
 t55 := underlying169
 a55 := isAgg169
 z55 := sizeOf169
 v55 := zeroValue169
 t66 := underlying191
 a66 := isAgg191
 z66 := sizeOf191
 v66 := zeroValue191
 t70 := underlying195
 a70 := isAgg195
 z70 := sizeOf195
 v70 := zeroValue195
 t76 := underlying207
 a76 := isAgg207
 z76 := sizeOf207
 v76 := zeroValue207
 t77 := underlying208
 a77 := isAgg208
 z77 := sizeOf208
 v77 := zeroValue208 }
open Go.RowKit Go.Lib Go.Sort in
theorem Tryz.slices_SortFunc_f127 {α : Type} [Inhabited α] (enc : α → Value) (h1 : OneCell enc) (cf : α → α → Int) (hO : SWO (ltOf cf)) (g : Nat) (cb : Array Value) (blk off cap : Nat) (d : Array α) (w : World) (eg : ∀ args w, (callFunc g args).run prog w = .ok (.enter g args) w) (hcmp : CmpLays1 prog g cb enc cf blk off d.size w) (hH : Holds enc w blk off d) (hblk : blk < w.heap.size) (hsz : d.size < 4611686018427387904) :
  Calls prog 127 #[.slice (some ⟨blk, off, none⟩) d.size cap, .func (.func g) #[] cb] w fun e w' =>
   e = .returned (.tuple #[]) ∧ ∃ d' n os, PermIn 0 d.size d d' ∧ SortedIn (ltOf cf) 0 d.size d' ∧ w' = sortWorld enc w blk off n d' os := Any.slices_SortFunc Tryz.laysSlF6_f127 enc h1 cf hO g cb blk off cap d w eg hcmp hH hblk hsz
def Tryz.laysSlF06_f127_ren : Go.Shelf.Ren := ⟨fun | 6 => 127 | 15 => 81 | 14 => 136 | 28 => 102 | 29 => 103 | 20 => 147 | 21 => 148 | 22 => 149 | 23 => 150 | 24 => 151 | 25 => 152 | 26 => 153 | 27 => 154 | 46 => 158 | 47 => 115 | 48 => 116 | 49 => 159 | 50 => 160 | 57 => 162 | n => n, fun | 22 => 26 | 24 => 22 | 25 => 96 | 3 => 3 | 39 => 126 | 0 => 0 | 53 => 72 | 55 => 169 | 4 => 4 | 46 => 176 | 45 => 175 | 50 => 180 | 5 => 5 | 9 => 9 | 66 => 191 | 70 => 195 | 76 => 207 | 77 => 208 | n => n, fun | n => n⟩
theorem Tryz.laysSlF06_f127 : Go.Proofs.SlLaysF0.n6 prog Tryz.laysSlF06_f127_ren := {
 mixed := by kernel_rfl
 f6 := ⟨Tryz.f127.name, by decide, func127.trans (congrArg some (by kernel_rfl))⟩
 f14 := ⟨Tryz.f136.name, by decide, func136.trans (congrArg some (by kernel_rfl))⟩
 f15 := func81.trans (congrArg some (by kernel_rfl))
 f20 := ⟨Tryz.f147.name, by decide, func147.trans (congrArg some (by kernel_rfl))⟩
 f21 := ⟨Tryz.f148.name, by decide, func148.trans (congrArg some (by kernel_rfl))⟩
 f22 := ⟨Tryz.f149.name, by decide, func149.trans (congrArg some (by kernel_rfl))⟩
 f23 := ⟨Tryz.f150.name, by decide, func150.trans (congrArg some (by kernel_rfl))⟩
 f24 := ⟨Tryz.f151.name, by decide, func151.trans (congrArg some (by kernel_rfl))⟩
 f25 := ⟨Tryz.f152.name, by decide, func152.trans (congrArg some (by kernel_rfl))⟩
 f26 := ⟨Tryz.f153.name, by decide, func153.trans (congrArg some (by kernel_rfl))⟩
 f27 := ⟨Tryz.f154.name, by decide, func154.trans (congrArg some (by kernel_rfl))⟩
 f28 := func102.trans (congrArg some (by kernel_rfl))
 f29 := func103.trans (congrArg some (by kernel_rfl))
 f46 := ⟨Tryz.f158.name, by decide, func158.trans (congrArg some (by kernel_rfl))⟩
 f47 := func115.trans (congrArg some (by kernel_rfl))
 f48 := func116.trans (congrArg some (by kernel_rfl))
 f49 := ⟨Tryz.f159.name, by decide, func159.trans (congrArg some (by kernel_rfl))⟩
 f50 := ⟨Tryz.f160.name, by decide, func160.trans (congrArg some (by kernel_rfl))⟩
 f57 := ⟨Tryz.f162.name, by decide, func162.trans (congrArg some (by kernel_rfl))⟩
 t0 := underlying0
 a0 := isAgg0
 z0 := sizeOf0
 v0 := zeroValue0
 t3 := underlying3
 a3 := isAgg3
 z3 := sizeOf3
 v3 := zeroValue3
 t4 := underlying4
 a4 := isAgg4
 z4 := sizeOf4
 v4 := zeroValue4
 t5 := underlying5
 a5 := isAgg5
 z5 := sizeOf5
 v5 := zeroValue5
 t9 := underlying9
 a9 := isAgg9
 z9 := sizeOf9
 v9 := zeroValue9
 t22 := underlying26
 a22 := isAgg26
 z22 := sizeOf26
 v22 := zeroValue26
 t25 := underlying96
 a25 := isAgg96
 z25 := sizeOf96
 v25 := zeroValue96
 t39 := underlying126
 a39 := isAgg126
 z39 := sizeOf126
 v39 := zeroValue126
 t45 := underlying175
 a45 := isAgg175
 z45 := sizeOf175
 v45 := zeroValue175
 t46 := underlying176
 a46 := isAgg176
 z46 := sizeOf176
 v46 := zeroValue176
 t50 := underlying180
 a50 := isAgg180
 z50 := sizeOf180
 v50 := zeroValue180
 t53 := underlying72
 a53 := isAgg72
 z53 := sizeOf72
 v53 := zeroValue72
 t55 := underlying169
 a55 := isAgg169
 z55 := sizeOf169
 v55 := zeroValue169
 t66 := underlying191
 a66 := isAgg191
 z66 := sizeOf191
 v66 := zeroValue191
 t70 := underlying195
 a70 := isAgg195
 z70 := sizeOf195
 v70 := zeroValue195
 t76 := underlying207
 a76 := isAgg207
 z76 := sizeOf207
 v76 := zeroValue207
 t77 := underlying208
 a77 := isAgg208
 z77 := sizeOf208
 v77 := zeroValue208 }
open Go.RowKit Go.Lib Go.Sort in
theorem Tryz.slices_SortFunc_none_f127 {α : Type} [Inhabited α] (p : Option Addr) (cap : Nat) (fv : Value) (w : World) :
  Calls prog 127 #[.slice p 0 cap, fv] w fun e w' => e = .returned (.tuple #[]) ∧ w' = w := AnyF.slices_SortFunc_none Tryz.laysSlF06_f127 p cap fv w
end Go.Proofs
end
section
namespace Ab
open Go Go.Proofs
open Tryz
theorem sort_facts : K3 prog 112 := ⟨_, func112, rfl, rfl⟩
theorem compact_facts : K3 prog 113 := ⟨_, func113, rfl, rfl⟩
theorem sortL_ok : SortOk prog 112 := fun hσ hl => sort_fn sort_facts (fun blk off cap zs w hH hb hs => Tryz.slices_Sort_int blk off cap zs w hH hb hs) (fun p cap w => Tryz.slices_Sort_int_none p cap w) hσ hl
theorem compactL_ok : CompactOk prog 113 := fun hσ => compact_fn compact_facts (fun blk off cap zs w hH hs hc => Tryz.slices_Compact_int blk off cap zs w hH hs hc) (fun a cap w => Tryz.slices_Compact_int_empty a cap w) hσ
end Ab
end
section
namespace Ab
open Go Go.Proofs
open Tryz
theorem sortF_facts : K3 prog 127 := ⟨_, func127, rfl, rfl⟩
theorem sortF_LLi64_ok : SortFOk prog 127 := fun hgn hO hT hg _ _ _ hσ hl => sortF_fn sortF_facts hgn hO hT hg (fun β _ enc h1 cf hO g cb blk off cap d w eg hcmp hH hblk hsz => Tryz.slices_SortFunc_f127 enc h1 cf hO g cb blk off cap d w eg hcmp hH hblk hsz) (fun p cap fv w => Tryz.slices_SortFunc_none_f127 (α := Unit) p cap fv w) hσ hl
end Ab
end
section
namespace Ab
open Go Go.Proofs
open Tryz
theorem reverse_facts : K3 prog 86 := ⟨_, func86, rfl, rfl⟩
theorem revL_ok : RevOk prog 86 := fun hσ => rev_fn reverse_facts (fun blk off cap zs w hH hs => Tryz.slices_Reverse_int blk off cap zs w hH hs) (fun p cap w => Tryz.slices_Reverse_int_empty p cap w) hσ
end Ab
end
section
namespace Ab
open Go Go.Proofs
end Ab
end
