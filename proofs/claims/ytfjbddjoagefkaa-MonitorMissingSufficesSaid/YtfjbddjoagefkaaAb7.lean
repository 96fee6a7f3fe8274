/-
  ONE RULE AN OPERATION: addresses, loads, stores, new blocks.
-/
import Derived.Test.YtfjbddjoagefkaaAb6
namespace Ab
open Go

section
variable {P : Program} {σ0 : Store} {sz : Nat} {Q : Post} {env : Env} {σv : Store} {ops : Array Oper} {rest : List Oper} {dst : Option Nat} {ty : TypeId} {pos : String} {after : Array Edge}

theorem ipt_inv {w : World} {φ : Phi} {σ : Store} {A : Nat → Prop} {cs : List I} {u : Value} (h : RelT w φ σ A (.c (.imm (.ipt cs))) u) :
    ∃ (a : Addr) (us : Nat → Value), u = .pointer (some a) ∧ (∀ (o : Nat) (x : I), cs[o]? = some x → A a.block ∧ w.cell? (a.add o) = some (us o) ∧ RelI w A x (us o)) := by
  cases h with | c h => cases h with | imm h => cases h with | ipt us hc hr => exact ⟨_, us, rfl, fun o x hx => ⟨(hc o x hx).1, (hc o x hx).2, hr o x hx⟩⟩

theorem ptr_inv {w : World} {φ : Phi} {σ : Store} {A : Nat → Prop} {id : Id} {j o k : Nat} {es : List (List C)} {u : Value} (h : RelT w φ σ A (.c (.ptr id j o)) u) (hσ : σ[id]? = some (some (.cells k es))) :
    id.1 < σ.length ∧ ∃ b base, φ id = some (b, base) ∧ u = .pointer (some ⟨b, base + (j * k + o), none⟩) := by
  cases h with | c h => cases h with | ptr hid _ h => exact ⟨hid, h k es hσ⟩

/-- The i-th element of what never changes. -/
theorem AOps.indexAddr {x y : Operand} {t e : TypeId} {k bytes : Nat} {z : Value} {kk : IntKind} {i : Int} {es : List (List I)} {el : List I} [ht : TyD P t (.slice e)] [hs : TyS P e k bytes z]
    (hx : ev env x = some (.c (.imm (.sl k es)))) (hy : ev env y = some (.c (.imm (.val (.int kk i))))) (hi : 0 ≤ i) (he : es[i.toNat]? = some el) (hd : dstOk sz dst = true)
    (h : AOps P σ0 sz ops Q rest (St.mk (putE env dst (.c (.imm (.ipt el)))) σv)) : AOps P σ0 sz ops Q (⟨dst, .indexAddr t x y, ty, pos, after, none⟩ :: rest) (St.mk env σv) :=
  .value rfl hd _ (fun Γ φ a w hR => by
    have hr := ev_rel hR hx
    have hlt : i.toNat < es.length := (List.getElem?_eq_some_iff.1 he).1
    generalize hu : a.eval x = u at hr
    cases hr with | c hr => cases hr with | imm hr => cases hr with
      | slNil => simp at hlt
      | @sl _ _ ad cap us hcap hmax hk hc hr =>
        have hb : 0 ≤ i ∧ i < es.length := by omega
        refine ⟨.pointer (some (ad.add (i.toNat * k))), by simp [execOp, hu, ev_val hR hy, Instr.indexAt, asIntOf, run_underlying ht.h, run_sizeOf, hb], .c (.imm (.ipt (fun o => us i.toNat o) (fun o x ho => ?_) (fun o x ho => hr _ el o x he ho)))⟩
        have := hc _ el o x he ho
        rw [add_block, add_add]
        exact this) h

theorem AOps.indexAddrOwn {x y : Operand} {t e : TypeId} {k bytes : Nat} {z : Value} {kk : IntKind} {i : Int} {id : Id} {j n : Nat} {es : List (List C)} [ht : TyD P t (.slice e)] [hs : TyS P e k bytes z]
    (hx : ev env x = some (.c (.own id j n))) (hσ : σv[id]? = some (some (.cells k es))) (hy : ev env y = some (.c (.imm (.val (.int kk i))))) (hi : 0 ≤ i ∧ i < n) (hd : dstOk sz dst = true)
    (h : AOps P σ0 sz ops Q rest (St.mk (putE env dst (.c (.ptr id (j + i.toNat) 0))) σv)) : AOps P σ0 sz ops Q (⟨dst, .indexAddr t x y, ty, pos, after, none⟩ :: rest) (St.mk env σv) :=
  .value rfl hd _ (fun Γ φ a w hR => by
    have hr := ev_rel hR hx
    have hid : id.1 < σv.length := Store.lt_of hσ
    rcases own_inv hr hσ with ⟨_, _, _, h0⟩ | ⟨b, base, cap, arr, ety, ad, hp, hv, had, hcap, _, _, _, _⟩
    · omega
    · have := had (by omega)
      subst this
      refine ⟨.pointer (some ⟨b, base + j * k + i.toNat * k, none⟩), by simp [execOp, hv, ev_val hR hy, Instr.indexAt, asIntOf, run_underlying ht.h, run_sizeOf, hi, add_none], .c (.ptr hid rfl fun k' es' he => ?_)⟩
      rw [hσ] at he; cases he
      refine ⟨b, base, hp, ?_⟩
      rw [Nat.add_mul, Nat.add_assoc, Nat.add_zero]) h

/-- An element of an array that lies in an owned block, or among what never changes. -/
theorem AOps.indexAddrArr {x y : Operand} {t e : TypeId} {len k kb bytes : Nat} {z : Value} {kk : IntKind} {i : Int} {id : Id} {j o : Nat} {es : List (List C)} [ht : TyD P t (.array len e)] [hs : TyS P e k bytes z]
    (hx : ev env x = some (.c (.ptr id j o))) (hσ : σv[id]? = some (some (.cells kb es))) (hy : ev env y = some (.c (.imm (.val (.int kk i))))) (hi : 0 ≤ i ∧ i < len) (hd : dstOk sz dst = true)
    (h : AOps P σ0 sz ops Q rest (St.mk (putE env dst (.c (.ptr id j (o + i.toNat * k)))) σv)) : AOps P σ0 sz ops Q (⟨dst, .indexAddr t x y, ty, pos, after, none⟩ :: rest) (St.mk env σv) :=
  .value rfl hd _ (fun Γ φ a w hR => by
    obtain ⟨hid, b, base, hp, hv⟩ := ptr_inv (ev_rel hR hx) hσ
    refine ⟨.pointer (some ⟨b, base + (j * kb + o) + i.toNat * k, none⟩), by simp [execOp, hv, ev_val hR hy, Instr.indexAt, Instr.sureAddr, asIntOf, run_underlying ht.h, run_sizeOf, hi, add_none], .c (.ptr hid rfl fun k' es' he => ?_)⟩
    rw [hσ] at he; cases he
    exact ⟨b, base, hp, by rw [Nat.add_assoc, Nat.add_assoc]⟩) h

theorem AOps.indexAddrArrI {x y : Operand} {t e : TypeId} {len k bytes : Nat} {z : Value} {kk : IntKind} {i : Int} {cs : List I} [ht : TyD P t (.array len e)] [hs : TyS P e k bytes z]
    (hx : ev env x = some (.c (.imm (.ipt cs)))) (hy : ev env y = some (.c (.imm (.val (.int kk i))))) (hi : 0 ≤ i ∧ i < len) (hd : dstOk sz dst = true)
    (h : AOps P σ0 sz ops Q rest (St.mk (putE env dst (.c (.imm (.ipt (cs.drop (i.toNat * k)))))) σv)) : AOps P σ0 sz ops Q (⟨dst, .indexAddr t x y, ty, pos, after, none⟩ :: rest) (St.mk env σv) :=
  .value rfl hd _ (fun Γ φ a w hR => by
    obtain ⟨ad, us, hv, hc⟩ := ipt_inv (ev_rel hR hx)
    refine ⟨.pointer (some (ad.add (i.toNat * k))), by simp [execOp, hv, ev_val hR hy, Instr.indexAt, Instr.sureAddr, asIntOf, run_underlying ht.h, run_sizeOf, hi], .c (.imm (.ipt (fun o => us (i.toNat * k + o)) (fun o x ho => ?_) (fun o x ho => ?_)))⟩
    · rw [List.getElem?_drop] at ho
      have := hc _ x ho
      rw [add_block, add_add]
      exact ⟨this.1, this.2.1⟩
    · rw [List.getElem?_drop] at ho
      exact (hc _ x ho).2.2) h

/-! ### Fields -/
theorem AOps.fieldAddr {x : Operand} {t : TypeId} {fs : Array Field} {f : Nat} {fd : Field} {id : Id} {j o k size bytes : Nat} {z : Value} {es : List (List C)} [ht : TyD P t (.struct fs)] (hf : fs[f]? = some fd) [hs : TyS P fd.type size bytes z] (hz : (size == 0) = false)
    (hx : ev env x = some (.c (.ptr id j o))) (hσ : σv[id]? = some (some (.cells k es))) (hd : dstOk sz dst = true)
    (h : AOps P σ0 sz ops Q rest (St.mk (putE env dst (.c (.ptr id j (o + fd.offset)))) σv)) : AOps P σ0 sz ops Q (⟨dst, .fieldAddr t x f, ty, pos, after, none⟩ :: rest) (St.mk env σv) :=
  .value rfl hd _ (fun Γ φ a w hR => by
    obtain ⟨hid, b, base, hp, hv⟩ := ptr_inv (ev_rel hR hx) hσ
    have hz' : size ≠ 0 := by simpa using hz
    refine ⟨.pointer (some ⟨b, base + (j * k + o) + fd.offset, none⟩), by simp [execOp, hv, Instr.fieldAt, Instr.sureAddr, run_underlying ht.h, hf, fieldPlace, run_sizeOf, hz', add_none], .c (.ptr hid rfl fun k' es' he => ?_)⟩
    rw [hσ] at he; cases he
    exact ⟨b, base, hp, by rw [Nat.add_assoc, Nat.add_assoc]⟩) h

theorem AOps.fieldAddrI {x : Operand} {t : TypeId} {fs : Array Field} {f : Nat} {fd : Field} {size bytes : Nat} {z : Value} {cs : List I} [ht : TyD P t (.struct fs)] (hf : fs[f]? = some fd) [hs : TyS P fd.type size bytes z] (hz : (size == 0) = false)
    (hx : ev env x = some (.c (.imm (.ipt cs)))) (hd : dstOk sz dst = true)
    (h : AOps P σ0 sz ops Q rest (St.mk (putE env dst (.c (.imm (.ipt (cs.drop fd.offset))))) σv)) : AOps P σ0 sz ops Q (⟨dst, .fieldAddr t x f, ty, pos, after, none⟩ :: rest) (St.mk env σv) :=
  .value rfl hd _ (fun Γ φ a w hR => by
    obtain ⟨ad, us, hv, hc⟩ := ipt_inv (ev_rel hR hx)
    have hz' : size ≠ 0 := by simpa using hz
    refine ⟨.pointer (some (ad.add fd.offset)), by simp [execOp, hv, Instr.fieldAt, Instr.sureAddr, run_underlying ht.h, hf, fieldPlace, run_sizeOf, hz'], .c (.imm (.ipt (fun o => us (fd.offset + o)) (fun o x ho => ?_) (fun o x ho => ?_)))⟩
    · rw [List.getElem?_drop] at ho
      have := hc _ x ho
      rw [add_block, add_add]
      exact ⟨this.1, this.2.1⟩
    · rw [List.getElem?_drop] at ho
      exact (hc _ x ho).2.2) h

/-- A field of a struct that stands in a slot. -/
theorem AOps.field {x : Operand} {t : TypeId} {fs : Array Field} {f : Nat} {fd : Field} {d : TypeDesc} {cs : List C} {c : C} [ht : TyD P t (.struct fs)] (hf : fs[f]? = some fd) [hfd : TyD P fd.type d] (ha : isAggD d = false)
    (hx : ev env x = some (.agg cs)) (hc : cs[fd.offset]? = some c) (hd : dstOk sz dst = true)
    (h : AOps P σ0 sz ops Q rest (St.mk (putE env dst (.c c)) σv)) : AOps P σ0 sz ops Q (⟨dst, .field t x f, ty, pos, after, none⟩ :: rest) (St.mk env σv) :=
  .value rfl hd _ (fun Γ φ a w hR => by
    obtain ⟨vs, h1, h2, h3⟩ := RelT.agg_inv (ev_rel hR hx)
    obtain ⟨u, hu, hr⟩ := h3 _ c hc
    exact ⟨u, by simp [execOp, h1, Instr.field, run_underlying ht.h, hf, asAgg, part, run_isAgg hfd.h, ha, hu], .c hr⟩) h

theorem AOps.fieldAgg {x : Operand} {t : TypeId} {fs : Array Field} {f : Nat} {fd : Field} {d : TypeDesc} {size bytes : Nat} {z : Value} {cs : List C} [ht : TyD P t (.struct fs)] (hf : fs[f]? = some fd) [hfd : TyD P fd.type d] [hs : TyS P fd.type size bytes z] (ha : isAggD d = true)
    (hx : ev env x = some (.agg cs)) (hd : dstOk sz dst = true)
    (h : AOps P σ0 sz ops Q rest (St.mk (putE env dst (.agg ((cs.drop fd.offset).take size))) σv)) : AOps P σ0 sz ops Q (⟨dst, .field t x f, ty, pos, after, none⟩ :: rest) (St.mk env σv) :=
  .value rfl hd _ (fun Γ φ a w hR => by
    obtain ⟨vs, h1, h2, h3⟩ := RelT.agg_inv (ev_rel hR hx)
    refine ⟨.agg ((vs.drop fd.offset).take size).toArray, ?_, RelT.agg' (by simp [h2]) fun i c v hc hv => ?_⟩
    · simp [execOp, h1, Instr.field, run_underlying ht.h, hf, asAgg, part, run_isAgg hfd.h, ha, run_sizeOf]
    · rw [List.getElem?_take] at hc hv
      split at hc
      · rename_i hi
        rw [if_pos hi, List.getElem?_drop] at hv
        rw [List.getElem?_drop] at hc
        obtain ⟨u, hu, hr⟩ := h3 _ c hc
        rw [hv] at hu; cases hu
        exact hr
      · cases hc) h

/-! ### Loads -/
theorem AOps.loadI {x : Operand} {t : TypeId} {d : TypeDesc} {cs : List I} {c : I} [ht : TyD P t d] (ha : isAggD d = false) (hx : ev env x = some (.c (.imm (.ipt cs)))) (hc : cs[0]? = some c) (hd : dstOk sz dst = true)
    (h : AOps P σ0 sz ops Q rest (St.mk (putE env dst (.c (.imm c))) σv)) : AOps P σ0 sz ops Q (⟨dst, .load t x, ty, pos, after, none⟩ :: rest) (St.mk env σv) :=
  .value rfl hd _ (fun Γ φ a w hR => by
    obtain ⟨ad, us, hv, hcs⟩ := ipt_inv (ev_rel hR hx)
    have := hcs 0 c hc
    rw [Addr.add_zero'] at this
    exact ⟨us 0, by simp [execOp, hv, Instr.loadAt, Instr.sureAddr, run_loadVar_one ha this.2.1], .c (.imm this.2.2)⟩) h

theorem AOps.loadIAgg {x : Operand} {t : TypeId} {d : TypeDesc} {size bytes : Nat} {z : Value} {cs : List I} [ht : TyD P t d] [hs : TyS P t size bytes z] (ha : isAggD d = true) (hx : ev env x = some (.c (.imm (.ipt cs)))) (hl : size ≤ cs.length) (hd : dstOk sz dst = true)
    (h : AOps P σ0 sz ops Q rest (St.mk (putE env dst (.agg ((cs.take size).map .imm))) σv)) : AOps P σ0 sz ops Q (⟨dst, .load t x, ty, pos, after, none⟩ :: rest) (St.mk env σv) :=
  .value rfl hd _ (fun Γ φ a w hR => by
    obtain ⟨ad, us, hv, hcs⟩ := ipt_inv (ev_rel hR hx)
    refine ⟨.agg ((List.range size).map us).toArray, ?_, RelT.agg' (by simp; omega) fun i c v hc hv => ?_⟩
    · rw [show (execOp a.eval ⟨dst, .load t x, ty, pos, after, none⟩).run P w = ((loadVar t ad).run P w).andThen fun v w => .ok (.value v) w by simp [execOp, hv, Instr.loadAt, Instr.sureAddr]]
      rw [run_loadVar_agg (P := P) (t := t) ha (w := w) (a := ad) (us := (List.range size).map us) (by simp) (fun j v hj => by
        simp only [List.getElem?_map, Option.map_eq_some_iff] at hj
        obtain ⟨j', hj, rfl⟩ := hj
        obtain ⟨hlt, rfl⟩ := range_some hj
        exact (hcs j _ (List.getElem?_eq_getElem (by omega))).2.1)]
      rfl
    · simp only [List.getElem?_map, Option.map_eq_some_iff] at hc hv
      obtain ⟨x, hx, rfl⟩ := hc
      obtain ⟨j', hj, rfl⟩ := hv
      obtain ⟨hlt, rfl⟩ := range_some hj
      rw [List.getElem?_take, if_pos hlt] at hx
      exact .imm (hcs _ x hx).2.2) h

/-- What stands in a block, from its element's cell on. -/
theorem own_cells {Γ : Cx} {φ : Phi} {a : Act} {w : World} (hR : R Γ sz (St.mk env σv) φ a w) {id : Id} {k b base : Nat} {es : List (List C)} (hσ : σv[id]? = some (some (.cells k es))) (hp : φ id = some (b, base)) :
    ∃ arr ety, w.heap[b]? = some (.cells arr ety (0, 0)) ∧ base + es.length * k ≤ arr.size ∧ (∀ (j : Nat) (e : List C), es[j]? = some e → e.length = k) ∧
      ∀ (j : Nat) (e : List C) (o : Nat) (x : C), es[j]? = some e → e[o]? = some x → ∃ u, arr[base + (j * k + o)]? = some u ∧ RelC w φ σv (Al Γ.N φ σv) x u := by
  rcases hR.st.blk _ _ hσ with ⟨h1, h2⟩ | ⟨b', base', arr, ety, h1, h2, h3, h4, h5⟩
  · rw [hp] at h1; cases h1
  · rw [hp] at h1; cases h1; exact ⟨arr, ety, h2, h3, h4, h5⟩

theorem AOps.load {x : Operand} {t : TypeId} {d : TypeDesc} {id : Id} {j o k : Nat} {es : List (List C)} {e : List C} {c : C} [ht : TyD P t d] (ha : isAggD d = false) (hx : ev env x = some (.c (.ptr id j o))) (hσ : σv[id]? = some (some (.cells k es)))
    (he : es[j]? = some e) (hc : e[o]? = some c) (hd : dstOk sz dst = true)
    (h : AOps P σ0 sz ops Q rest (St.mk (putE env dst (.c c)) σv)) : AOps P σ0 sz ops Q (⟨dst, .load t x, ty, pos, after, none⟩ :: rest) (St.mk env σv) :=
  .value rfl hd _ (fun Γ φ a w hR => by
    obtain ⟨hid, b, base, hp, hv⟩ := ptr_inv (ev_rel hR hx) hσ
    obtain ⟨arr, ety, hb, _, _, hcs⟩ := own_cells hR hσ hp
    obtain ⟨u, hu, hr⟩ := hcs j e o c he hc
    exact ⟨u, by simp [execOp, hv, Instr.loadAt, Instr.sureAddr, run_loadVar_one ha ((cell_of hb).trans hu)], .c hr⟩) h

theorem AOps.loadAgg {x : Operand} {t : TypeId} {d : TypeDesc} {size bytes : Nat} {z : Value} {id : Id} {j o k : Nat} {es : List (List C)} {e : List C} [ht : TyD P t d] [hs : TyS P t size bytes z] (ha : isAggD d = true) (hx : ev env x = some (.c (.ptr id j o))) (hσ : σv[id]? = some (some (.cells k es)))
    (he : es[j]? = some e) (hl : o + size ≤ e.length) (hd : dstOk sz dst = true)
    (h : AOps P σ0 sz ops Q rest (St.mk (putE env dst (.agg ((e.drop o).take size))) σv)) : AOps P σ0 sz ops Q (⟨dst, .load t x, ty, pos, after, none⟩ :: rest) (St.mk env σv) :=
  .value rfl hd _ (fun Γ φ a w hR => by
    obtain ⟨hid, b, base, hp, hv⟩ := ptr_inv (ev_rel hR hx) hσ
    obtain ⟨arr, ety, hb, _, _, hcs⟩ := own_cells hR hσ hp
    refine ⟨.agg ((List.range size).map fun i => (arr[base + (j * k + (o + i))]?).getD Go.undef).toArray, ?_, RelT.agg' (by simp; omega) fun i c v hc hv => ?_⟩
    · rw [show (execOp a.eval ⟨dst, .load t x, ty, pos, after, none⟩).run P w = ((loadVar t ⟨b, base + (j * k + o), none⟩).run P w).andThen fun v w => .ok (.value v) w by simp [execOp, hv, Instr.loadAt, Instr.sureAddr]]
      rw [run_loadVar_agg (P := P) (t := t) ha (w := w) (a := ⟨b, base + (j * k + o), none⟩) (us := (List.range size).map fun i => (arr[base + (j * k + (o + i))]?).getD Go.undef) (by simp) (fun i v hi => by
        simp only [List.getElem?_map, Option.map_eq_some_iff] at hi
        obtain ⟨j', hj, rfl⟩ := hi
        obtain ⟨hlt, rfl⟩ := range_some hj
        obtain ⟨u, hu, _⟩ := hcs j e (o + i) _ he (List.getElem?_eq_getElem (by omega))
        rw [add_none, cell_of hb, show base + (j * k + o) + i = base + (j * k + (o + i)) by omega, hu]
        rfl)]
      rfl
    · simp only [List.getElem?_map, Option.map_eq_some_iff] at hv
      obtain ⟨j', hj, rfl⟩ := hv
      obtain ⟨hlt, rfl⟩ := range_some hj
      rw [List.getElem?_take, if_pos hlt, List.getElem?_drop] at hc
      obtain ⟨u, hu, hr⟩ := hcs j e (o + i) c he hc
      rw [hu]
      exact hr) h

/-! ### Stores -/
theorem getElem?_splice {α : Type} (l m : List α) (p i : Nat) (hp : p + m.length ≤ l.length) : (l.take p ++ m ++ l.drop (p + m.length))[i]? = if p ≤ i ∧ i < p + m.length then m[i - p]? else l[i]? := by
  by_cases h1 : i < p
  · rw [List.append_assoc, List.getElem?_append_left (by simp; omega), List.getElem?_take, if_pos h1, if_neg (by omega)]
  · by_cases h2 : i < p + m.length
    · rw [List.getElem?_append_left (by simp; omega), List.getElem?_append_right (by simp; omega), if_pos (by omega)]
      congr 1
      simp; omega
    · rw [List.getElem?_append_right (by simp; omega), List.getElem?_drop, if_neg (by omega)]
      congr 1
      simp; omega

/-- Some cells of one element of an owned block are written. -/
theorem own_store {Γ : Cx} {φ : Phi} {a : Act} {w : World} (hR : R Γ sz (St.mk env σv) φ a w) {id : Id} {j o k b base : Nat} {es : List (List C)} {e : List C} (hσ : σv[id]? = some (some (.cells k es))) (hp : φ id = some (b, base)) (he : es[j]? = some e)
    {cs : List C} {us : List Value} (hl : us.length = cs.length) (hfit : o + cs.length ≤ e.length) (hr : ∀ (i : Nat) (c : C) (v : Value), cs[i]? = some c → us[i]? = some v → RelC w φ σv (Al Γ.N φ σv) c v) :
    ∃ w', (storeCells ⟨b, base + (j * k + o), none⟩ us).run P w = .ok () w' ∧ R Γ sz ⟨env, σv.put id (some (.cells k (es.set j (e.take o ++ cs ++ e.drop (o + cs.length)))))⟩ φ a w' := by
  obtain ⟨arr, ety, hb, hsz, hk, hcs⟩ := own_cells hR hσ hp
  have hj : j < es.length := (List.getElem?_eq_some_iff.1 he).1
  have hek := hk j e he
  have hjk : (j + 1) * k ≤ es.length * k := Nat.mul_le_mul_right _ hj
  rw [Nat.add_mul, Nat.one_mul] at hjk
  have h1 : ∀ v ∈ us, v.oneCell' = true := fun v hv => by
    obtain ⟨i, hi, rfl⟩ := List.mem_iff_getElem.1 hv
    exact (hr i _ _ (List.getElem?_eq_getElem (by omega)) (List.getElem?_eq_getElem hi)).one
  have hst := run_storeCells_at P b (base + (j * k + o)) ety us 0 arr w hb (by omega) h1
  refine ⟨_, hst, ?_⟩
  have hw := Rs.write (arr' := (arr.toList.take (base + (j * k + o) + 0) ++ us ++ arr.toList.drop (base + (j * k + o) + 0 + us.length)).toArray) (es' := es.set j (e.take o ++ cs ++ e.drop (o + cs.length))) hR.toRs hσ hp hb (by simp) (by simp; omega) (fun i e' hi => ?_) hsz (fun i e' q x hi hx => ?_)
  · exact hR.of hw.1 hw.2
  · rw [List.getElem?_set] at hi
    split at hi
    · first
        | (split at hi
           · cases hi
             simp; omega
           · cases hi)
        | (cases hi
           simp; omega)
    · exact hk i e' hi
  · have hsp := getElem?_splice arr.toList us (base + (j * k + o)) (base + (i * k + q)) (by simp; omega)
    simp only [Nat.add_zero, List.getElem?_toArray]
    rw [hsp]
    rw [List.getElem?_set] at hi
    by_cases hij : j = i
    · subst hij
      rw [if_pos rfl, if_pos hj] at hi
      cases hi
      have hsp2 := getElem?_splice e cs o q (by omega)
      rw [hsp2] at hx
      by_cases hq : o ≤ q ∧ q < o + cs.length
      · rw [if_pos hq] at hx
        rw [if_pos (by omega)]
        refine ⟨us[q - o]'(by omega), ?_, hr _ x _ hx (List.getElem?_eq_getElem (by omega))⟩
        rw [show base + (j * k + q) - (base + (j * k + o)) = q - o by omega]
        exact List.getElem?_eq_getElem (by omega)
      · rw [if_neg hq] at hx
        rw [if_neg (by omega)]
        obtain ⟨u, hu, hr'⟩ := hcs j e q x he hx
        exact ⟨u, by simpa using hu, hr'⟩
    · rw [if_neg hij] at hi
      obtain ⟨u, hu, hr'⟩ := hcs i e' q x hi hx
      have hqk : q < k := by rw [← hk i e' hi]; exact (List.getElem?_eq_some_iff.1 hx).1
      have : ¬ (base + (j * k + o) ≤ base + (i * k + q) ∧ base + (i * k + q) < base + (j * k + o) + us.length) := by
        rcases Nat.lt_or_gt_of_ne hij with hlt | hlt
        · have : (j + 1) * k ≤ i * k := Nat.mul_le_mul_right _ hlt
          rw [Nat.add_mul, Nat.one_mul] at this
          omega
        · have : (i + 1) * k ≤ j * k := Nat.mul_le_mul_right _ hlt
          rw [Nat.add_mul, Nat.one_mul] at this
          omega
      rw [if_neg this]
      exact ⟨u, by simpa using hu, hr'⟩

theorem AOps.store {x y : Operand} {t : TypeId} {bytes : Nat} {z : Value} {id : Id} {j o k : Nat} {es : List (List C)} {e : List C} {c : C} [hs : TyS P t 1 bytes z] (hx : ev env x = some (.c (.ptr id j o))) (hy : ev env y = some (.c c)) (hσ : σv[id]? = some (some (.cells k es)))
    (he : es[j]? = some e) (hl : o < e.length)
    (h : AOps P σ0 sz ops Q rest ⟨env, σv.put id (some (.cells k (es.set j (e.set o c))))⟩) : AOps P σ0 sz ops Q (⟨none, .store t x y, ty, pos, after, none⟩ :: rest) (St.mk env σv) :=
  .skipW rfl rfl _ (fun Γ φ a w hR => by
    obtain ⟨hid, b, base, hp, hv⟩ := ptr_inv (ev_rel hR hx) hσ
    have hr := ev_rel hR hy
    generalize hu : a.eval y = u at hr
    cases hr with | c hr =>
      obtain ⟨w', h1, h2⟩ := own_store (P := P) hR hσ hp he (o := o) (cs := [c]) (us := [u]) rfl (by simp; omega) (fun i c' v hc hv => by
        match i with
        | 0 => cases hc; cases hv; exact hr
        | i + 1 => simp at hc)
      refine ⟨w', φ, ?_, ?_⟩
      · have e1 : u.cells = #[u] := by
          have := hr.one
          cases u <;> first | rfl | simp [Value.oneCell'] at this
        simp [execOp, hv, hu, Instr.storeAt, Instr.sureAddr, storeVar, run_sizeOf, e1, h1]
      · have e2 : e.set o c = e.take o ++ [c] ++ e.drop (o + [c].length) := by
          rw [List.set_eq_take_append_cons_drop, if_pos hl, List.append_assoc]
          rfl
        rw [e2]
        exact h2) h

theorem AOps.storeAgg {x y : Operand} {t : TypeId} {size bytes : Nat} {z : Value} {id : Id} {j o k : Nat} {es : List (List C)} {e cs : List C} [hs : TyS P t size bytes z] (hx : ev env x = some (.c (.ptr id j o))) (hy : ev env y = some (.agg cs)) (hσ : σv[id]? = some (some (.cells k es)))
    (he : es[j]? = some e) (hl : o + size ≤ e.length) (hcs : cs.length = size)
    (h : AOps P σ0 sz ops Q rest ⟨env, σv.put id (some (.cells k (es.set j (e.take o ++ cs ++ e.drop (o + cs.length)))))⟩) : AOps P σ0 sz ops Q (⟨none, .store t x y, ty, pos, after, none⟩ :: rest) (St.mk env σv) :=
  .skipW rfl rfl _ (fun Γ φ a w hR => by
    obtain ⟨hid, b, base, hp, hv⟩ := ptr_inv (ev_rel hR hx) hσ
    obtain ⟨vs, h1, h2, h3⟩ := RelT.agg_inv (ev_rel hR hy)
    obtain ⟨w', g1, g2⟩ := own_store (P := P) hR hσ hp he (o := o) (cs := cs) (us := vs) h2 (by omega) (fun i c v hc hv => by
      obtain ⟨u, hu, hr⟩ := h3 i c hc
      rw [hv] at hu; cases hu; exact hr)
    refine ⟨w', φ, ?_, g2⟩
    simp [execOp, hv, h1, Instr.storeAt, Instr.sureAddr, storeVar, run_sizeOf, Value.cells, h2, hcs, g1]) h

/-! ### New blocks -/

/-- The cells of a value. -/
def cellsT : T → Option (List C)
  | .c x => some [x]
  | .agg cs => some cs
  | _ => none

theorem cellsT_rel {w : World} {φ : Phi} {σ : Store} {A : Nat → Prop} {t : T} {u : Value} (h : RelT w φ σ A t u) {cs : List C} (hc : cellsT t = some cs) : u.cells.size = cs.length ∧ ∀ (i : Nat) (c : C), cs[i]? = some c → ∃ v, u.cells[i]? = some v ∧ RelC w φ σ A c v := by
  cases h with
  | c h =>
    cases hc
    have e1 : u.cells = #[u] := by
      have := h.one
      cases u <;> first | rfl | simp [Value.oneCell'] at this
    rw [e1]
    refine ⟨rfl, fun i c hi => ?_⟩
    match i with
    | 0 => cases hi; exact ⟨u, rfl, h⟩
    | i + 1 => simp at hi
  | agg us hr =>
    cases hc
    refine ⟨by simp [Value.cells], fun i c hi => ⟨us i, ?_, hr i c hi⟩⟩
    simp [Value.cells, (List.getElem?_eq_some_iff.1 hi).1]
  | tup us hr => cases hc
  | undef => cases hc

theorem new_one {Γ : Cx} {φ : Phi} {a : Act} {w : World} (hR : R Γ sz (St.mk env σv) φ a w) {arr : Array Value} {cs : List C} {ety : TypeId} (hsz : arr.size = cs.length) (hc : ∀ (i : Nat) (c : C), cs[i]? = some c → ∃ v, arr[i]? = some v ∧ RelC w φ σv (Al Γ.N φ σv) c v) :
    RelT (w.alloc (.cells arr ety)) (phiNew σv.length φ w.heap.size) (σv ++ [.one (.cells cs.length [cs])]) (Al Γ.N (phiNew σv.length φ w.heap.size) (σv ++ [.one (.cells cs.length [cs])])) (.c (.ptr (σv.length, []) 0 0)) (.pointer (some ⟨w.heap.size, 0, none⟩)) ∧
    R Γ sz ⟨env, σv ++ [.one (.cells cs.length [cs])]⟩ (phiNew σv.length φ w.heap.size) a (w.alloc (.cells arr ety)) := by
  have hA := Rs.alloc (k := cs.length) (es := [cs]) (arr := arr) (ety := ety) hR.toRs (fun j e he => by
    match j with
    | 0 => cases he; rfl
    | j + 1 => simp at he) (by simp; omega) (fun j e o x he hx => by
    match j with
    | 0 => cases he; simpa using hc o x hx
    | j + 1 => simp at he)
  refine ⟨.c (.ptr (by simp) rfl fun k es he => ?_), hR.of hA.1 hA.2⟩
  rw [Store.get_last] at he
  cases he
  exact ⟨w.heap.size, 0, by simp [phiNew], by simp⟩

theorem AOps.box {x : Operand} {t : TypeId} {v : T} {cs : List C} (hx : ev env x = some v) (hc : cellsT v = some cs) (hd : dstOk sz dst = true)
    (h : AOps P σ0 sz ops Q rest (St.mk (putE env dst (.c (.ptr (σv.length, []) 0 0))) (σv ++ [.one (.cells cs.length [cs])]))) : AOps P σ0 sz ops Q (⟨dst, .box t x, ty, pos, after, none⟩ :: rest) (St.mk env σv) :=
  .valueW rfl hd _ _ (fun Γ φ a w hR => by
    obtain ⟨h1, h2⟩ := cellsT_rel (ev_rel hR hx) hc
    have := new_one (ety := t) hR h1 h2
    exact ⟨_, _, _, by simp [execOp, Instr.box, newVar, newRow], this⟩) h

theorem AOps.alloc {t : TypeId} {size bytes : Nat} {z : Value} {v : T} {cs : List C} [hs : TyS P t size bytes z] (hz : constT z = some v) (hc : cellsT v = some cs) (hd : dstOk sz dst = true)
    (h : AOps P σ0 sz ops Q rest (St.mk (putE env dst (.c (.ptr (σv.length, []) 0 0))) (σv ++ [.one (.cells cs.length [cs])]))) : AOps P σ0 sz ops Q (⟨dst, .alloc t, ty, pos, after, none⟩ :: rest) (St.mk env σv) :=
  .valueW rfl hd _ _ (fun Γ φ a w hR => by
    obtain ⟨h1, h2⟩ := cellsT_rel (w := w) (φ := φ) (σ := σv) (A := Al Γ.N φ σv) (constT_rel hz) hc
    have := new_one (ety := t) hR h1 h2
    exact ⟨_, _, _, by simp [execOp, Instr.alloc, run_zero (t := t), newVar, newRow], this⟩) h

end
end Ab
