/-
  MORE RULES: append to nil, literals, make, a slice of a slice, function values, conversions, calls; what is owned ceases to change.
-/
import Derived.Test.YtfjbddjoagefkaaAb9
namespace Ab
open Go

section
variable {P : Program} {σ0 : Store} {sz : Nat} {Q : Post} {env : Env} {σv : Store} {ops : Array Oper} {rest : List Oper} {dst : Option Nat} {ty : TypeId} {pos : String} {after : Array Edge}

theorem AOps.appendNil {x y : Operand} {t e : TypeId} {k bytes : Nat} {z : Value} {new : List (List C)} {v : T} [ht : TyD P t (.slice e)] [hs : TyS P e k bytes z] (hzk : (z.cells.size == k) = true) (hbp : Nat.blt 0 bytes = true)
    (hx : ev env x = some (.c (.imm (.val (.slice none 0 0))))) (hy : ev env y = some v) (hsrc : Src σv k v new) (hb : new.length * bytes ≤ 140737488355328) (hd : dstOk sz dst = true)
    (h : AOps P σ0 sz ops Q rest (St.mk (putE env dst (.c (.own (σv.length, []) 0 new.length))) (σv ++ [.one (.cells k new)]))) :
    AOps P σ0 sz ops Q (⟨dst, .call ⟨.builtin .append, #[x, y], #[t, t]⟩, ty, pos, after, none⟩ :: rest) (St.mk env σv) :=
  .valueW rfl hd _ _ (fun Γ φ a w hR => by
    obtain ⟨b', cap', us', hy1, hy2⟩ := hsrc.shows hR hy
    have hx1 := ev_val hR hx
    have ex : (execOp a.eval ⟨dst, .call ⟨.builtin .append, #[x, y], #[t, t]⟩, ty, pos, after, none⟩).run P w = ((Builtin.append_ #[t, t] ty #[.slice none 0 0, .slice b' new.length cap']).run P w).andThen fun v w => .ok (.value v) w := by
      simp [execOp, resolve, invoke, builtin, hx1, hy1]
    rw [ex]
    by_cases hn : new = []
    · subst hn
      obtain ⟨hK2, hR2⟩ := hR.toRs.virt k
      have hrun : (Builtin.append_ #[t, t] ty #[.slice none 0 0, .slice b' 0 cap']).run P w = .ok (.slice none 0 0) w := by
        have hf := run_first (P := P) w (size := k) (cap := cap') (b := b') (n := 0) (us := us') hy2.len (fun h => List.eq_nil_of_length_eq_zero (by simpa using hy2.len)) hy2.cell
        simp [Builtin.append_, run_underlying ht.h, run_sizeOf (t := e), Builtin.lenOf, hf]
      exact ⟨.slice none 0 0, w, (fun i => if i = (σv.length, []) then none else φ i), by rw [show ([] : List (List C)).length = 0 from rfl, hrun]; rfl, cellOwn (k := k) (es := []) (Store.get_last _ _) rfl (.inl ⟨by simp, rfl, rfl, rfl⟩), hR.of hK2 hR2⟩
    · have hpos : 0 < new.length := List.length_pos_iff.2 hn
      have hmax : 0 + new.length ≤ maxLen := by
        have hb0 : 0 < bytes := by simpa using hbp
        have : new.length ≤ new.length * bytes := Nat.le_mul_of_pos_right _ hb0
        simp only [maxLen]; omega
      obtain ⟨v', w', φ', g1, g2, g3⟩ := append_new (P := P) (t := t) (e := e) (ty' := ty) hR hzk (n := 0) (cap0 := 0) (old := []) (us0 := []) (b0 := none) ⟨by simp, fun _ => rfl, fun _ h => by simp at h, fun j e h => by simp at h, fun j e o x h => by simp at h⟩ rfl (c := cap') hy2 (by omega) (by simpa using hb) hmax σv (fun φ w h => ⟨Kept.refl _ _ _ _, h⟩) rfl
      simp only [Nat.zero_add, List.nil_append] at g2 g3
      exact ⟨v', w', φ', by rw [g1]; rfl, g2, g3⟩) h

/-- A literal of one element: what an append of one value lays first. -/
theorem AOps.lit1 {x : Operand} {t e : TypeId} {k bytes : Nat} {z : Value} {v : T} {cs : List C} [ht : TyD P t (.slice e)] [hs : TyS P e k bytes z] (hzk : (z.cells.size == k) = true) (hks : Nat.ble k 16777216 = true) (hkp : Nat.blt 0 k = true) (hx : ev env x = some v) (hc : cellsT v = some cs) (hl : cs.length = k) (hd : dstOk sz dst = true)
    (h : AOps P σ0 sz ops Q rest (St.mk (putE env dst (.c (.own (σv.length, []) 0 1))) (σv ++ [.one (.cells k [cs])]))) :
    AOps P σ0 sz ops Q (⟨dst, .buildSlice t 1 #[(0, x)], ty, pos, after, none⟩ :: rest) (St.mk env σv) :=
  .valueW rfl hd _ _ (fun Γ φ a w hR => by
    obtain ⟨h1, h2⟩ := cellsT_rel (ev_rel hR hx) hc
    have hz : z.cells.size = k := by simpa using hzk
    have hk0 : k ≠ 0 := by have : 0 < k := by simpa using hkp
                           omega
    have hk1 : ¬ (16777216 < k) := by have : k ≤ 16777216 := Nat.le_of_ble_eq_true hks
                                      omega
    have hfold : ∀ (l : List Value) (p : Nat) (base : Array Value), p + l.length ≤ base.size → ((l.zipIdx p).foldl (fun cs (c, j) => cs.setIfInBounds (0 + j) c) base).size = base.size ∧
        ∀ i, ((l.zipIdx p).foldl (fun cs (c, j) => cs.setIfInBounds (0 + j) c) base)[i]? = if p ≤ i ∧ i < p + l.length then l[i - p]? else base[i]? := by
      intro l
      induction l with
      | nil => intro p base _; exact ⟨rfl, fun i => by simp; omega⟩
      | cons c l ih =>
        intro p base hp
        simp only [List.length_cons] at hp
        simp only [List.zipIdx_cons, List.foldl_cons]
        obtain ⟨g1, g2⟩ := ih (p + 1) (base.setIfInBounds (0 + p) c) (by simp; omega)
        refine ⟨by rw [g1]; simp, fun i => ?_⟩
        rw [g2]
        by_cases hi : p + 1 ≤ i ∧ i < p + 1 + l.length
        · rw [if_pos hi, if_pos (by simp; omega)]
          rw [show i - p = (i - (p + 1)) + 1 by omega]
          simp
        · rw [if_neg hi]
          by_cases hp' : i = p
          · subst hp'
            rw [if_pos (by simp)]
            have hb : i < base.size := by omega
            simp [hb]
          · rw [if_neg (by simp; omega)]
            simp [Array.getElem?_setIfInBounds]; omega
    generalize hu : a.eval x = u at h1 h2
    generalize hbase : (Array.range k).map (fun i => z.cells[i % z.cells.size]!) = base
    have hbs : base.size = k := by rw [← hbase]; simp
    have hsz : u.cells.toList.length = k := by simp [h1, hl]
    obtain ⟨f1, f2⟩ := hfold u.cells.toList 0 base (by omega)
    generalize hfin : (u.cells.toList.zipIdx 0).foldl (fun cs (c, j) => cs.setIfInBounds (0 + j) c) base = fin at f1 f2
    have hfin' : u.cells.zipIdx.foldl (fun cs (c, j) => cs.setIfInBounds (0 + j) c) base = fin := by
      rw [← hfin, ← Array.foldl_toList, Array.toList_zipIdx]
    have hA := Rs.alloc (k := k) (es := [cs]) (arr := fin) (ety := e) hR.toRs (fun j e he => by
      match j with
      | 0 => cases he; exact hl
      | j + 1 => simp at he) (by simp; omega) (fun j e o x he hx => by
      match j with
      | 0 =>
        cases he
        obtain ⟨v, hv, hr⟩ := h2 o x hx
        have ho := (List.getElem?_eq_some_iff.1 hx).1
        refine ⟨v, ?_, hr⟩
        rw [f2, if_pos (by omega)]
        simpa using hv
      | j + 1 => simp at he)
    refine ⟨.slice (some ⟨w.heap.size, 0, none⟩) 1 1, _, _, ?_, cellOwn (k := k) (es := [cs]) (Store.get_last _ _) rfl (.inr ⟨w.heap.size, 0, 1, fin, e, _, by simp [phiNew], rfl, fun _ => by simp, by simp, by simp [maxLen], by simp, heap_alloc_new w _, by simp; omega⟩), hR.of hA.1 hA.2⟩
    have hfill : Instr.fill (fun i => some (i * k, k)) base [(0, u)] = some fin := by
      simp only [Instr.fill]
      rw [if_neg (by simp [h1, hl, hbs])]
      simp only [Nat.zero_mul]
      rw [hfin']
    simp [execOp, Instr.buildSlice, run_underlying ht.h, run_sizeOf (t := e), run_zero (t := e), hk0, hk1, hu, hbase, hfill, newRow]) h

/-- make([]T, n). -/
theorem AOps.make {x y : Operand} {t e : TypeId} {k bytes : Nat} {z : Value} {kk kk' : IntKind} {n : Int} {v : T} {cs : List C} [ht : TyD P t (.slice e)] [hs : TyS P e k bytes z] (hz : constT z = some v) (hc : cellsT v = some cs) (hcl : (cs.length == k) = true)
    (hx : ev env x = some (.c (.imm (.val (.int kk n))))) (hy : ev env y = some (.c (.imm (.val (.int kk' n))))) (hn : 0 ≤ n) (hmax : n ≤ 9223372036854775807) (hb : (bytes : Int) * n ≤ 281474976710656) (hd : dstOk sz dst = true)
    (h : AOps P σ0 sz ops Q rest (St.mk (putE env dst (.c (.own (σv.length, []) 0 n.toNat))) (σv ++ [.one (.cells k (List.replicate n.toNat cs))]))) :
    AOps P σ0 sz ops Q (⟨dst, .makeSlice t x y, ty, pos, after, none⟩ :: rest) (St.mk env σv) :=
  .valueW rfl hd _ _ (fun Γ φ a w hR => by
    obtain ⟨i, hi1, hi2, hi3, hi4⟩ := hs.h
    have hrun := run_make (P := P) w t e i z ht.h hi1 hi4 kk kk' n n hn (Int.le_refl _) (by rw [hi3]; exact hb) hmax
    obtain ⟨h1, h2⟩ := cellsT_rel (w := w) (φ := φ) (σ := σv) (A := Al Γ.N φ σv) (constT_rel hz) hc
    have hk : cs.length = k := by simpa using hcl
    rw [hi2] at hrun
    have hA := Rs.alloc (k := k) (es := List.replicate n.toNat cs) (arr := madeCells z.cells (n.toNat * k)) (ety := e) hR.toRs (fun j e he => by
      rw [List.getElem?_replicate] at he
      split at he <;> cases he
      exact hk) (by simp [size_madeCells]) (fun j e o x he hx => by
      rw [List.getElem?_replicate] at he
      split at he
      · rename_i hj
        cases he
        obtain ⟨u, hu, hr⟩ := h2 o x hx
        have ho : o < k := by rw [← hk]; exact (List.getElem?_eq_some_iff.1 hx).1
        refine ⟨u, ?_, hr⟩
        have : (j + 1) * k ≤ n.toNat * k := Nat.mul_le_mul_right _ hj
        rw [Nat.add_mul, Nat.one_mul] at this
        have hzs : z.cells.size = k := by rw [h1, hk]
        have em : (j * k + o) % k = o := by rw [Nat.mul_comm, Nat.mul_add_mod, Nat.mod_eq_of_lt ho]
        simp only [madeCells, Array.getElem?_map, Array.getElem?_range, hzs]
        rw [if_pos (by omega)]
        simp only [Option.map_some, em]
        have ho' : o < z.cells.size := by omega
        rw [Array.getElem?_eq_getElem ho'] at hu
        simp [getElem!_pos, ho', Option.some.inj hu]
      · cases he)
    refine ⟨.slice (some ⟨w.heap.size, 0, none⟩) n.toNat n.toNat, w.alloc (.cells (madeCells z.cells (n.toNat * k)) e), phiNew σv.length φ w.heap.size, by simp [execOp, ev_val hR hx, ev_val hR hy, hrun], ?_, hR.of hA.1 hA.2⟩
    refine cellOwn (k := k) (es := List.replicate n.toNat cs) (Store.get_last _ _) rfl (.inr ⟨w.heap.size, 0, n.toNat, _, e, _, by simp [phiNew], rfl, fun _ => by simp, Nat.le_refl _, by simp only [maxLen]; omega, by simp, heap_alloc_new w _, by simp [size_madeCells]⟩)) h

/-! ### A slice of a slice -/
theorem run_bound (w : World) {y : Nat} {c : BoundsCode} {kk : IntKind} {i : Int} (h : 0 ≤ i ∧ i ≤ y) : (Instr.sliceBound (.int kk i) y c).run P w = .ok i.toNat w := by simp [Instr.sliceBound, asIntOf, h]

theorem AOps.slice {x l r : Operand} {t e : TypeId} {k bytes : Nat} {z : Value} {kk kk' : IntKind} {lo hi : Int} {es : List (List I)} [ht : TyD P t (.slice e)] [hs : TyS P e k bytes z]
    (hx : ev env x = some (.c (.imm (.sl k es)))) (hl : ev env l = some (.c (.imm (.val (.int kk lo))))) (hr : ev env r = some (.c (.imm (.val (.int kk' hi))))) (hb : 0 ≤ lo ∧ lo ≤ hi ∧ hi ≤ es.length) (hd : dstOk sz dst = true)
    (h : AOps P σ0 sz ops Q rest (St.mk (putE env dst (.c (.imm (.sl k ((es.take hi.toNat).drop lo.toNat))))) σv)) : AOps P σ0 sz ops Q (⟨dst, .slice t x (some l) (some r) none, ty, pos, after, none⟩ :: rest) (St.mk env σv) :=
  .value rfl hd _ (fun Γ φ a w hR => by
    have hrel := ev_rel hR hx
    generalize hu : a.eval x = u at hrel
    have key : ∀ (b : Option Addr) (n cap : Nat), u = .slice b n cap → hi ≤ cap → (execOp a.eval ⟨dst, .slice t x (some l) (some r) none, ty, pos, after, none⟩).run P w = .ok (.value (.slice (if cap = lo.toNat then b else b.map (·.add (lo.toNat * k))) (hi.toNat - lo.toNat) (cap - lo.toNat))) w := fun b n cap e1 hcap => by
      have hb1 := run_bound (P := P) w (y := cap) (c := .sliceAcap) (kk := kk') (i := hi) (by omega)
      have hb2 := run_bound (P := P) w (y := hi.toNat) (c := .sliceB) (kk := kk) (i := lo) (by omega)
      simp [execOp, hu, e1, ev_val hR hl, ev_val hR hr, Instr.sliceAt, Instr.slice, Instr.sliceBounds, run_underlying ht.h, run_sizeOf (t := e), hb1, hb2]
    have hlen : ((es.take hi.toNat).drop lo.toNat).length = hi.toNat - lo.toNat := by simp; omega
    cases hrel with | c hrel => cases hrel with | imm hrel => cases hrel with
      | slNil =>
        have h0 : hi = 0 := by simp at hb; omega
        have h1 : lo = 0 := by omega
        subst h0 h1
        refine ⟨.slice none 0 0, by rw [key none 0 0 rfl (by omega)]; simp, .c (.imm (by simpa using .slNil))⟩
      | @sl _ _ ad cap us hcap hmax hk hc hr =>
        have hcp : hi ≤ cap := by omega
        rw [key _ _ _ rfl hcp]
        refine ⟨_, rfl, .c (.imm ?_)⟩
        rw [← hlen]
        have get : ∀ (j : Nat) (e : List I), ((es.take hi.toNat).drop lo.toNat)[j]? = some e → es[lo.toNat + j]? = some e ∧ lo.toNat + j < hi.toNat := fun j e he => by
          rw [List.getElem?_drop, List.getElem?_take] at he
          split at he
          · exact ⟨he, ‹_›⟩
          · cases he
        have fin : ∀ ad' : Addr, (lo.toNat < cap → ad' = ad.add (lo.toNat * k)) → RelI w (Al Γ.N φ σv) (.sl k ((es.take hi.toNat).drop lo.toNat)) (.slice (some ad') ((es.take hi.toNat).drop lo.toNat).length (cap - lo.toNat)) := fun ad' had => by
          refine .sl (fun j o => us (lo.toNat + j) o) (by rw [hlen]; omega) (by omega) (fun j e he => hk _ _ (get j e he).1) (fun j e o x he hx => ?_) (fun j e o x he hx => hr _ _ _ _ (get j e he).1 hx)
          obtain ⟨g1, g2⟩ := get j e he
          have := hc _ _ _ _ g1 hx
          rw [had (by omega), add_block, add_add]
          rw [Nat.add_mul, Nat.add_assoc] at this
          exact this
        by_cases hcl : cap = lo.toNat
        · rw [if_pos hcl]; exact fin ad (fun h => by omega)
        · rw [if_neg hcl]; exact fin _ (fun _ => rfl)) h

theorem AOps.sliceOwn {x l r : Operand} {t e : TypeId} {k bytes : Nat} {z : Value} {kk kk' : IntKind} {lo hi : Int} {id : Id} {j n : Nat} {es : List (List C)} [ht : TyD P t (.slice e)] [hs : TyS P e k bytes z]
    (hx : ev env x = some (.c (.own id j n))) (hσ : σv[id]? = some (some (.cells k es))) (hl : ev env l = some (.c (.imm (.val (.int kk lo))))) (hr : ev env r = some (.c (.imm (.val (.int kk' hi))))) (hb : 0 ≤ lo ∧ lo ≤ hi ∧ hi ≤ n) (hd : dstOk sz dst = true)
    (h : AOps P σ0 sz ops Q rest (St.mk (putE env dst (.c (.own id (j + lo.toNat) (hi.toNat - lo.toNat)))) σv)) : AOps P σ0 sz ops Q (⟨dst, .slice t x (some l) (some r) none, ty, pos, after, none⟩ :: rest) (St.mk env σv) :=
  .value rfl hd _ (fun Γ φ a w hR => by
    have hrel := ev_rel hR hx
    have hid : id.1 < σv.length := Store.lt_of hσ
    have hv := own_inv hrel hσ
    generalize hu : a.eval x = u at hv
    have key : ∀ (b : Option Addr) (n cap : Nat), u = .slice b n cap → hi ≤ cap → (execOp a.eval ⟨dst, .slice t x (some l) (some r) none, ty, pos, after, none⟩).run P w = .ok (.value (.slice (if cap = lo.toNat then b else b.map (·.add (lo.toNat * k))) (hi.toNat - lo.toNat) (cap - lo.toNat))) w := fun b n cap e1 hcap => by
      have hb1 := run_bound (P := P) w (y := cap) (c := .sliceAcap) (kk := kk') (i := hi) (by omega)
      have hb2 := run_bound (P := P) w (y := hi.toNat) (c := .sliceB) (kk := kk) (i := lo) (by omega)
      simp [execOp, hu, e1, ev_val hR hl, ev_val hR hr, Instr.sliceAt, Instr.slice, Instr.sliceBounds, run_underlying ht.h, run_sizeOf (t := e), hb1, hb2]
    rcases hv with ⟨h1, h2, h3, h4⟩ | ⟨b, base, cap, arr, ety, ad, hp, hv, had, hcap, hmax, hjn, hbk, hsz⟩
    · subst h3 h4
      have h0 : hi = 0 := by omega
      have h1' : lo = 0 := by omega
      subst h0 h1'
      refine ⟨.slice none 0 0, by rw [key none 0 0 h2 (by omega)]; simp, .c (.own hid rfl fun k' es' he => ?_)⟩
      exact .inl ⟨h1, rfl, rfl, rfl⟩
    · rw [key _ _ _ hv (by omega)]
      refine ⟨_, rfl, .c (.own hid rfl fun k' es' he => ?_)⟩
      rw [hσ] at he; cases he
      have fin : ∀ ad' : Addr, (lo.toNat < cap → ad' = ad.add (lo.toNat * k)) → OwnView w (φ id) k es.length (j + lo.toNat) (hi.toNat - lo.toNat) (.slice (some ad') (hi.toNat - lo.toNat) (cap - lo.toNat)) := fun ad' h' => by
        refine .inr ⟨b, base, cap - lo.toNat, arr, ety, ad', hp, rfl, fun hc => ?_, by omega, by omega, by omega, hbk, ?_⟩
        · rw [h' (by omega), had (by omega), add_none, Nat.add_mul, Nat.add_assoc]
        · rw [show j + lo.toNat + (cap - lo.toNat) = j + cap by omega]; exact hsz
      by_cases hcl : cap = lo.toNat
      · rw [if_pos hcl]; exact fin ad (fun h => by omega)
      · rw [if_neg hcl]; exact fin _ (fun _ => rfl)) h

/-! ### Function values -/
def evC (env : Env) : List Operand → Option (List C)
  | [] => some []
  | x :: r => match ev env x, evC env r with
    | some (.c c), some cs => some (c :: cs)
    | _, _ => none

theorem evC_rel {Γ : Cx} {φ : Phi} {a : Act} {w : World} (hR : R Γ sz (St.mk env σv) φ a w) : ∀ {l : List Operand} {cs : List C}, evC env l = some cs → cs.length = l.length ∧ ∀ (i : Nat) (c : C), cs[i]? = some c → ∃ v, (l.map a.eval)[i]? = some v ∧ RelC w φ σv (Al Γ.N φ σv) c v
  | [], cs, h => by cases h; exact ⟨rfl, fun i c hi => by simp at hi⟩
  | x :: r, cs, h => by
    simp only [evC] at h
    split at h
    · rename_i c0 cs0 h1 h2
      cases h
      obtain ⟨g1, g2⟩ := evC_rel hR h2
      refine ⟨by simp [g1], fun i c hi => ?_⟩
      match i with
      | 0 =>
        cases hi
        have hr := ev_rel hR h1
        generalize hu : a.eval x = u at hr
        cases hr with | c hr => exact ⟨u, by simp [hu], hr⟩
      | i + 1 => simpa using g2 i c (by simpa using hi)
    · cases h

theorem AOps.makeFunc {f : FuncId} {l : List Operand} {cs : List C} (hl : evC env l = some cs) (hd : dstOk sz dst = true)
    (h : AOps P σ0 sz ops Q rest (St.mk (putE env dst (.c (.fn f cs))) σv)) : AOps P σ0 sz ops Q (⟨dst, .makeFunc (.func f) #[] l.toArray, ty, pos, after, none⟩ :: rest) (St.mk env σv) :=
  .value rfl hd _ (fun Γ φ a w hR => by
    obtain ⟨g1, g2⟩ := evC_rel hR hl
    refine ⟨.func (.func f) #[] ((List.range cs.length).map fun i => ((l.map a.eval)[i]?).getD Go.undef).toArray, ?_, .c (.fn _ fun i c hi => ?_)⟩
    · have : (List.range cs.length).map (fun i => ((l.map a.eval)[i]?).getD Go.undef) = l.map a.eval := by
        apply List.ext_getElem?
        intro i
        by_cases hi : i < l.length
        · simp [g1, hi]
        · simp [g1, hi]
      rw [this]
      simp [execOp, Instr.makeFunc]
    · obtain ⟨v, hv, hr⟩ := g2 i c hi
      rw [hv]; exact hr) h

/-! ### Conversions of integers -/
theorem AOps.convInt {x : Operand} {src d : TypeId} {k k' : IntKind} {n : Int} {dd : TypeDesc} [h1 : TyD P src dd] [h2 : TyD P d (.int k')] (hx : ev env x = some (.c (.imm (.val (.int k n))))) (hd : dstOk sz dst = true)
    (h : AOps P σ0 sz ops Q rest (St.mk (putE env dst (.c (.imm (.val (.int k' (k'.wrap n)))))) σv)) : AOps P σ0 sz ops Q (⟨dst, .convert src d x, ty, pos, after, none⟩ :: rest) (St.mk env σv) :=
  .value rfl hd _ (fun Γ φ a w hR => ⟨.int k' (k'.wrap n), by simp [execOp, ev_val hR hx, convert, run_underlying h1.h, run_underlying h2.h, Conv.intToInt], .c (.imm (.val rfl))⟩) h

end
end Ab
