/-
  PARTS of rows of data: l[lo:], l[:hi], l[lo:hi].
-/
import Derived.Test.YtfjbddjoagefkaaSh6
namespace Ab
open Go
abbrev eBool (b : Bool) : List I := [.val (.bool b)]
abbrev eStr (b : ByteArray) : List I := [.val (.string b)]
section
variable {P : Program} {σ0 : Store} {sz : Nat} {Q : Post} {env : Env} {σv σ' : Store} {ops : Array Oper} {rest : List Oper} {dst : Option Nat} {ty : TypeId} {pos : String} {after : Array Edge}

theorem sliceRow_gen {o : Oper} (hg : o.guard = none) {x : Operand} {k lo hi : Nat} {es : List (List I)} (hx : ev env x = some (.c (.imm (.sl k es)))) (hb : lo ≤ hi ∧ hi ≤ es.length) (hd : dstOk sz o.dst = true)
    (key : ∀ (a : Act) (w : World) (φ : Phi) (Γ : Cx), R Γ sz (St.mk env σv) φ a w → ∀ (b : Option Addr) (cap : Nat), a.eval x = .slice b es.length cap → es.length ≤ cap → (execOp a.eval o).run P w = .ok (.value (.slice (if cap = lo then b else b.map (·.add (lo * k))) (hi - lo) (cap - lo))) w)
    (h : AOps P σ0 sz ops Q rest (St.mk (putE env o.dst (.c (.imm (.sl k ((es.take hi).drop lo))))) σv)) : AOps P σ0 sz ops Q (o :: rest) (St.mk env σv) :=
  .value hg hd _ (fun Γ φ a w hR => by
    have hrel := ev_rel hR hx
    have key := key a w φ Γ hR
    generalize hu : a.eval x = u at hrel key
    have hlen : ((es.take hi).drop lo).length = hi - lo := by simp; omega
    cases hrel with | c hrel => cases hrel with | imm hrel => cases hrel with
      | slNil =>
        have h0 : hi = 0 := by simpa using hb.2
        have h1 : lo = 0 := by omega
        subst h0 h1
        refine ⟨.slice none 0 0, by rw [key none 0 rfl (by simp)]; simp, .c (.imm (by simpa using .slNil))⟩
      | @sl _ _ ad cap us hcap hmax hk hc hr =>
        rw [key _ _ rfl hcap]
        refine ⟨_, rfl, .c (.imm ?_)⟩
        rw [← hlen]
        have get : ∀ (j : Nat) (e : List I), ((es.take hi).drop lo)[j]? = some e → es[lo + j]? = some e ∧ lo + j < hi := fun j e he => by
          rw [List.getElem?_drop, List.getElem?_take] at he
          split at he
          · exact ⟨he, ‹_›⟩
          · cases he
        have fin : ∀ ad' : Addr, (lo < cap → ad' = ad.add (lo * k)) → RelI w (Al Γ.N φ σv) (.sl k ((es.take hi).drop lo)) (.slice (some ad') ((es.take hi).drop lo).length (cap - lo)) := fun ad' had => by
          refine .sl (fun j o => us (lo + j) o) (by rw [hlen]; omega) (by omega) (fun j e he => hk _ _ (get j e he).1) (fun j e o x he hx => ?_) (fun j e o x he hx => hr _ _ _ _ (get j e he).1 hx)
          obtain ⟨g1, g2⟩ := get j e he
          have := hc _ _ _ _ g1 hx
          rw [had (by omega), add_block, add_add]
          rw [Nat.add_mul, Nat.add_assoc] at this
          exact this
        by_cases hcl : cap = lo
        · rw [if_pos hcl]; exact fin ad (fun h => by omega)
        · rw [if_neg hcl]; exact fin _ (fun _ => rfl)) h

theorem subL_get {α : Type} {l r : List α} {lo hi : Int} (h : subL l lo hi = some r) : (0 ≤ lo ∧ lo ≤ hi ∧ hi ≤ l.length) ∧ r = (l.take hi.toNat).drop lo.toNat := by
  unfold subL at h
  split at h
  · cases h; exact ⟨‹_›, rfl⟩
  · cases h

theorem S.sub3 {α : Type} {f : α → List I} {lst lst' : List α} {x l r : Operand} {t e : TypeId} {k bytes : Nat} {z : Value} {kk kk' : IntKind} {lo hi : Int} [ht : TyD P t (.slice e)] [hs : TyS P e k bytes z]
    (hsub : subL lst lo hi = some lst') (hx : ev env x = some (.c (row k f lst))) (hl : ev env l = some (.c (.imm (.val (.int kk lo))))) (hr : ev env r = some (.c (.imm (.val (.int kk' hi))))) (hd : dstOk sz dst = true)
    (h : AOps P σ0 sz ops Q rest (St.mk (putE env dst (.c (row k f lst'))) σv)) : AOps P σ0 sz ops Q (⟨dst, .slice t x (some l) (some r) none, ty, pos, after, none⟩ :: rest) (St.mk env σv) := by
  obtain ⟨hb, rfl⟩ := subL_get hsub
  refine AOps.slice hx hl hr (by simpa using hb) hd ?_
  rw [← List.map_take, ← List.map_drop]; exact h
theorem S.subFrom {α : Type} {f : α → List I} {lst lst' : List α} {x l : Operand} {t e : TypeId} {k bytes : Nat} {z : Value} {kk : IntKind} {lo : Int} [ht : TyD P t (.slice e)] [hs : TyS P e k bytes z]
    (hsub : subL lst lo lst.length = some lst') (hx : ev env x = some (.c (row k f lst))) (hl : ev env l = some (.c (.imm (.val (.int kk lo))))) (hd : dstOk sz dst = true)
    (h : AOps P σ0 sz ops Q rest (St.mk (putE env dst (.c (row k f lst'))) σv)) : AOps P σ0 sz ops Q (⟨dst, .slice t x (some l) none none, ty, pos, after, none⟩ :: rest) (St.mk env σv) := by
  obtain ⟨hb, rfl⟩ := subL_get hsub
  refine sliceRow_gen (lo := lo.toNat) (hi := lst.length) rfl hx (by simp; omega) hd (fun a w φ Γ hR b cap hu hcap => ?_) ?_
  · rw [List.length_map] at hu hcap
    have hb2 := run_bound (P := P) w (y := lst.length) (c := .sliceB) (kk := kk) (i := lo) (by omega)
    simp [execOp, hu, ev_val hR hl, Instr.sliceAt, Instr.slice, Instr.sliceBounds, run_underlying ht.h, run_sizeOf (t := e), hb2]
  · rw [← List.map_take, ← List.map_drop]
    rw [Int.toNat_natCast] at h; exact h
theorem S.subTo {α : Type} {f : α → List I} {lst lst' : List α} {x r : Operand} {t e : TypeId} {k bytes : Nat} {z : Value} {kk' : IntKind} {hi : Int} [ht : TyD P t (.slice e)] [hs : TyS P e k bytes z]
    (hsub : subL lst 0 hi = some lst') (hx : ev env x = some (.c (row k f lst))) (hr : ev env r = some (.c (.imm (.val (.int kk' hi))))) (hd : dstOk sz dst = true)
    (h : AOps P σ0 sz ops Q rest (St.mk (putE env dst (.c (row k f lst'))) σv)) : AOps P σ0 sz ops Q (⟨dst, .slice t x none (some r) none, ty, pos, after, none⟩ :: rest) (St.mk env σv) := by
  obtain ⟨hb, rfl⟩ := subL_get hsub
  refine sliceRow_gen (lo := 0) (hi := hi.toNat) rfl hx (by simp; omega) hd (fun a w φ Γ hR b cap hu hcap => ?_) ?_
  · rw [List.length_map] at hu hcap
    have hb1 := run_bound (P := P) w (y := cap) (c := .sliceAcap) (kk := kk') (i := hi) (by omega)
    simp [execOp, hu, ev_val hR hr, Instr.sliceAt, Instr.slice, Instr.sliceBounds, run_underlying ht.h, run_sizeOf (t := e), hb1]
  · rw [← List.map_take, ← List.map_drop]
    exact h
end
end Ab
