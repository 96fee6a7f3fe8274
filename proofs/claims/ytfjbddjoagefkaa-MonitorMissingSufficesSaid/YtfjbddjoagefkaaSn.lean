/-
  COMPARED WITH nil: what is data may be nil only if it is empty; slices.Clone.
-/
import Derived.Test.YtfjbddjoagefkaaSh7
import Derived.Laws.Cover3
namespace Ab
open Go
section
variable {P : Program} {σ0 : Store} {sz : Nat} {Q : Post} {env : Env} {σv σ' : Store} {ops : Array Oper} {rest : List Oper} {dst : Option Nat} {ty : TypeId} {pos : String} {after : Array Edge}
theorem AOps.eqlNil {x y : Operand} {t t' e : TypeId} {k : Nat} {es : List (List I)} [ht : TyD P t (.slice e)] (hx : ev env x = some (.c (.imm (.sl k es)))) (hy : ev env y = some (.c (.imm (.val (.slice none 0 0))))) (hd : dstOk sz dst = true)
    (h1 : es = [] → AOps P σ0 sz ops Q rest (St.mk (putE env dst (.c (bool true))) σv)) (h2 : AOps P σ0 sz ops Q rest (St.mk (putE env dst (.c (bool false))) σv)) :
    AOps P σ0 sz ops Q (⟨dst, .binOp .eql t x y t', ty, pos, after, none⟩ :: rest) (St.mk env σv) := fun Γ φ a w hΓ hR =>
  wpList_plain rfl fun K hK => by
    have hrel := ev_rel hR hx
    have hyv := ev_val hR hy
    generalize hu : a.eval x = u at hrel
    cases hrel with | c hrel => cases hrel with | imm hrel =>
    unfold Oper.wp
    cases hrel with
    | slNil =>
      have hg : (eqGuard .eql t x y (.slice none 0 0) (.slice none 0 0)).run P w = .ok () w := rfl
      have hr : (binOp .eql t (.slice none 0 0) (.slice none 0 0)).run P w = .ok (.bool true) w := by
        show (do pure (Value.bool (← Op.equal t (.slice none 0 0) (.slice none 0 0)))).run P w = _
        simp [run_equal_slice_nil w t e none 0 0 ht.h]
      have hrun : (execOp a.eval ⟨dst, .binOp .eql t x y t', ty, pos, after, none⟩).run P w = .ok (.value (.bool true)) w := by
        simp [execOp, hu, hyv, hg, hr]
      rw [hrun, Oper.upon_value]
      exact hK _ _ (h1 rfl Γ φ _ w hΓ (hR.put hd (.c (.imm (.val rfl)))))
    | @sl _ _ ad cap us _ _ _ _ _ =>
      have hg : (eqGuard .eql t x y (.slice (some ad) es.length cap) (.slice none 0 0)).run P w = .ok () w := rfl
      have hr : (binOp .eql t (.slice (some ad) es.length cap) (.slice none 0 0)).run P w = .ok (.bool false) w := by
        show (do pure (Value.bool (← Op.equal t (.slice (some ad) es.length cap) (.slice none 0 0)))).run P w = _
        simp [run_equal_slice_nil w t e (some ad) es.length cap ht.h]
      have hrun : (execOp a.eval ⟨dst, .binOp .eql t x y t', ty, pos, after, none⟩).run P w = .ok (.value (.bool false)) w := by
        simp [execOp, hu, hyv, hg, hr]
      rw [hrun, Oper.upon_value]
      exact hK _ _ (h2 Γ φ _ w hΓ (hR.put hd (.c (.imm (.val rfl)))))
end
end Ab
