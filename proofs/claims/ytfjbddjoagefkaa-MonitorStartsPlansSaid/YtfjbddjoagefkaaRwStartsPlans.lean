/- a plan that solves a task can be resumed in the initial state, and after each of its steps no earlier than at the next one, whatever values of their types come in. -/
import Derived.Test.YtfjbddjoagefkaaRows
import Derived.Test.YtfjbddjoagefkaaSd
import Derived.Test.YtfjbddjoagefkaaMAll
import Derived.Test.YtfjbddjoagefkaaPm3

namespace Ab
open Go Go.Proofs
def bd_i64 (v : Int) : Prop := (-9223372036854775808 ≤ v ∧ v ≤ 9223372036854775807)
theorem dec_i64 {is : List I} (h : DecL [.int] is) : ∃ v : Int, is = intI v ∧ bd_i64 v := by
  obtain ⟨x0, _, rfl, g0, h⟩ := dec_int h
  obtain rfl := dec_nil h
  exact ⟨x0, rfl, g0⟩
def bd_TOperator (v : TOperator) : Prop := (∀ a ∈ v.pre, bd_i64 a) ∧ (∀ a ∈ v.add, bd_i64 a) ∧ (∀ a ∈ v.del, bd_i64 a) ∧ (-9223372036854775808 ≤ v.cost ∧ v.cost ≤ 9223372036854775807)
theorem dec_TOperator {is : List I} (h : DecL [.sl [.int], .sl [.int], .sl [.int], .int] is) : ∃ v : TOperator, is = eTOperator v ∧ bd_TOperator v := by
  obtain ⟨x0, _, rfl, g0, h⟩ := dec_sl (fun e he => dec_i64 he) h
  obtain ⟨x1, _, rfl, g1, h⟩ := dec_sl (fun e he => dec_i64 he) h
  obtain ⟨x2, _, rfl, g2, h⟩ := dec_sl (fun e he => dec_i64 he) h
  obtain ⟨x3, _, rfl, g3, h⟩ := dec_int h
  obtain rfl := dec_nil h
  exact ⟨⟨x0, x1, x2, x3⟩, rfl, ⟨g0, g1, g2, g3⟩⟩
def bd_TTask (v : TTask) : Prop := (-9223372036854775808 ≤ v.facts ∧ v.facts ≤ 9223372036854775807) ∧ (∀ a ∈ v.init, bd_i64 a) ∧ (∀ a ∈ v.goal, bd_i64 a) ∧ (∀ a ∈ v.operators, bd_TOperator a)
theorem dec_TTask {is : List I} (h : DecL [.int, .sl [.int], .sl [.int], .sl [.sl [.int], .sl [.int], .sl [.int], .int]] is) : ∃ v : TTask, is = eTTask v ∧ bd_TTask v := by
  obtain ⟨x0, _, rfl, g0, h⟩ := dec_int h
  obtain ⟨x1, _, rfl, g1, h⟩ := dec_sl (fun e he => dec_i64 he) h
  obtain ⟨x2, _, rfl, g2, h⟩ := dec_sl (fun e he => dec_i64 he) h
  obtain ⟨x3, _, rfl, g3, h⟩ := dec_sl (fun e he => dec_TOperator he) h
  obtain rfl := dec_nil h
  exact ⟨⟨x0, x1, x2, x3⟩, rfl, ⟨g0, g1, g2, g3⟩⟩
def bd_Li64 (v : List Int) : Prop := (∀ a ∈ v, bd_i64 a)
theorem dec_Li64 {is : List I} (h : DecL [.sl [.int]] is) : ∃ v : List Int, is = eLi64 v ∧ bd_Li64 v := by
  obtain ⟨x0, _, rfl, g0, h⟩ := dec_sl (fun e he => dec_i64 he) h
  obtain rfl := dec_nil h
  exact ⟨x0, rfl, g0⟩
end Ab
namespace Go.Proofs.Ytfjbddjoagefkaa
open Go.ChangeShapes Go.WideShapes Go.ChangeAt Go.RowKit Ab

theorem Try.own : ownKnob Try.prog.godebug = none := by kernel_rfl
theorem Try.laidOut : laidOutB Try.prog = true := by kernel_rfl

theorem law : ∀ xs : List T, ArgsT Try.prog Try.f7.params.toList xs → FnOk Try.prog 7 xs [] fun r _ => r = .c (bool true) := by
  intro xs h
  rw [Try.params7] at h
  have hl := h.len
  match xs, hl with
  | [y0, y1, y2], _ =>
    have h2 : ArgT Try.prog 25 y0 ∧ ArgT Try.prog 22 y1 ∧ ArgT Try.prog 3 y2 ∧ True := h
    obtain ⟨⟨L0, is0, e0, d0, g0⟩, ⟨L1, is1, e1, d1, g1⟩, ⟨L2, is2, e2, d2, g2⟩, _⟩ := h2
    rw [show shapes Try.prog 9 25 = some [.int, .sl [.int], .sl [.int], .sl [.sl [.int], .sl [.int], .sl [.int], .int]] by kernel_rfl] at e0; cases e0
    obtain ⟨v0, rfl, b0⟩ := dec_TTask d0
    have k0 : y0 = .agg [int v0.facts, row 1 intI v0.init, row 1 intI v0.goal, row 4 eTOperator v0.operators] := by rw [g0]; simp only [treeOf, Try.underlying25] <;> rfl
    rw [show shapes Try.prog 9 22 = some [.sl [.int]] by kernel_rfl] at e1; cases e1
    obtain ⟨v1, rfl, b1⟩ := dec_Li64 d1
    have k1 : y1 = .c (row 1 intI v1) := by rw [g1]; simp only [treeOf, Try.underlying22] <;> rfl
    rw [show shapes Try.prog 9 3 = some [.int] by kernel_rfl] at e2; cases e2
    obtain ⟨v2, rfl, b2⟩ := dec_i64 d2
    have k2 : y2 = .c (int v2) := by rw [g2]; simp only [treeOf, Try.underlying3] <;> rfl
    subst k0 k1 k2
    exact law8_MonitorStartsPlans_ok (MonitorStartsPlans_true v0 v1 v2)

set_option maxRecDepth 100000 in
theorem lifted (os : Os) (started : os.Started) (H : Type) (enc : TypeId × Value → H) :
    ReturnsInHanded {} Try.checked os 7 .any (Rows.monitorStartsPlansSpec.pre6 enc Try.prog Try.f7 Rows.monitorStartsPlansRow.domain false) (Rows.monitorStartsPlansSpec.post enc Try.prog Try.f7 false true false false) := by
  refine returnsInHanded_of_change (C := Try.checked) Try.own started (by kernel_rfl) Try.func7
    (ChangeSpec.witness6 (enc := enc) (C := Try.checked) false ⟨#[], #[.agg #[.int .i64 0, .slice none 0 0, .slice none 0 0, .slice none 0 0], .slice none 0 0, .int .i64 0], []⟩ 8 (by kernel_rfl) (by kernel_rfl) (by kernel_rfl) (by kernel_rfl)) ?_
  intro W base args ds gs before hval hW _ _
  refine law_contract (tb := 4) Try.laidOut (fun t ht => ?_) rfl (by kernel_rfl) Try.underlying4 (fun ds hds => ?_) law hval hW
  · rw [Try.params7] at ht
    revert t
    exact of_decide_eq_true (by kernel_rfl)
  · rw [Try.params7] at hds
    match ds, hds with
    | [_, _, _], _ => rfl

theorem holds : Rows.MonitorStartsPlansSaid :=
  OpenClaim.holds_of_wide 7 Try.f7 rfl rfl rfl rfl rfl rfl rfl ⟨rfl, rfl, rfl, rfl, rfl⟩ rfl rfl rfl rfl rfl (by kernel_rfl) Try.func7 (by kernel_rfl)
    (of_decide_eq_true (by kernel_rfl)) (by unfold Func.isWrapper; first | (rw [if_pos (by decide +kernel)]; kernel_rfl) | (rw [if_neg (by decide +kernel)]; exact ⟨rfl, rfl⟩))
    (fun os started H enc _ => lifted os started H enc)
end Go.Proofs.Ytfjbddjoagefkaa
