/- ValidatePolicy and Follow return what the reference says, for all policies, whatever values of their types come in. -/
import Derived.Test.YtkfjghcojgmemaaKRwOpenPol5
import Derived.Test.YtkfjghcojgmemaaRows
namespace Ab
open Go Go.Proofs
def bd_i64 (v : Int) : Prop := (-9223372036854775808 ≤ v ∧ v ≤ 9223372036854775807)
theorem dec_i64 {is : List I} (h : DecL [.int] is) : ∃ v : Int, is = intI v ∧ bd_i64 v := by
  obtain ⟨x0, _, rfl, g0, h⟩ := dec_int h
  obtain rfl := dec_nil h
  exact ⟨x0, rfl, g0⟩
def bd_TOutcome (v : TOutcome) : Prop := (v.add.length * 8 ≤ 140737488355328 ∧ ∀ a ∈ v.add, bd_i64 a) ∧ (v.del.length * 8 ≤ 140737488355328 ∧ ∀ a ∈ v.del, bd_i64 a) ∧ (-9223372036854775808 ≤ v.weight ∧ v.weight ≤ 9223372036854775807)
theorem dec_TOutcome {is : List I} (h : DecL [.sl [.int] 8, .sl [.int] 8, .int] is) : ∃ v : TOutcome, is = eTOutcome v ∧ bd_TOutcome v := by
  obtain ⟨x0, _, rfl, g0, h⟩ := dec_sl (fun e he => dec_i64 he) h
  obtain ⟨x1, _, rfl, g1, h⟩ := dec_sl (fun e he => dec_i64 he) h
  obtain ⟨x2, _, rfl, g2, h⟩ := dec_int h
  obtain rfl := dec_nil h
  exact ⟨⟨x0, x1, x2⟩, rfl, ⟨g0, g1, g2⟩⟩
def bd_TOpenOperator (v : TOpenOperator) : Prop := (v.pre.length * 8 ≤ 140737488355328 ∧ ∀ a ∈ v.pre, bd_i64 a) ∧ (v.outcomes.length * 56 ≤ 140737488355328 ∧ ∀ a ∈ v.outcomes, bd_TOutcome a) ∧ (-9223372036854775808 ≤ v.cost ∧ v.cost ≤ 9223372036854775807)
theorem dec_TOpenOperator {is : List I} (h : DecL [.sl [.int] 8, .sl [.sl [.int] 8, .sl [.int] 8, .int] 56, .int] is) : ∃ v : TOpenOperator, is = eTOpenOperator v ∧ bd_TOpenOperator v := by
  obtain ⟨x0, _, rfl, g0, h⟩ := dec_sl (fun e he => dec_i64 he) h
  obtain ⟨x1, _, rfl, g1, h⟩ := dec_sl (fun e he => dec_TOutcome he) h
  obtain ⟨x2, _, rfl, g2, h⟩ := dec_int h
  obtain rfl := dec_nil h
  exact ⟨⟨x0, x1, x2⟩, rfl, ⟨g0, g1, g2⟩⟩
def bd_TOpenTask (v : TOpenTask) : Prop := (-9223372036854775808 ≤ v.facts ∧ v.facts ≤ 9223372036854775807) ∧ (v.init.length * 8 ≤ 140737488355328 ∧ ∀ a ∈ v.init, bd_i64 a) ∧ (v.goal.length * 8 ≤ 140737488355328 ∧ ∀ a ∈ v.goal, bd_i64 a) ∧ (v.operators.length * 56 ≤ 140737488355328 ∧ ∀ a ∈ v.operators, bd_TOpenOperator a)
theorem dec_TOpenTask {is : List I} (h : DecL [.int, .sl [.int] 8, .sl [.int] 8, .sl [.sl [.int] 8, .sl [.sl [.int] 8, .sl [.int] 8, .int] 56, .int] 56] is) : ∃ v : TOpenTask, is = eTOpenTask v ∧ bd_TOpenTask v := by
  obtain ⟨x0, _, rfl, g0, h⟩ := dec_int h
  obtain ⟨x1, _, rfl, g1, h⟩ := dec_sl (fun e he => dec_i64 he) h
  obtain ⟨x2, _, rfl, g2, h⟩ := dec_sl (fun e he => dec_i64 he) h
  obtain ⟨x3, _, rfl, g3, h⟩ := dec_sl (fun e he => dec_TOpenOperator he) h
  obtain rfl := dec_nil h
  exact ⟨⟨x0, x1, x2, x3⟩, rfl, ⟨g0, g1, g2, g3⟩⟩
def bd_TChoice (v : TChoice) : Prop := (v.state.length * 8 ≤ 140737488355328 ∧ ∀ a ∈ v.state, bd_i64 a) ∧ (-9223372036854775808 ≤ v.operator ∧ v.operator ≤ 9223372036854775807)
theorem dec_TChoice {is : List I} (h : DecL [.sl [.int] 8, .int] is) : ∃ v : TChoice, is = eTChoice v ∧ bd_TChoice v := by
  obtain ⟨x0, _, rfl, g0, h⟩ := dec_sl (fun e he => dec_i64 he) h
  obtain ⟨x1, _, rfl, g1, h⟩ := dec_int h
  obtain rfl := dec_nil h
  exact ⟨⟨x0, x1⟩, rfl, ⟨g0, g1⟩⟩
def bd_LTChoice (v : List TChoice) : Prop := (v.length * 32 ≤ 140737488355328 ∧ ∀ a ∈ v, bd_TChoice a)
theorem dec_LTChoice {is : List I} (h : DecL [.sl [.sl [.int] 8, .int] 32] is) : ∃ v : List TChoice, is = eLTChoice v ∧ bd_LTChoice v := by
  obtain ⟨x0, _, rfl, g0, h⟩ := dec_sl (fun e he => dec_TChoice he) h
  obtain rfl := dec_nil h
  exact ⟨x0, rfl, g0⟩
def bd_Li64 (v : List Int) : Prop := (v.length * 8 ≤ 140737488355328 ∧ ∀ a ∈ v, bd_i64 a)
theorem dec_Li64 {is : List I} (h : DecL [.sl [.int] 8] is) : ∃ v : List Int, is = eLi64 v ∧ bd_Li64 v := by
  obtain ⟨x0, _, rfl, g0, h⟩ := dec_sl (fun e he => dec_i64 he) h
  obtain rfl := dec_nil h
  exact ⟨x0, rfl, g0⟩
end Ab
namespace Go.Proofs.Ytkfjghcojgmemaa
open Go.ChangeShapes Go.WideShapes Go.ChangeAt Go.RowKit Ab
theorem Try.own : ownKnob Try.prog.godebug = none := by kernel_rfl
theorem Try.laidOut : laidOutB Try.prog = true := by kernel_rfl
theorem law : ∀ xs : List T, ArgsT Try.prog Try.f3.params.toList xs → FnOk Try.prog 3 xs [] fun r _ => r = .c (bool true) := by
  intro xs h
  rw [Try.params3] at h
  have hl := h.len
  match xs, hl with
  | [y0, y1, y2], _ =>
    have h2 : ArgT Try.prog 25 y0 ∧ ArgT Try.prog 26 y1 ∧ ArgT Try.prog 22 y2 ∧ True := h
    obtain ⟨⟨L0, is0, e0, d0, g0⟩, ⟨L1, is1, e1, d1, g1⟩, ⟨L2, is2, e2, d2, g2⟩, _⟩ := h2
    rw [show shapes Try.prog 9 25 = some [.int, .sl [.int] 8, .sl [.int] 8, .sl [.sl [.int] 8, .sl [.sl [.int] 8, .sl [.int] 8, .int] 56, .int] 56] by kernel_rfl] at e0; cases e0
    obtain ⟨v0, rfl, b0⟩ := dec_TOpenTask d0
    have k0 : y0 = .agg [int v0.facts, row 1 intI v0.init, row 1 intI v0.goal, row 3 eTOpenOperator v0.operators] := by rw [g0]; simp only [treeOf, Try.underlying25] <;> rfl
    rw [show shapes Try.prog 9 26 = some [.sl [.sl [.int] 8, .int] 32] by kernel_rfl] at e1; cases e1
    obtain ⟨v1, rfl, b1⟩ := dec_LTChoice d1
    have k1 : y1 = .c (row 2 eTChoice v1) := by rw [g1]; simp only [treeOf, Try.underlying26] <;> rfl
    rw [show shapes Try.prog 9 22 = some [.sl [.int] 8] by kernel_rfl] at e2; cases e2
    obtain ⟨v2, rfl, b2⟩ := dec_Li64 d2
    have k2 : y2 = .c (row 1 intI v2) := by rw [g2]; simp only [treeOf, Try.underlying22] <;> rfl
    subst k0 k1 k2
    exact law8_OpenPolicyMatchesSpec_ok (OpenPolicyMatchesSpec_true v0 v1 v2)
set_option maxRecDepth 100000 in
theorem lifted (os : Os) (started : os.Started) (H : Type) (enc : TypeId × Value → H) :
    ReturnsInHanded {} Try.checked os 3 .any (Rows.openPolicyMatchesSpecSpec.pre6 enc Try.prog Try.f3 Rows.openPolicyMatchesSpecRow.domain false) (Rows.openPolicyMatchesSpecSpec.post enc Try.prog Try.f3 false true false false) := by
  have e : (Rows.openPolicyMatchesSpecSpec.pre6 enc Try.prog Try.f3 Rows.openPolicyMatchesSpecRow.domain false) = fun w args => (Rows.openPolicyMatchesSpecSpec.pre enc Try.prog Try.f3 Rows.openPolicyMatchesSpecRow.domain false w args ∧ True) ∧ sizedMet enc Try.prog Try.f3 (OpenSpec.ofChange Rows.openPolicyMatchesSpecSpec) false w args := by
    funext w args
    exact propext ⟨fun h => ⟨⟨h.1, trivial⟩, h.2⟩, fun h => ⟨h.1.1, h.2⟩⟩
  rw [e]
  refine returnsInHanded_of_change_and (C := Try.checked) (X := fun _ _ => True) (fun _ _ _ _ _ => trivial) Try.own started (by kernel_rfl) Try.func3 ?_ ?_
  · obtain ⟨w, tape, i, h1, h2, h3, h4, ⟨hp, hs⟩, h5⟩ := ChangeSpec.witness6 (os := os) (enc := enc) (C := Try.checked) (f := 3) (fn := Try.f3) (s := Rows.openPolicyMatchesSpecSpec) (conds := Rows.openPolicyMatchesSpecRow.domain) (apart := false) false ⟨#[], #[.agg #[.int .i64 0, .slice none 0 0, .slice none 0 0, .slice none 0 0], .slice none 0 0, .slice none 0 0], []⟩ 8 (by kernel_rfl) (by kernel_rfl) (by kernel_rfl) (by kernel_rfl)
    exact ⟨w, tape, i, h1, h2, h3, h4, ⟨⟨hp, trivial⟩, hs⟩, h5⟩
  intro W base args ds gs before hval hW _ hz _ _
  refine law_contract (tb := 4) Try.laidOut (fun t ht => ?_) rfl (by kernel_rfl) Try.underlying4 (fun ds hds => ?_) law hz hval hW
  · rw [Try.params3] at ht
    revert t
    exact of_decide_eq_true (by kernel_rfl)
  · rw [Try.params3] at hds
    match ds, hds with
    | [_, _, _], _ => rfl
theorem holds : Rows.OpenPolicyMatchesSpecSaid :=
  OpenClaim.holds_of_wide 3 Try.f3 rfl rfl rfl rfl rfl rfl rfl ⟨rfl, rfl, rfl, rfl, rfl⟩ rfl rfl rfl rfl rfl (by kernel_rfl) Try.func3 (by kernel_rfl)
    (of_decide_eq_true (by kernel_rfl)) (by unfold Func.isWrapper; first | (rw [if_pos (by decide +kernel)]; kernel_rfl) | (rw [if_neg (by decide +kernel)]; exact ⟨rfl, rfl⟩))
    (fun os started H enc _ => lifted os started H enc)
end Go.Proofs.Ytkfjghcojgmemaa
