/- ContrastNecessaryMatchesSpec: Necessary returns the operators without which the task cannot be solved, whatever values of their types come in. -/
import Derived.Test.YtpccoiobnjnciaaKRwConNec6
import Derived.Test.YtpccoiobnjnciaaRows
namespace Ab
open Go Go.Proofs
def bd_i64 (v : Int) : Prop := (-9223372036854775808 ≤ v ∧ v ≤ 9223372036854775807)
theorem dec_i64 {is : List I} (h : DecL [.int] is) : ∃ v : Int, is = intI v ∧ bd_i64 v := by
  obtain ⟨x0, _, rfl, g0, h⟩ := dec_int h
  obtain rfl := dec_nil h
  exact ⟨x0, rfl, g0⟩
def ak3 (v : f5) : Prop := (v.pre.length * 8 ≤ 140737488355328 ∧ ∀ a ∈ v.pre, bd_i64 a) ∧ (v.add.length * 8 ≤ 140737488355328 ∧ ∀ a ∈ v.add, bd_i64 a) ∧ (v.del.length * 8 ≤ 140737488355328 ∧ ∀ a ∈ v.del, bd_i64 a) ∧ (-9223372036854775808 ≤ v.cost ∧ v.cost ≤ 9223372036854775807)
theorem dec_TOperator {is : List I} (h : DecL [.sl [.int] 8, .sl [.int] 8, .sl [.int] 8, .int] is) : ∃ v : f5, is = i3 v ∧ ak3 v := by
  obtain ⟨x0, _, rfl, g0, h⟩ := dec_sl (fun e he => dec_i64 he) h
  obtain ⟨x1, _, rfl, g1, h⟩ := dec_sl (fun e he => dec_i64 he) h
  obtain ⟨x2, _, rfl, g2, h⟩ := dec_sl (fun e he => dec_i64 he) h
  obtain ⟨x3, _, rfl, g3, h⟩ := dec_int h
  obtain rfl := dec_nil h
  exact ⟨⟨x0, x1, x2, x3⟩, rfl, ⟨g0, g1, g2, g3⟩⟩
def bd_TTask (v : d9) : Prop := (-9223372036854775808 ≤ v.facts ∧ v.facts ≤ 9223372036854775807) ∧ (v.init.length * 8 ≤ 140737488355328 ∧ ∀ a ∈ v.init, bd_i64 a) ∧ (v.goal.length * 8 ≤ 140737488355328 ∧ ∀ a ∈ v.goal, bd_i64 a) ∧ (v.operators.length * 80 ≤ 140737488355328 ∧ ∀ a ∈ v.operators, ak3 a)
theorem dec_TTask {is : List I} (h : DecL [.int, .sl [.int] 8, .sl [.int] 8, .sl [.sl [.int] 8, .sl [.int] 8, .sl [.int] 8, .int] 80] is) : ∃ v : d9, is = eTTask v ∧ bd_TTask v := by
  obtain ⟨x0, _, rfl, g0, h⟩ := dec_int h
  obtain ⟨x1, _, rfl, g1, h⟩ := dec_sl (fun e he => dec_i64 he) h
  obtain ⟨x2, _, rfl, g2, h⟩ := dec_sl (fun e he => dec_i64 he) h
  obtain ⟨x3, _, rfl, g3, h⟩ := dec_sl (fun e he => dec_TOperator he) h
  obtain rfl := dec_nil h
  exact ⟨⟨x0, x1, x2, x3⟩, rfl, ⟨g0, g1, g2, g3⟩⟩
end Ab
namespace Go.Proofs.Ytpccoiobnjnciaa
open Go.ChangeShapes Go.WideShapes Go.ChangeAt Go.RowKit Ab
theorem Try.own : ownKnob Try.prog.godebug = none := by kernel_rfl
theorem Try.laidOut : laidOutB Try.prog = true := by kernel_rfl
theorem law : ∀ xs : List T, ArgsT Try.prog Try.f6.params.toList xs → FnOk Try.prog 6 xs [] fun r _ => r = .c (bool true) := by
  intro xs h
  rw [Try.params6] at h
  have hl := h.len
  match xs, hl with
  | [y0], _ =>
    have h2 : ArgT Try.prog 25 y0 ∧ True := h
    obtain ⟨⟨L0, is0, e0, d0, g0⟩, _⟩ := h2
    rw [show M3 Try.prog 9 25 = some [.int, .sl [.int] 8, .sl [.int] 8, .sl [.sl [.int] 8, .sl [.int] 8, .sl [.int] 8, .int] 80] by kernel_rfl] at e0; cases e0
    obtain ⟨v0, rfl, b0⟩ := dec_TTask d0
    have k0 : y0 = .agg [int v0.facts, row 1 intI v0.init, row 1 intI v0.goal, row 4 i3 v0.operators] := by rw [g0]; simp only [K3, Try.underlying25] <;> rfl
    subst k0
    exact P5 (S1 v0)
set_option maxRecDepth 100000 in
theorem lifted (os : Os) (started : os.Started) (H : Type) (enc : TypeId × Value → H) :
    ReturnsInHanded {} Try.checked os 6 .any (Rows.contrastNecessaryMatchesSpecSpec.pre6 enc Try.prog Try.f6 Rows.contrastNecessaryMatchesSpecRow.domain false) (Rows.contrastNecessaryMatchesSpecSpec.post enc Try.prog Try.f6 false true false false) := by
  have e : (Rows.contrastNecessaryMatchesSpecSpec.pre6 enc Try.prog Try.f6 Rows.contrastNecessaryMatchesSpecRow.domain false) = fun w args => (Rows.contrastNecessaryMatchesSpecSpec.pre enc Try.prog Try.f6 Rows.contrastNecessaryMatchesSpecRow.domain false w args ∧ True) ∧ sizedMet enc Try.prog Try.f6 (OpenSpec.ofChange Rows.contrastNecessaryMatchesSpecSpec) false w args := by
    funext w args
    exact propext ⟨fun h => ⟨⟨h.1, trivial⟩, h.2⟩, fun h => ⟨h.1.1, h.2⟩⟩
  rw [e]
  refine returnsInHanded_of_change_and (C := Try.checked) (X := fun _ _ => True) (fun _ _ _ _ _ => trivial) Try.own started (by kernel_rfl) Try.func6 ?_ ?_
  · obtain ⟨w, tape, i, h1, h2, h3, h4, ⟨hp, hs⟩, h5⟩ := ChangeSpec.witness6 (os := os) (enc := enc) (C := Try.checked) (f := 6) (fn := Try.f6) (s := Rows.contrastNecessaryMatchesSpecSpec) (conds := Rows.contrastNecessaryMatchesSpecRow.domain) (apart := false) false ⟨#[], #[.agg #[.int .i64 0, .slice none 0 0, .slice none 0 0, .slice none 0 0]], []⟩ 8 (by kernel_rfl) (by kernel_rfl) (by kernel_rfl) (by kernel_rfl)
    exact ⟨w, tape, i, h1, h2, h3, h4, ⟨⟨hp, trivial⟩, hs⟩, h5⟩
  intro W base args ds gs before hval hW _ hz _ _
  refine law_contract (tb := 4) Try.laidOut (fun t ht => ?_) rfl (by kernel_rfl) Try.underlying4 (fun ds hds => ?_) law hz hval hW
  · rw [Try.params6] at ht
    revert t
    exact of_decide_eq_true (by kernel_rfl)
  · rw [Try.params6] at hds
    match ds, hds with
    | [_], _ => rfl
theorem holds : Rows.ContrastNecessaryMatchesSpecSaid :=
  OpenClaim.holds_of_wide 6 Try.f6 rfl rfl rfl rfl rfl rfl rfl ⟨rfl, rfl, rfl, rfl, rfl⟩ rfl rfl rfl rfl rfl (by kernel_rfl) Try.func6 (by kernel_rfl)
    (of_decide_eq_true (by kernel_rfl)) (by unfold Func.isWrapper; first | (rw [if_pos (by decide +kernel)]; kernel_rfl) | (rw [if_neg (by decide +kernel)]; exact ⟨rfl, rfl⟩))
    (fun os started H enc _ => lifted os started H enc)
end Go.Proofs.Ytpccoiobnjnciaa
