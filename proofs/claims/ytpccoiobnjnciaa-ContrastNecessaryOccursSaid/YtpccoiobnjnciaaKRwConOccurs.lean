/- ContrastNecessaryOccurs: every plan that solves the task contains all necessary operators, whatever values of their types come in. -/
import Derived.Test.YtpccoiobnjnciaaKRwConOccurs6
import Derived.Test.YtpccoiobnjnciaaRows
namespace Ab
open Go Go.Proofs
def bd_i64 (v : Int) : Prop := (-9223372036854775808 ≤ v ∧ v ≤ 9223372036854775807)
theorem aa8 {is : List I} (h : DecL [.int] is) : ∃ v : Int, is = intI v ∧ bd_i64 v := by
  obtain ⟨x0, _, rfl, g0, h⟩ := dec_int h
  obtain rfl := dec_nil h
  exact ⟨x0, rfl, g0⟩
def ai5 (v : e6) : Prop := (v.pre.length * 8 ≤ 140737488355328 ∧ ∀ a ∈ v.pre, bd_i64 a) ∧ (v.add.length * 8 ≤ 140737488355328 ∧ ∀ a ∈ v.add, bd_i64 a) ∧ (v.del.length * 8 ≤ 140737488355328 ∧ ∀ a ∈ v.del, bd_i64 a) ∧ (-9223372036854775808 ≤ v.cost ∧ v.cost ≤ 9223372036854775807)
theorem dec_TOperator {is : List I} (h : DecL [.sl [.int] 8, .sl [.int] 8, .sl [.int] 8, .int] is) : ∃ v : e6, is = i6 v ∧ ai5 v := by
  obtain ⟨x0, _, rfl, g0, h⟩ := dec_sl (fun e he => aa8 he) h
  obtain ⟨x1, _, rfl, g1, h⟩ := dec_sl (fun e he => aa8 he) h
  obtain ⟨x2, _, rfl, g2, h⟩ := dec_sl (fun e he => aa8 he) h
  obtain ⟨x3, _, rfl, g3, h⟩ := dec_int h
  obtain rfl := dec_nil h
  exact ⟨⟨x0, x1, x2, x3⟩, rfl, ⟨g0, g1, g2, g3⟩⟩
def bd_TTask (v : d7) : Prop := (-9223372036854775808 ≤ v.facts ∧ v.facts ≤ 9223372036854775807) ∧ (v.init.length * 8 ≤ 140737488355328 ∧ ∀ a ∈ v.init, bd_i64 a) ∧ (v.goal.length * 8 ≤ 140737488355328 ∧ ∀ a ∈ v.goal, bd_i64 a) ∧ (v.operators.length * 80 ≤ 140737488355328 ∧ ∀ a ∈ v.operators, ai5 a)
theorem dec_TTask {is : List I} (h : DecL [.int, .sl [.int] 8, .sl [.int] 8, .sl [.sl [.int] 8, .sl [.int] 8, .sl [.int] 8, .int] 80] is) : ∃ v : d7, is = eTTask v ∧ bd_TTask v := by
  obtain ⟨x0, _, rfl, g0, h⟩ := dec_int h
  obtain ⟨x1, _, rfl, g1, h⟩ := dec_sl (fun e he => aa8 he) h
  obtain ⟨x2, _, rfl, g2, h⟩ := dec_sl (fun e he => aa8 he) h
  obtain ⟨x3, _, rfl, g3, h⟩ := dec_sl (fun e he => dec_TOperator he) h
  obtain rfl := dec_nil h
  exact ⟨⟨x0, x1, x2, x3⟩, rfl, ⟨g0, g1, g2, g3⟩⟩
def bd_Li64 (v : List Int) : Prop := (v.length * 8 ≤ 140737488355328 ∧ ∀ a ∈ v, bd_i64 a)
theorem dec_Li64 {is : List I} (h : DecL [.sl [.int] 8] is) : ∃ v : List Int, is = eLi64 v ∧ bd_Li64 v := by
  obtain ⟨x0, _, rfl, g0, h⟩ := dec_sl (fun e he => aa8 he) h
  obtain rfl := dec_nil h
  exact ⟨x0, rfl, g0⟩
end Ab
namespace Go.Proofs.Ytpccoiobnjnciaa
open Go.ChangeShapes Go.WideShapes Go.ChangeAt Go.RowKit Ab
theorem Try.own : ownKnob Try.prog.godebug = none := by kernel_rfl
theorem Try.laidOut : laidOutB Try.prog = true := by kernel_rfl
theorem law : ∀ xs : List T, ArgsT Try.prog Try.f8.params.toList xs → FnOk Try.prog 8 xs [] fun r _ => r = .c (bool true) := by
  intro xs h
  rw [Try.params8] at h
  have hl := h.len
  match xs, hl with
  | [y0, y1], _ =>
    have h2 : ArgT Try.prog 25 y0 ∧ ArgT Try.prog 22 y1 ∧ True := h
    obtain ⟨⟨L0, is0, e0, d0, g0⟩, ⟨L1, is1, e1, d1, g1⟩, _⟩ := h2
    rw [show I8 Try.prog 9 25 = some [.int, .sl [.int] 8, .sl [.int] 8, .sl [.sl [.int] 8, .sl [.int] 8, .sl [.int] 8, .int] 80] by kernel_rfl] at e0; cases e0
    obtain ⟨v0, rfl, b0⟩ := dec_TTask d0
    have k0 : y0 = .agg [int v0.facts, row 1 intI v0.init, row 1 intI v0.goal, row 4 i6 v0.operators] := by rw [g0]; simp only [I1, Try.underlying25] <;> rfl
    rw [show I8 Try.prog 9 22 = some [.sl [.int] 8] by kernel_rfl] at e1; cases e1
    obtain ⟨v1, rfl, b1⟩ := dec_Li64 d1
    have k1 : y1 = .c (row 1 intI v1) := by rw [g1]; simp only [I1, Try.underlying22] <;> rfl
    subst k0 k1
    exact T1 (W5 v0 v1)
set_option maxRecDepth 100000 in
theorem lifted (os : Os) (started : os.Started) (H : Type) (enc : TypeId × Value → H) :
    ReturnsInHanded {} Try.checked os 8 .any (Rows.contrastNecessaryOccursSpec.pre6 enc Try.prog Try.f8 Rows.contrastNecessaryOccursRow.domain false) (Rows.contrastNecessaryOccursSpec.post enc Try.prog Try.f8 false true false false) := by
  have e : (Rows.contrastNecessaryOccursSpec.pre6 enc Try.prog Try.f8 Rows.contrastNecessaryOccursRow.domain false) = fun w args => (Rows.contrastNecessaryOccursSpec.pre enc Try.prog Try.f8 Rows.contrastNecessaryOccursRow.domain false w args ∧ True) ∧ sizedMet enc Try.prog Try.f8 (OpenSpec.ofChange Rows.contrastNecessaryOccursSpec) false w args := by
    funext w args
    exact propext ⟨fun h => ⟨⟨h.1, trivial⟩, h.2⟩, fun h => ⟨h.1.1, h.2⟩⟩
  rw [e]
  refine returnsInHanded_of_change_and (C := Try.checked) (X := fun _ _ => True) (fun _ _ _ _ _ => trivial) Try.own started (by kernel_rfl) Try.func8 ?_ ?_
  · obtain ⟨w, tape, i, h1, h2, h3, h4, ⟨hp, hs⟩, h5⟩ := ChangeSpec.witness6 (os := os) (enc := enc) (C := Try.checked) (f := 8) (fn := Try.f8) (s := Rows.contrastNecessaryOccursSpec) (conds := Rows.contrastNecessaryOccursRow.domain) (apart := false) false ⟨#[], #[.agg #[.int .i64 0, .slice none 0 0, .slice none 0 0, .slice none 0 0], .slice none 0 0], []⟩ 8 (by kernel_rfl) (by kernel_rfl) (by kernel_rfl) (by kernel_rfl)
    exact ⟨w, tape, i, h1, h2, h3, h4, ⟨⟨hp, trivial⟩, hs⟩, h5⟩
  intro W base args ds gs before hval hW _ hz _ _
  refine law_contract (tb := 4) Try.laidOut (fun t ht => ?_) rfl (by kernel_rfl) Try.underlying4 (fun ds hds => ?_) law hz hval hW
  · rw [Try.params8] at ht
    revert t
    exact of_decide_eq_true (by kernel_rfl)
  · rw [Try.params8] at hds
    match ds, hds with
    | [_, _], _ => rfl
theorem holds : Rows.ContrastNecessaryOccursSaid :=
  OpenClaim.holds_of_wide 8 Try.f8 rfl rfl rfl rfl rfl rfl rfl ⟨rfl, rfl, rfl, rfl, rfl⟩ rfl rfl rfl rfl rfl (by kernel_rfl) Try.func8 (by kernel_rfl)
    (of_decide_eq_true (by kernel_rfl)) (by unfold Func.isWrapper; first | (rw [if_pos (by decide +kernel)]; kernel_rfl) | (rw [if_neg (by decide +kernel)]; exact ⟨rfl, rfl⟩))
    (fun os started H enc _ => lifted os started H enc)
end Go.Proofs.Ytpccoiobnjnciaa
