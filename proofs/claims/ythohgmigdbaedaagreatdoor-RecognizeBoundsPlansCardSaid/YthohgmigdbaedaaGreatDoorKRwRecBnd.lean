/- A plan that solves the task costs at least what explaining a run of its steps costs, whatever values of their types come in. -/
import Derived.Test.YthohgmigdbaedaaGreatDoorKRwRecBnd5
import Derived.Test.YthohgmigdbaedaaGreatDoorRows
import Derived.Test.YthohgmigdbaedaaGreatDoorCards
import Derived.Test.YthohgmigdbaedaaGreatDoorTie
import Derived.LaidMore
import Derived.SevenTiedAt
namespace Ab
open Go Go.Proofs
def bd_i64 (v : Int) : Prop := (-9223372036854775808 ≤ v ∧ v ≤ 9223372036854775807)
theorem Q1 {is : List I} (h : DecL [.int] is) : ∃ v : Int, is = intI v ∧ bd_i64 v := by
  obtain ⟨x0, _, rfl, g0, h⟩ := dec_int h
  obtain rfl := dec_nil h
  exact ⟨x0, rfl, g0⟩
def ae4 (v : g9) : Prop := (v.pre.length * 8 ≤ 140737488355328 ∧ ∀ a ∈ v.pre, bd_i64 a) ∧ (v.add.length * 8 ≤ 140737488355328 ∧ ∀ a ∈ v.add, bd_i64 a) ∧ (v.del.length * 8 ≤ 140737488355328 ∧ ∀ a ∈ v.del, bd_i64 a) ∧ (-9223372036854775808 ≤ v.cost ∧ v.cost ≤ 9223372036854775807)
theorem dec_TOperator {is : List I} (h : DecL [.sl [.int] 8, .sl [.int] 8, .sl [.int] 8, .int] is) : ∃ v : g9, is = n4 v ∧ ae4 v := by
  obtain ⟨x0, _, rfl, g0, h⟩ := dec_sl (fun e he => Q1 he) h
  obtain ⟨x1, _, rfl, g1, h⟩ := dec_sl (fun e he => Q1 he) h
  obtain ⟨x2, _, rfl, g2, h⟩ := dec_sl (fun e he => Q1 he) h
  obtain ⟨x3, _, rfl, g3, h⟩ := dec_int h
  obtain rfl := dec_nil h
  exact ⟨⟨x0, x1, x2, x3⟩, rfl, ⟨g0, g1, g2, g3⟩⟩
def bd_TTask (v : e8) : Prop := (-9223372036854775808 ≤ v.facts ∧ v.facts ≤ 9223372036854775807) ∧ (v.init.length * 8 ≤ 140737488355328 ∧ ∀ a ∈ v.init, bd_i64 a) ∧ (v.goal.length * 8 ≤ 140737488355328 ∧ ∀ a ∈ v.goal, bd_i64 a) ∧ (v.operators.length * 80 ≤ 140737488355328 ∧ ∀ a ∈ v.operators, ae4 a)
theorem dec_TTask {is : List I} (h : DecL [.int, .sl [.int] 8, .sl [.int] 8, .sl [.sl [.int] 8, .sl [.int] 8, .sl [.int] 8, .int] 80] is) : ∃ v : e8, is = eTTask v ∧ bd_TTask v := by
  obtain ⟨x0, _, rfl, g0, h⟩ := dec_int h
  obtain ⟨x1, _, rfl, g1, h⟩ := dec_sl (fun e he => Q1 he) h
  obtain ⟨x2, _, rfl, g2, h⟩ := dec_sl (fun e he => Q1 he) h
  obtain ⟨x3, _, rfl, g3, h⟩ := dec_sl (fun e he => dec_TOperator he) h
  obtain rfl := dec_nil h
  exact ⟨⟨x0, x1, x2, x3⟩, rfl, ⟨g0, g1, g2, g3⟩⟩
def bd_Li64 (v : List Int) : Prop := (v.length * 8 ≤ 140737488355328 ∧ ∀ a ∈ v, bd_i64 a)
theorem dec_Li64 {is : List I} (h : DecL [.sl [.int] 8] is) : ∃ v : List Int, is = f7 v ∧ bd_Li64 v := by
  obtain ⟨x0, _, rfl, g0, h⟩ := dec_sl (fun e he => Q1 he) h
  obtain rfl := dec_nil h
  exact ⟨x0, rfl, g0⟩
end Ab
namespace Go.Proofs.YthohgmigdbaedaaGreatDoor
open Go.ChangeShapes Go.WideShapes Go.ChangeAt Go.RowKit Ab
theorem Tryz.own : ownKnob Tryz.prog.godebug = none := by kernel_rfl
theorem Tryz.laidOut : laidOutB Tryz.prog = true := by kernel_rfl
theorem law : ∀ xs : List T, ArgsT Tryz.prog Tryz.f6.params.toList xs → FnOk Tryz.prog 6 xs [] fun r _ => r = .c (bool true) := by
  intro xs h
  rw [Tryz.params6] at h
  have hl := h.len
  match xs, hl with
  | [y0, y1, y2, y3], _ =>
    have h2 : ArgT Tryz.prog 25 y0 ∧ ArgT Tryz.prog 22 y1 ∧ ArgT Tryz.prog 3 y2 ∧ ArgT Tryz.prog 3 y3 ∧ True := h
    obtain ⟨⟨L0, is0, e0, d0, g0⟩, ⟨L1, is1, e1, d1, g1⟩, ⟨L2, is2, e2, d2, g2⟩, ⟨L3, is3, e3, d3, g3⟩, _⟩ := h2
    rw [show E2 Tryz.prog 9 25 = some [.int, .sl [.int] 8, .sl [.int] 8, .sl [.sl [.int] 8, .sl [.int] 8, .sl [.int] 8, .int] 80] by kernel_rfl] at e0; cases e0
    obtain ⟨v0, rfl, b0⟩ := dec_TTask d0
    have k0 : y0 = .agg [int v0.facts, row 1 intI v0.init, row 1 intI v0.goal, row 4 n4 v0.operators] := by rw [g0]; simp only [D1, Tryz.underlying25] <;> rfl
    rw [show E2 Tryz.prog 9 22 = some [.sl [.int] 8] by kernel_rfl] at e1; cases e1
    obtain ⟨v1, rfl, b1⟩ := dec_Li64 d1
    have k1 : y1 = .c (row 1 intI v1) := by rw [g1]; simp only [D1, Tryz.underlying22] <;> rfl
    rw [show E2 Tryz.prog 9 3 = some [.int] by kernel_rfl] at e2; cases e2
    obtain ⟨v2, rfl, b2⟩ := Q1 d2
    have k2 : y2 = .c (int v2) := by rw [g2]; simp only [D1, Tryz.underlying3] <;> rfl
    rw [show E2 Tryz.prog 9 3 = some [.int] by kernel_rfl] at e3; cases e3
    obtain ⟨v3, rfl, b3⟩ := Q1 d3
    have k3 : y3 = .c (int v3) := by rw [g3]; simp only [D1, Tryz.underlying3] <;> rfl
    subst k0 k1 k2 k3
    exact T4 (W9 v0 v1 v2 v3)
theorem door_met (os : Os) (args : Array Value) : laidMetH Tryz.prog Rows.recognizeBoundsPlansRow.laid ((World.doorLaid Tryz.prog 4000 os).forCall (fun _ _ => 0) ⟨#[], args, []⟩).memory :=
  laidMetH_of_parts3 (fuel := 8) (laidMet_of_run' 8 (by kernel_rfl) (by kernel_rfl)) (by kernel_rfl) (by kernel_rfl)
set_option maxRecDepth 100000 in
theorem lifted (os : Os) (started : os.Started) (H : Type) (enc : TypeId × Value → H) :
    ReturnsInHanded {} Tryz.checked os 6 .any (fun w args => (Rows.recognizeBoundsPlansSpec.pre enc Tryz.prog Tryz.f6 Rows.recognizeBoundsPlansRow.domain false w args ∧ laidMetH Tryz.prog Rows.recognizeBoundsPlansRow.laid w) ∧ sizedMet enc Tryz.prog Tryz.f6 (OpenSpec.ofChange Rows.recognizeBoundsPlansSpec) false w args) (Rows.recognizeBoundsPlansSpec.post enc Tryz.prog Tryz.f6 false true false false) := by
  refine returnsInHanded_of_change_and (C := Tryz.checked) (X := fun w _ => laidMetH Tryz.prog Rows.recognizeBoundsPlansRow.laid w) (fun _ _ _ hh h => h.of_heap hh) Tryz.own started (by kernel_rfl) Tryz.func6
    (ChangeSpec.witness_shaped (enc := enc) (C := Tryz.checked) (os := os) (X := fun w _ => laidMetH Tryz.prog Rows.recognizeBoundsPlansRow.laid w) false (World.doorLaid Tryz.prog 4000 os) #[.agg #[.int .i64 0, .slice none 0 0, .slice none 0 0, .slice none 0 0], .slice none 0 0, .int .i64 0, .int .i64 0] 8 rfl (World.shaped_of_RefB (by kernel_rfl) (by kernel_rfl)) (by kernel_rfl) (by kernel_rfl) (by kernel_rfl) (door_met os _)) ?_
  intro W base args ds gs before hval hW _ hz _ _
  refine law_contract (tb := 4) Tryz.laidOut (fun t ht => ?_) rfl (by kernel_rfl) Tryz.underlying4 (fun ds hds => ?_) law hz hval hW
  · rw [Tryz.params6] at ht
    revert t
    exact of_decide_eq_true (by kernel_rfl)
  · rw [Tryz.params6] at hds
    match ds, hds with
    | [_, _, _, _], _ => rfl
theorem rowHolds : Rows.RecognizeBoundsPlansSaid :=
  OpenClaim.holds_of_wide 6 Tryz.f6 rfl rfl rfl rfl rfl rfl rfl ⟨rfl, rfl, rfl, rfl, rfl⟩ rfl rfl rfl rfl rfl (by kernel_rfl) Tryz.func6 (by kernel_rfl)
    (of_decide_eq_true (by kernel_rfl)) (by unfold Func.isWrapper; first | (rw [if_pos (by decide +kernel)]; kernel_rfl) | (rw [if_neg (by decide +kernel)]; exact ⟨rfl, rfl⟩))
    (fun os started H enc _ => lifted os started H enc)
theorem holds : Rows.RecognizeBoundsPlansCardSaid :=
  Claim7.holds_tied_plain_at .later [] [.data, .data, .data] true (true, "da319ca964f2e755e042235d0d386e67df13655535af066f5d6cc98f66b17283") true
    rowHolds (fun _ h => by cases h) (by kernel_rfl) (fun _ h => by cases h) recognizeBoundsPlans_row_tie rfl ⟨rfl, rfl⟩ (by kernel_rfl) rfl
    (fun f fn hf hfn => by
      obtain rfl : f = 6 := Option.some.inj ((show Tryz.prog.funcNamed Rows.recognizeBoundsPlansRow.func = some 6 by kernel_rfl).symm.trans hf) |>.symm
      obtain rfl : fn = Tryz.f6 := (Option.some.inj (Tryz.func6.symm.trans hfn)).symm
      exact ⟨by kernel_rfl, fun j t ht => by
        rw [Tryz.params6] at ht
        have hm : t ∈ [25, 22, 3, 3] := by simpa using Array.mem_of_getElem? ht
        have hall : ([25, 22, 3, 3].all fun u => !Tryz.prog.wantsStandIn u) = true := by kernel_rfl
        exact (show Tryz.prog.wantsStandIn t = false by simpa using List.all_eq_true.1 hall t hm)⟩)
    (by kernel_rfl)
end Go.Proofs.YthohgmigdbaedaaGreatDoor
