/- If each plan alone reaches its goals, no steps interfere, and no step deletes a goal of another party, Merge finds turns, whatever values of their types come in. -/
import Derived.Test.YtiooehonogebkaaDoorKRwWithout5
import Derived.Test.YtiooehonogebkaaDoorRows
import Derived.Test.YtiooehonogebkaaDoorCards
import Derived.Test.YtiooehonogebkaaDoorTie
import Derived.LaidMore
import Derived.SevenTiedAt
namespace Ab
open Go Go.Proofs
def bd_i64 (v : Int) : Prop := (-9223372036854775808 ≤ v ∧ v ≤ 9223372036854775807)
theorem dec_i64 {is : List I} (h : DecL [.int] is) : ∃ v : Int, is = intI v ∧ bd_i64 v := by
  obtain ⟨x0, _, rfl, g0, h⟩ := dec_int h
  obtain rfl := dec_nil h
  exact ⟨x0, rfl, g0⟩
def bd_TOperator (v : TOperator) : Prop := (v.pre.length * 8 ≤ 140737488355328 ∧ ∀ a ∈ v.pre, bd_i64 a) ∧ (v.add.length * 8 ≤ 140737488355328 ∧ ∀ a ∈ v.add, bd_i64 a) ∧ (v.del.length * 8 ≤ 140737488355328 ∧ ∀ a ∈ v.del, bd_i64 a) ∧ (-9223372036854775808 ≤ v.cost ∧ v.cost ≤ 9223372036854775807)
theorem dec_TOperator {is : List I} (h : DecL [.sl [.int] 8, .sl [.int] 8, .sl [.int] 8, .int] is) : ∃ v : TOperator, is = eTOperator v ∧ bd_TOperator v := by
  obtain ⟨x0, _, rfl, g0, h⟩ := dec_sl (fun e he => dec_i64 he) h
  obtain ⟨x1, _, rfl, g1, h⟩ := dec_sl (fun e he => dec_i64 he) h
  obtain ⟨x2, _, rfl, g2, h⟩ := dec_sl (fun e he => dec_i64 he) h
  obtain ⟨x3, _, rfl, g3, h⟩ := dec_int h
  obtain rfl := dec_nil h
  exact ⟨⟨x0, x1, x2, x3⟩, rfl, ⟨g0, g1, g2, g3⟩⟩
def bd_TTask (v : TTask) : Prop := (-9223372036854775808 ≤ v.facts ∧ v.facts ≤ 9223372036854775807) ∧ (v.init.length * 8 ≤ 140737488355328 ∧ ∀ a ∈ v.init, bd_i64 a) ∧ (v.goal.length * 8 ≤ 140737488355328 ∧ ∀ a ∈ v.goal, bd_i64 a) ∧ (v.operators.length * 80 ≤ 140737488355328 ∧ ∀ a ∈ v.operators, bd_TOperator a)
theorem dec_TTask {is : List I} (h : DecL [.int, .sl [.int] 8, .sl [.int] 8, .sl [.sl [.int] 8, .sl [.int] 8, .sl [.int] 8, .int] 80] is) : ∃ v : TTask, is = eTTask v ∧ bd_TTask v := by
  obtain ⟨x0, _, rfl, g0, h⟩ := dec_int h
  obtain ⟨x1, _, rfl, g1, h⟩ := dec_sl (fun e he => dec_i64 he) h
  obtain ⟨x2, _, rfl, g2, h⟩ := dec_sl (fun e he => dec_i64 he) h
  obtain ⟨x3, _, rfl, g3, h⟩ := dec_sl (fun e he => dec_TOperator he) h
  obtain rfl := dec_nil h
  exact ⟨⟨x0, x1, x2, x3⟩, rfl, ⟨g0, g1, g2, g3⟩⟩
def bd_Li64 (v : List Int) : Prop := (v.length * 8 ≤ 140737488355328 ∧ ∀ a ∈ v, bd_i64 a)
theorem dec_Li64 {is : List I} (h : DecL [.sl [.int] 8] is) : ∃ v : List Int, is = eLi64 v ∧ bd_Li64 v := by
  obtain ⟨x0, _, rfl, g0, h⟩ := dec_sl (fun e he => dec_i64 he) h
  obtain rfl := dec_nil h
  exact ⟨x0, rfl, g0⟩
def bd_LLi64 (v : List (List Int)) : Prop := (v.length * 24 ≤ 140737488355328 ∧ ∀ a ∈ v, bd_Li64 a)
theorem dec_LLi64 {is : List I} (h : DecL [.sl [.sl [.int] 8] 24] is) : ∃ v : List (List Int), is = eLLi64 v ∧ bd_LLi64 v := by
  obtain ⟨x0, _, rfl, g0, h⟩ := dec_sl (fun e he => dec_Li64 he) h
  obtain rfl := dec_nil h
  exact ⟨x0, rfl, g0⟩
end Ab
namespace Go.Proofs.YtiooehonogebkaaDoor
open Go.ChangeShapes Go.WideShapes Go.ChangeAt Go.RowKit Ab
theorem Tryd.own : ownKnob Tryd.prog.godebug = none := by kernel_rfl
theorem Tryd.laidOut : laidOutB Tryd.prog = true := by kernel_rfl
theorem law : ∀ xs : List T, ArgsT Tryd.prog Tryd.f7.params.toList xs → FnOk Tryd.prog 7 xs [] fun r _ => r = .c (bool true) := by
  intro xs h
  rw [Tryd.params7] at h
  have hl := h.len
  match xs, hl with
  | [y0, y1, y2], _ =>
    have h2 : ArgT Tryd.prog 25 y0 ∧ ArgT Tryd.prog 26 y1 ∧ ArgT Tryd.prog 26 y2 ∧ True := h
    obtain ⟨⟨L0, is0, e0, d0, g0⟩, ⟨L1, is1, e1, d1, g1⟩, ⟨L2, is2, e2, d2, g2⟩, _⟩ := h2
    rw [show shapes Tryd.prog 9 25 = some [.int, .sl [.int] 8, .sl [.int] 8, .sl [.sl [.int] 8, .sl [.int] 8, .sl [.int] 8, .int] 80] by kernel_rfl] at e0; cases e0
    obtain ⟨v0, rfl, b0⟩ := dec_TTask d0
    have k0 : y0 = .agg [int v0.facts, row 1 intI v0.init, row 1 intI v0.goal, row 4 eTOperator v0.operators] := by rw [g0]; simp only [treeOf, Tryd.underlying25] <;> rfl
    rw [show shapes Tryd.prog 9 26 = some [.sl [.sl [.int] 8] 24] by kernel_rfl] at e1; cases e1
    obtain ⟨v1, rfl, b1⟩ := dec_LLi64 d1
    have k1 : y1 = .c (row 1 eLi64 v1) := by rw [g1]; simp only [treeOf, Tryd.underlying26] <;> rfl
    rw [show shapes Tryd.prog 9 26 = some [.sl [.sl [.int] 8] 24] by kernel_rfl] at e2; cases e2
    obtain ⟨v2, rfl, b2⟩ := dec_LLi64 d2
    have k2 : y2 = .c (row 1 eLi64 v2) := by rw [g2]; simp only [treeOf, Tryd.underlying26] <;> rfl
    subst k0 k1 k2
    exact law8_MergingWithoutConflicts_ok (MergingWithoutConflicts_true v0 v1 v2 b2.1)
theorem door_met (os : Os) (args : Array Value) : laidMetH Tryd.prog Rows.mergingWithoutConflictsRow.laid ((World.doorLaid Tryd.prog 4000 os).forCall (fun _ _ => 0) ⟨#[], args, []⟩).memory :=
  laidMetH_of_parts3 (fuel := 8) (laidMet_of_run' 8 (by kernel_rfl) (by kernel_rfl)) (by kernel_rfl) (by kernel_rfl)
set_option maxRecDepth 100000 in
theorem lifted (os : Os) (started : os.Started) (H : Type) (enc : TypeId × Value → H) :
    ReturnsInHanded {} Tryd.checked os 7 .any (fun w args => (Rows.mergingWithoutConflictsSpec.pre enc Tryd.prog Tryd.f7 Rows.mergingWithoutConflictsRow.domain false w args ∧ laidMetH Tryd.prog Rows.mergingWithoutConflictsRow.laid w) ∧ sizedMet enc Tryd.prog Tryd.f7 (OpenSpec.ofChange Rows.mergingWithoutConflictsSpec) false w args) (Rows.mergingWithoutConflictsSpec.post enc Tryd.prog Tryd.f7 false true false false) := by
  refine returnsInHanded_of_change_and (C := Tryd.checked) (X := fun w _ => laidMetH Tryd.prog Rows.mergingWithoutConflictsRow.laid w) (fun _ _ _ hh h => h.of_heap hh) Tryd.own started (by kernel_rfl) Tryd.func7
    (ChangeSpec.witness_shaped (enc := enc) (C := Tryd.checked) (os := os) (X := fun w _ => laidMetH Tryd.prog Rows.mergingWithoutConflictsRow.laid w) false (World.doorLaid Tryd.prog 4000 os) #[.agg #[.int .i64 0, .slice none 0 0, .slice none 0 0, .slice none 0 0], .slice none 0 0, .slice none 0 0] 8 rfl (World.shaped_of_RefB (by kernel_rfl) (by kernel_rfl)) (by kernel_rfl) (by kernel_rfl) (by kernel_rfl) (door_met os _)) ?_
  intro W base args ds gs before hval hW _ hz _ _
  refine law_contract (tb := 4) Tryd.laidOut (fun t ht => ?_) rfl (by kernel_rfl) Tryd.underlying4 (fun ds hds => ?_) law hz hval hW
  · rw [Tryd.params7] at ht
    revert t
    exact of_decide_eq_true (by kernel_rfl)
  · rw [Tryd.params7] at hds
    match ds, hds with
    | [_, _, _], _ => rfl
theorem rowHolds : Rows.MergingWithoutConflictsSaid :=
  OpenClaim.holds_of_wide 7 Tryd.f7 rfl rfl rfl rfl rfl rfl rfl ⟨rfl, rfl, rfl, rfl, rfl⟩ rfl rfl rfl rfl rfl (by kernel_rfl) Tryd.func7 (by kernel_rfl)
    (of_decide_eq_true (by kernel_rfl)) (by unfold Func.isWrapper; first | (rw [if_pos (by decide +kernel)]; kernel_rfl) | (rw [if_neg (by decide +kernel)]; exact ⟨rfl, rfl⟩))
    (fun os started H enc _ => lifted os started H enc)
theorem holds : Rows.MergingWithoutConflictsCardSaid :=
  Claim7.holds_tied_plain_at .later [] [.data, .data, .data] true (true, "72a3a8fddcbab35d70aea3dceed886e85de3f7093c66dc680f332ab169997c6c") false
    rowHolds (fun _ h => by cases h) (by kernel_rfl) (fun _ h => by cases h) mergingWithoutConflicts_row_tie rfl ⟨rfl, rfl⟩ (by kernel_rfl) rfl
    (fun f fn hf hfn => by
      obtain rfl : f = 7 := Option.some.inj ((show Tryd.prog.funcNamed Rows.mergingWithoutConflictsRow.func = some 7 by kernel_rfl).symm.trans hf) |>.symm
      obtain rfl : fn = Tryd.f7 := (Option.some.inj (Tryd.func7.symm.trans hfn)).symm
      exact ⟨by kernel_rfl, fun j t ht => by
        rw [Tryd.params7] at ht
        have hm : t ∈ [25, 26, 26] := by simpa using Array.mem_of_getElem? ht
        have hall : ([25, 26, 26].all fun u => !Tryd.prog.wantsStandIn u) = true := by kernel_rfl
        exact (show Tryd.prog.wantsStandIn t = false by simpa using List.all_eq_true.1 hall t hm)⟩)
    (by kernel_rfl)
end Go.Proofs.YtiooehonogebkaaDoor
