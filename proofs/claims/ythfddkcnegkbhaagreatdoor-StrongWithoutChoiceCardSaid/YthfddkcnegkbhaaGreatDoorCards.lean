/-
  DERIVED. GIVEN WITH THE SEED: THE CARDS: each row of YthfddkcnegkbhaaGreatDoorRows.lean that lists a variable, with what it lists TIED to the program's text (the seventh form; the later family's looks); each row that meets fmt, with fmt's text TOLD by the authors' own Lean function (tested against real Go, not proved from fmt's source: count such statements apart). THE CARD IS WHAT COUNTS. Prove the row's statement (the work); the ties are given (YthfddkcnegkbhaaGreatDoorTie.lean); close each card by the builder's one call (the guide's Derived/Test/ToyasCard.lean, 'card_holds'). Laid BY PROGRAM, IN A SANDBOX (cutbox-door.mjs). By AI agents, Wed Nov 11 2026. No macro, syntax, notation, axiom, sorry.
-/
import Derived.Test.YthfddkcnegkbhaaGreatDoorRows
import GoSem.ClaimSeven
namespace Go.Proofs.YthfddkcnegkbhaaGreatDoor
namespace Rows

/-- THE TIED CARD OF 'helmsmanlaw8.StrongWithoutChoice'. -/
def strongWithoutChoiceCard : Claim7 := { stood := { row := strongWithoutChoiceRow, standIns := [], harness := (true, "9d85fb5e61034013301efa700d66a9a24a23cc1d1cd81c1b7aee69453819aee0"), looks := true }, kinds := [], alts := [], laidByText := true, laidKinds := [.data, .data, .data], laidTests := true, laidLooks := .later }
def StrongWithoutChoiceCardSaid : Prop := Claim7.holds Tryz.pinned (.plain (OpenSpec.ofChange strongWithoutChoiceSpec)) strongWithoutChoiceCard

/-- THE TIED CARD OF 'helmsmantop.TopStrongPoliciesArePlans'. -/
def topStrongPoliciesArePlansCard : Claim7 := { stood := { row := topStrongPoliciesArePlansRow, standIns := [], harness := (true, "9d85fb5e61034013301efa700d66a9a24a23cc1d1cd81c1b7aee69453819aee0"), looks := true }, kinds := [], alts := [], laidByText := true, laidKinds := [.data, .data, .data], laidTests := true, laidLooks := .later }
def TopStrongPoliciesArePlansCardSaid : Prop := Claim7.holds Tryz.pinned (.plain (OpenSpec.ofChange topStrongPoliciesArePlansSpec)) topStrongPoliciesArePlansCard

/-- THE TIED CARD OF 'helmsmantop.TopMergedPlansSolve'. -/
def topMergedPlansSolveCard : Claim7 := { stood := { row := topMergedPlansSolveRow, standIns := [], harness := (true, "9d85fb5e61034013301efa700d66a9a24a23cc1d1cd81c1b7aee69453819aee0"), looks := true }, kinds := [], alts := [], laidByText := true, laidKinds := [.data, .data, .data], laidTests := true, laidLooks := .later }
def TopMergedPlansSolveCardSaid : Prop := Claim7.holds Tryz.pinned (.plain (OpenSpec.ofChange topMergedPlansSolveSpec)) topMergedPlansSolveCard

/-- THE SECOND FORM's CARD OF 'helmsmanlaw8.StrongWithoutChoice'. -/
def strongWithoutChoiceUptoCard : Claim7 := { stood := { row := strongWithoutChoiceUptoRow, standIns := [], harness := (true, "9d85fb5e61034013301efa700d66a9a24a23cc1d1cd81c1b7aee69453819aee0"), looks := true }, kinds := [], alts := [], laidByText := true, laidKinds := [.data, .data, .data], laidTests := true, laidLooks := .later }
def StrongWithoutChoiceUptoCardSaid : Prop := Claim7.holds Tryz.pinned (.plain (OpenSpec.upto strongWithoutChoiceSpec)) strongWithoutChoiceUptoCard

/-- THE SECOND FORM's CARD OF 'helmsmantop.TopStrongPoliciesArePlans'. -/
def topStrongPoliciesArePlansUptoCard : Claim7 := { stood := { row := topStrongPoliciesArePlansUptoRow, standIns := [], harness := (true, "9d85fb5e61034013301efa700d66a9a24a23cc1d1cd81c1b7aee69453819aee0"), looks := true }, kinds := [], alts := [], laidByText := true, laidKinds := [.data, .data, .data], laidTests := true, laidLooks := .later }
def TopStrongPoliciesArePlansUptoCardSaid : Prop := Claim7.holds Tryz.pinned (.plain (OpenSpec.upto topStrongPoliciesArePlansSpec)) topStrongPoliciesArePlansUptoCard

/-- THE SECOND FORM's CARD OF 'helmsmantop.TopMergedPlansSolve'. -/
def topMergedPlansSolveUptoCard : Claim7 := { stood := { row := topMergedPlansSolveUptoRow, standIns := [], harness := (true, "9d85fb5e61034013301efa700d66a9a24a23cc1d1cd81c1b7aee69453819aee0"), looks := true }, kinds := [], alts := [], laidByText := true, laidKinds := [.data, .data, .data], laidTests := true, laidLooks := .later }
def TopMergedPlansSolveUptoCardSaid : Prop := Claim7.holds Tryz.pinned (.plain (OpenSpec.upto topMergedPlansSolveSpec)) topMergedPlansSolveUptoCard
end Rows
end Go.Proofs.YthfddkcnegkbhaaGreatDoor
