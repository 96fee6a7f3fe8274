/-
  DERIVED. GIVEN WITH THE SEED: THE CARDS: each row of YtiihbnllfgiblaaGreatDoorRows.lean that lists a variable, with what it lists TIED to the program's text (the seventh form; the later family's looks); each row that meets fmt, with fmt's text TOLD by the authors' own Lean function (tested against real Go, not proved from fmt's source: count such statements apart). THE CARD IS WHAT COUNTS. Prove the row's statement (the work); the ties are given (YtiihbnllfgiblaaGreatDoorTie.lean); close each card by the builder's one call (the guide's Derived/Test/ToyasCard.lean, 'card_holds'). Laid BY PROGRAM, IN A SANDBOX (cutbox-door.mjs). By AI agents, Wed Nov 11 2026. No macro, syntax, notation, axiom, sorry.
-/
import Derived.Test.YtiihbnllfgiblaaGreatDoorRows
import GoSem.ClaimSeven
namespace Go.Proofs.YtiihbnllfgiblaaGreatDoor
namespace Rows

/-- THE TIED CARD OF 'helmsmantop.TopObservedPlansExplain'. -/
def topObservedPlansExplainCard : Claim7 := { stood := { row := topObservedPlansExplainRow, standIns := [], harness := (true, "c609e52608d03882daaf393876aa27b4c4145d0b4bb18df14a61ea3574b67601"), looks := true }, kinds := [], alts := [], laidByText := true, laidKinds := [.data, .data, .data], laidTests := true, laidLooks := .later }
def TopObservedPlansExplainCardSaid : Prop := Claim7.holds Tryz.pinned (.plain (OpenSpec.ofChange topObservedPlansExplainSpec)) topObservedPlansExplainCard

/-- THE SECOND FORM's CARD OF 'helmsmantop.TopObservedPlansExplain'. -/
def topObservedPlansExplainUptoCard : Claim7 := { stood := { row := topObservedPlansExplainUptoRow, standIns := [], harness := (true, "c609e52608d03882daaf393876aa27b4c4145d0b4bb18df14a61ea3574b67601"), looks := true }, kinds := [], alts := [], laidByText := true, laidKinds := [.data, .data, .data], laidTests := true, laidLooks := .later }
def TopObservedPlansExplainUptoCardSaid : Prop := Claim7.holds Tryz.pinned (.plain (OpenSpec.upto topObservedPlansExplainSpec)) topObservedPlansExplainUptoCard
end Rows
end Go.Proofs.YtiihbnllfgiblaaGreatDoor
