/-
  DERIVED. GIVEN WITH THE SEED: THE CARDS: each row of YthohgmigdbaedaaGreatDoorRows.lean that lists a variable, with what it lists TIED to the program's text (the seventh form; the later family's looks); each row that meets fmt, with fmt's text TOLD by the authors' own Lean function (tested against real Go, not proved from fmt's source: count such statements apart). THE CARD IS WHAT COUNTS. Prove the row's statement (the work); the ties are given (YthohgmigdbaedaaGreatDoorTie.lean); close each card by the builder's one call (the guide's Derived/Test/ToyasCard.lean, 'card_holds'). Laid BY PROGRAM, IN A SANDBOX (cutbox-door.mjs). By AI agents, Wed Nov 11 2026. No macro, syntax, notation, axiom, sorry.
-/
import Derived.Test.YthohgmigdbaedaaGreatDoorRows
import GoSem.ClaimSeven
namespace Go.Proofs.YthohgmigdbaedaaGreatDoor
namespace Rows

/-- THE TIED CARD OF 'helmsmanlaw8.RecognizeMatchesSpec'. -/
def recognizeMatchesSpecCard : Claim7 := { stood := { row := recognizeMatchesSpecRow, standIns := [], harness := (true, "da319ca964f2e755e042235d0d386e67df13655535af066f5d6cc98f66b17283"), looks := true }, kinds := [], alts := [], laidByText := true, laidKinds := [.data, .data, .data], laidTests := true, laidLooks := .later }
def RecognizeMatchesSpecCardSaid : Prop := Claim7.holds Tryz.pinned (.plain (OpenSpec.ofChange recognizeMatchesSpecSpec)) recognizeMatchesSpecCard

/-- THE TIED CARD OF 'helmsmanlaw8.RecognizeExplainingCosts'. -/
def recognizeExplainingCostsCard : Claim7 := { stood := { row := recognizeExplainingCostsRow, standIns := [], harness := (true, "da319ca964f2e755e042235d0d386e67df13655535af066f5d6cc98f66b17283"), looks := true }, kinds := [], alts := [], laidByText := true, laidKinds := [.data, .data, .data], laidTests := true, laidLooks := .later }
def RecognizeExplainingCostsCardSaid : Prop := Claim7.holds Tryz.pinned (.plain (OpenSpec.ofChange recognizeExplainingCostsSpec)) recognizeExplainingCostsCard

/-- THE TIED CARD OF 'helmsmanlaw8.RecognizeBestExplains'. -/
def recognizeBestExplainsCard : Claim7 := { stood := { row := recognizeBestExplainsRow, standIns := [], harness := (true, "da319ca964f2e755e042235d0d386e67df13655535af066f5d6cc98f66b17283"), looks := true }, kinds := [], alts := [], laidByText := true, laidKinds := [.data, .data, .data], laidTests := true, laidLooks := .later }
def RecognizeBestExplainsCardSaid : Prop := Claim7.holds Tryz.pinned (.plain (OpenSpec.ofChange recognizeBestExplainsSpec)) recognizeBestExplainsCard

/-- THE TIED CARD OF 'helmsmanlaw8.RecognizeBoundsPlans'. -/
def recognizeBoundsPlansCard : Claim7 := { stood := { row := recognizeBoundsPlansRow, standIns := [], harness := (true, "da319ca964f2e755e042235d0d386e67df13655535af066f5d6cc98f66b17283"), looks := true }, kinds := [], alts := [], laidByText := true, laidKinds := [.data, .data, .data], laidTests := true, laidLooks := .later }
def RecognizeBoundsPlansCardSaid : Prop := Claim7.holds Tryz.pinned (.plain (OpenSpec.ofChange recognizeBoundsPlansSpec)) recognizeBoundsPlansCard

/-- THE TIED CARD OF 'helmsmanlaw8.RecognizeOwnGoal'. -/
def recognizeOwnGoalCard : Claim7 := { stood := { row := recognizeOwnGoalRow, standIns := [], harness := (true, "da319ca964f2e755e042235d0d386e67df13655535af066f5d6cc98f66b17283"), looks := true }, kinds := [], alts := [], laidByText := true, laidKinds := [.data, .data, .data], laidTests := true, laidLooks := .later }
def RecognizeOwnGoalCardSaid : Prop := Claim7.holds Tryz.pinned (.plain (OpenSpec.ofChange recognizeOwnGoalSpec)) recognizeOwnGoalCard

/-- THE SECOND FORM's CARD OF 'helmsmanlaw8.RecognizeMatchesSpec'. -/
def recognizeMatchesSpecUptoCard : Claim7 := { stood := { row := recognizeMatchesSpecUptoRow, standIns := [], harness := (true, "da319ca964f2e755e042235d0d386e67df13655535af066f5d6cc98f66b17283"), looks := true }, kinds := [], alts := [], laidByText := true, laidKinds := [.data, .data, .data], laidTests := true, laidLooks := .later }
def RecognizeMatchesSpecUptoCardSaid : Prop := Claim7.holds Tryz.pinned (.plain (OpenSpec.upto recognizeMatchesSpecSpec)) recognizeMatchesSpecUptoCard

/-- THE SECOND FORM's CARD OF 'helmsmanlaw8.RecognizeExplainingCosts'. -/
def recognizeExplainingCostsUptoCard : Claim7 := { stood := { row := recognizeExplainingCostsUptoRow, standIns := [], harness := (true, "da319ca964f2e755e042235d0d386e67df13655535af066f5d6cc98f66b17283"), looks := true }, kinds := [], alts := [], laidByText := true, laidKinds := [.data, .data, .data], laidTests := true, laidLooks := .later }
def RecognizeExplainingCostsUptoCardSaid : Prop := Claim7.holds Tryz.pinned (.plain (OpenSpec.upto recognizeExplainingCostsSpec)) recognizeExplainingCostsUptoCard

/-- THE SECOND FORM's CARD OF 'helmsmanlaw8.RecognizeBestExplains'. -/
def recognizeBestExplainsUptoCard : Claim7 := { stood := { row := recognizeBestExplainsUptoRow, standIns := [], harness := (true, "da319ca964f2e755e042235d0d386e67df13655535af066f5d6cc98f66b17283"), looks := true }, kinds := [], alts := [], laidByText := true, laidKinds := [.data, .data, .data], laidTests := true, laidLooks := .later }
def RecognizeBestExplainsUptoCardSaid : Prop := Claim7.holds Tryz.pinned (.plain (OpenSpec.upto recognizeBestExplainsSpec)) recognizeBestExplainsUptoCard

/-- THE SECOND FORM's CARD OF 'helmsmanlaw8.RecognizeBoundsPlans'. -/
def recognizeBoundsPlansUptoCard : Claim7 := { stood := { row := recognizeBoundsPlansUptoRow, standIns := [], harness := (true, "da319ca964f2e755e042235d0d386e67df13655535af066f5d6cc98f66b17283"), looks := true }, kinds := [], alts := [], laidByText := true, laidKinds := [.data, .data, .data], laidTests := true, laidLooks := .later }
def RecognizeBoundsPlansUptoCardSaid : Prop := Claim7.holds Tryz.pinned (.plain (OpenSpec.upto recognizeBoundsPlansSpec)) recognizeBoundsPlansUptoCard

/-- THE SECOND FORM's CARD OF 'helmsmanlaw8.RecognizeOwnGoal'. -/
def recognizeOwnGoalUptoCard : Claim7 := { stood := { row := recognizeOwnGoalUptoRow, standIns := [], harness := (true, "da319ca964f2e755e042235d0d386e67df13655535af066f5d6cc98f66b17283"), looks := true }, kinds := [], alts := [], laidByText := true, laidKinds := [.data, .data, .data], laidTests := true, laidLooks := .later }
def RecognizeOwnGoalUptoCardSaid : Prop := Claim7.holds Tryz.pinned (.plain (OpenSpec.upto recognizeOwnGoalSpec)) recognizeOwnGoalUptoCard
end Rows
end Go.Proofs.YthohgmigdbaedaaGreatDoor
