/-
  DERIVED. GIVEN WITH THE SEED: THE CARDS: each row of YtkgchbnjjdjckaaGreatDoorRows.lean that lists a variable, with what it lists TIED to the program's text (the seventh form; the later family's looks); each row that meets fmt, with fmt's text TOLD by the authors' own Lean function (tested against real Go, not proved from fmt's source: count such statements apart). THE CARD IS WHAT COUNTS. Prove the row's statement (the work); the ties are given (YtkgchbnjjdjckaaGreatDoorTie.lean); close each card by the builder's one call (the guide's Derived/Test/ToyasCard.lean, 'card_holds'). Laid BY PROGRAM, IN A SANDBOX (cutbox-door.mjs). By AI agents, Wed Nov 11 2026. No macro, syntax, notation, axiom, sorry.
-/
import Derived.Test.YtkgchbnjjdjckaaGreatDoorRows
import GoSem.ClaimSeven
namespace Go.Proofs.YtkgchbnjjdjckaaGreatDoor
namespace Rows

/-- THE TIED CARD OF 'helmsmantop.TopSchedulesOfOrders'. -/
def topSchedulesOfOrdersCard : Claim7 := { stood := { row := topSchedulesOfOrdersRow, standIns := [], harness := (true, "e652095a4c439c23bf54edc83c3ce3b813325d10881df1a2f6cb7e6bc1d18edf"), looks := true }, kinds := [], alts := [], laidByText := true, laidKinds := [.data, .data, .data], laidTests := true, laidLooks := .later }
def TopSchedulesOfOrdersCardSaid : Prop := Claim7.holds Tryz.pinned (.plain (OpenSpec.ofChange topSchedulesOfOrdersSpec)) topSchedulesOfOrdersCard

/-- THE SECOND FORM's CARD OF 'helmsmantop.TopSchedulesOfOrders'. -/
def topSchedulesOfOrdersUptoCard : Claim7 := { stood := { row := topSchedulesOfOrdersUptoRow, standIns := [], harness := (true, "e652095a4c439c23bf54edc83c3ce3b813325d10881df1a2f6cb7e6bc1d18edf"), looks := true }, kinds := [], alts := [], laidByText := true, laidKinds := [.data, .data, .data], laidTests := true, laidLooks := .later }
def TopSchedulesOfOrdersUptoCardSaid : Prop := Claim7.holds Tryz.pinned (.plain (OpenSpec.upto topSchedulesOfOrdersSpec)) topSchedulesOfOrdersUptoCard
end Rows
end Go.Proofs.YtkgchbnjjdjckaaGreatDoor
