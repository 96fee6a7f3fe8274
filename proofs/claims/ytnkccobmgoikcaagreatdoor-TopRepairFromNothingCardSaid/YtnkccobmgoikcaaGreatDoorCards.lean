/-
  DERIVED. GIVEN WITH THE SEED: THE CARDS: each row of YtnkccobmgoikcaaGreatDoorRows.lean that lists a variable, with what it lists TIED to the program's text (the seventh form; the later family's looks); each row that meets fmt, with fmt's text TOLD by the authors' own Lean function (tested against real Go, not proved from fmt's source: count such statements apart). THE CARD IS WHAT COUNTS. Prove the row's statement (the work); the ties are given (YtnkccobmgoikcaaGreatDoorTie.lean); close each card by the builder's one call (the guide's Derived/Test/ToyasCard.lean, 'card_holds'). Laid BY PROGRAM, IN A SANDBOX (cutbox-door.mjs). By AI agents, Wed Nov 11 2026. No macro, syntax, notation, axiom, sorry.
-/
import Derived.Test.YtnkccobmgoikcaaGreatDoorRows
import GoSem.ClaimSeven
namespace Go.Proofs.YtnkccobmgoikcaaGreatDoor
namespace Rows

/-- THE TIED CARD OF 'helmsmantop.TopRepairFromNothing'. -/
def topRepairFromNothingCard : Claim7 := { stood := { row := topRepairFromNothingRow, standIns := [], harness := (true, "d8949efa0d95af3d4b01927d3e7227a1499443d527306d0d98fd195ea23d1496"), looks := true }, kinds := [], alts := [], laidByText := true, laidKinds := [.data, .data, .data], laidTests := true, laidLooks := .later }
def TopRepairFromNothingCardSaid : Prop := Claim7.holds Tryz.pinned (.plain (OpenSpec.ofChange topRepairFromNothingSpec)) topRepairFromNothingCard

/-- THE SECOND FORM's CARD OF 'helmsmantop.TopRepairFromNothing'. -/
def topRepairFromNothingUptoCard : Claim7 := { stood := { row := topRepairFromNothingUptoRow, standIns := [], harness := (true, "d8949efa0d95af3d4b01927d3e7227a1499443d527306d0d98fd195ea23d1496"), looks := true }, kinds := [], alts := [], laidByText := true, laidKinds := [.data, .data, .data], laidTests := true, laidLooks := .later }
def TopRepairFromNothingUptoCardSaid : Prop := Claim7.holds Tryz.pinned (.plain (OpenSpec.upto topRepairFromNothingSpec)) topRepairFromNothingUptoCard
end Rows
end Go.Proofs.YtnkccobmgoikcaaGreatDoor
