/-
  DERIVED. GIVEN WITH THE SEED: THE CARDS: each row of YtfjhmljchkhpnaaGreatDoorRows.lean that lists a variable, with what it lists TIED to the program's text (the seventh form; the later family's looks); each row that meets fmt, with fmt's text TOLD by the authors' own Lean function (tested against real Go, not proved from fmt's source: count such statements apart). THE CARD IS WHAT COUNTS. Prove the row's statement (the work); the ties are given (YtfjhmljchkhpnaaGreatDoorTie.lean); close each card by the builder's one call (the guide's Derived/Test/ToyasCard.lean, 'card_holds'). Laid BY PROGRAM, IN A SANDBOX (cutbox-door.mjs). By AI agents, Wed Nov 11 2026. No macro, syntax, notation, axiom, sorry.
-/
import Derived.Test.YtfjhmljchkhpnaaGreatDoorRows
import GoSem.ClaimSeven
namespace Go.Proofs.YtfjhmljchkhpnaaGreatDoor
namespace Rows

/-- THE TIED CARD OF 'helmsmanlaw8.RepairMatchesSpec'. -/
def repairMatchesSpecCard : Claim7 := { stood := { row := repairMatchesSpecRow, standIns := [], harness := (true, "ed76271355474126534eb29ab4ea8edb7e3b4921ab5eabac9d51551d92cf78f3"), looks := true }, kinds := [], alts := [], laidByText := true, laidKinds := [.data, .data, .data], laidTests := true, laidLooks := .later }
def RepairMatchesSpecCardSaid : Prop := Claim7.holds Tryz.pinned (.plain (OpenSpec.ofChange repairMatchesSpecSpec)) repairMatchesSpecCard

/-- THE TIED CARD OF 'helmsmanlaw8.RepairFailsTogether'. -/
def repairFailsTogetherCard : Claim7 := { stood := { row := repairFailsTogetherRow, standIns := [], harness := (true, "ed76271355474126534eb29ab4ea8edb7e3b4921ab5eabac9d51551d92cf78f3"), looks := true }, kinds := [], alts := [], laidByText := true, laidKinds := [.data, .data, .data], laidTests := true, laidLooks := .later }
def RepairFailsTogetherCardSaid : Prop := Claim7.holds Tryz.pinned (.plain (OpenSpec.ofChange repairFailsTogetherSpec)) repairFailsTogetherCard

/-- THE SECOND FORM's CARD OF 'helmsmanlaw8.RepairMatchesSpec'. -/
def repairMatchesSpecUptoCard : Claim7 := { stood := { row := repairMatchesSpecUptoRow, standIns := [], harness := (true, "ed76271355474126534eb29ab4ea8edb7e3b4921ab5eabac9d51551d92cf78f3"), looks := true }, kinds := [], alts := [], laidByText := true, laidKinds := [.data, .data, .data], laidTests := true, laidLooks := .later }
def RepairMatchesSpecUptoCardSaid : Prop := Claim7.holds Tryz.pinned (.plain (OpenSpec.upto repairMatchesSpecSpec)) repairMatchesSpecUptoCard

/-- THE SECOND FORM's CARD OF 'helmsmanlaw8.RepairFailsTogether'. -/
def repairFailsTogetherUptoCard : Claim7 := { stood := { row := repairFailsTogetherUptoRow, standIns := [], harness := (true, "ed76271355474126534eb29ab4ea8edb7e3b4921ab5eabac9d51551d92cf78f3"), looks := true }, kinds := [], alts := [], laidByText := true, laidKinds := [.data, .data, .data], laidTests := true, laidLooks := .later }
def RepairFailsTogetherUptoCardSaid : Prop := Claim7.holds Tryz.pinned (.plain (OpenSpec.upto repairFailsTogetherSpec)) repairFailsTogetherUptoCard
end Rows
end Go.Proofs.YtfjhmljchkhpnaaGreatDoor
