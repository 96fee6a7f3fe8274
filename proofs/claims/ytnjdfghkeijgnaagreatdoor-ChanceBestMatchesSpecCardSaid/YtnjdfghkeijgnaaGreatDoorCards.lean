/-
  DERIVED. GIVEN WITH THE SEED: THE CARDS: each row of YtnjdfghkeijgnaaGreatDoorRows.lean that lists a variable, with what it lists TIED to the program's text (the seventh form; the later family's looks); each row that meets fmt, with fmt's text TOLD by the authors' own Lean function (tested against real Go, not proved from fmt's source: count such statements apart). THE CARD IS WHAT COUNTS. Prove the row's statement (the work); the ties are given (YtnjdfghkeijgnaaGreatDoorTie.lean); close each card by the builder's one call (the guide's Derived/Test/ToyasCard.lean, 'card_holds'). Laid BY PROGRAM, IN A SANDBOX (cutbox-door.mjs). By AI agents, Wed Nov 11 2026. No macro, syntax, notation, axiom, sorry.
-/
import Derived.Test.YtnjdfghkeijgnaaGreatDoorRows
import GoSem.ClaimSeven
namespace Go.Proofs.YtnjdfghkeijgnaaGreatDoor
namespace Rows

/-- THE TIED CARD OF 'helmsmanlaw8.ChanceBestMatchesSpec'. -/
def chanceBestMatchesSpecCard : Claim7 := { stood := { row := chanceBestMatchesSpecRow, standIns := [], harness := (true, "1a0cc0e5ffb24878bc5a434f2a27c11a1bae2052c4fbc676446dbfc375bc2065"), looks := true }, kinds := [], alts := [], laidByText := true, laidKinds := [.data, .data, .data], laidTests := true, laidLooks := .later }
def ChanceBestMatchesSpecCardSaid : Prop := Claim7.holds Tryz.pinned (.plain (OpenSpec.ofChange chanceBestMatchesSpecSpec)) chanceBestMatchesSpecCard

/-- THE TIED CARD OF 'helmsmanlaw8.ChanceWithoutChance'. -/
def chanceWithoutChanceCard : Claim7 := { stood := { row := chanceWithoutChanceRow, standIns := [], harness := (true, "1a0cc0e5ffb24878bc5a434f2a27c11a1bae2052c4fbc676446dbfc375bc2065"), looks := true }, kinds := [], alts := [], laidByText := true, laidKinds := [.data, .data, .data], laidTests := true, laidLooks := .later }
def ChanceWithoutChanceCardSaid : Prop := Claim7.holds Tryz.pinned (.plain (OpenSpec.ofChange chanceWithoutChanceSpec)) chanceWithoutChanceCard

/-- THE SECOND FORM's CARD OF 'helmsmanlaw8.ChanceBestMatchesSpec'. -/
def chanceBestMatchesSpecUptoCard : Claim7 := { stood := { row := chanceBestMatchesSpecUptoRow, standIns := [], harness := (true, "1a0cc0e5ffb24878bc5a434f2a27c11a1bae2052c4fbc676446dbfc375bc2065"), looks := true }, kinds := [], alts := [], laidByText := true, laidKinds := [.data, .data, .data], laidTests := true, laidLooks := .later }
def ChanceBestMatchesSpecUptoCardSaid : Prop := Claim7.holds Tryz.pinned (.plain (OpenSpec.upto chanceBestMatchesSpecSpec)) chanceBestMatchesSpecUptoCard

/-- THE SECOND FORM's CARD OF 'helmsmanlaw8.ChanceWithoutChance'. -/
def chanceWithoutChanceUptoCard : Claim7 := { stood := { row := chanceWithoutChanceUptoRow, standIns := [], harness := (true, "1a0cc0e5ffb24878bc5a434f2a27c11a1bae2052c4fbc676446dbfc375bc2065"), looks := true }, kinds := [], alts := [], laidByText := true, laidKinds := [.data, .data, .data], laidTests := true, laidLooks := .later }
def ChanceWithoutChanceUptoCardSaid : Prop := Claim7.holds Tryz.pinned (.plain (OpenSpec.upto chanceWithoutChanceSpec)) chanceWithoutChanceUptoCard
end Rows
end Go.Proofs.YtnjdfghkeijgnaaGreatDoor
