/-
  DERIVED. GIVEN WITH THE SEED: THE CARDS: each row of YtkfjghcojgmemaaDoorRows.lean that lists a variable, with what it lists TIED to the program's text (the seventh form; the later family's looks); each row that meets fmt, with fmt's text TOLD by the authors' own Lean function (tested against real Go, not proved from fmt's source: count such statements apart). THE CARD IS WHAT COUNTS. Prove the row's statement (the work); the ties are given (YtkfjghcojgmemaaDoorTie.lean); close each card by the builder's one call (the guide's Derived/Test/ToyasCard.lean, 'card_holds'). Laid BY PROGRAM, IN A SANDBOX (cutbox-door.mjs). By AI agents, Wed Nov 11 2026. No macro, syntax, notation, axiom, sorry.
-/
import Derived.Test.YtkfjghcojgmemaaDoorRows
import GoSem.ClaimSeven
namespace Go.Proofs.YtkfjghcojgmemaaDoor
namespace Rows

/-- THE TIED CARD OF 'helmsmanlaw8.OpenExploreIsClosed'. -/
def openExploreIsClosedCard : Claim7 := { stood := { row := openExploreIsClosedRow, standIns := [], harness := (true, "034e7d82b8c6fe8071b65ffaa89e2bcf58e6471172c2f6d7c436275030f40a85"), looks := false }, kinds := [], alts := [], laidByText := true, laidKinds := [.data, .data, .data], laidTests := true, laidLooks := .later }
def OpenExploreIsClosedCardSaid : Prop := Claim7.holds Tryd.pinned (.plain (OpenSpec.ofChange openExploreIsClosedSpec)) openExploreIsClosedCard

/-- THE TIED CARD OF 'helmsmanlaw8.OpenMatchesSpec'. -/
def openMatchesSpecCard : Claim7 := { stood := { row := openMatchesSpecRow, standIns := [], harness := (true, "034e7d82b8c6fe8071b65ffaa89e2bcf58e6471172c2f6d7c436275030f40a85"), looks := false }, kinds := [], alts := [], laidByText := true, laidKinds := [.data, .data, .data], laidTests := true, laidLooks := .later }
def OpenMatchesSpecCardSaid : Prop := Claim7.holds Tryd.pinned (.plain (OpenSpec.ofChange openMatchesSpecSpec)) openMatchesSpecCard

/-- THE SECOND FORM's CARD OF 'helmsmanlaw8.OpenExploreIsClosed'. -/
def openExploreIsClosedUptoCard : Claim7 := { stood := { row := openExploreIsClosedUptoRow, standIns := [], harness := (true, "034e7d82b8c6fe8071b65ffaa89e2bcf58e6471172c2f6d7c436275030f40a85"), looks := false }, kinds := [], alts := [], laidByText := true, laidKinds := [.data, .data, .data], laidTests := true, laidLooks := .later }
def OpenExploreIsClosedUptoCardSaid : Prop := Claim7.holds Tryd.pinned (.plain (OpenSpec.upto openExploreIsClosedSpec)) openExploreIsClosedUptoCard

/-- THE SECOND FORM's CARD OF 'helmsmanlaw8.OpenMatchesSpec'. -/
def openMatchesSpecUptoCard : Claim7 := { stood := { row := openMatchesSpecUptoRow, standIns := [], harness := (true, "034e7d82b8c6fe8071b65ffaa89e2bcf58e6471172c2f6d7c436275030f40a85"), looks := false }, kinds := [], alts := [], laidByText := true, laidKinds := [.data, .data, .data], laidTests := true, laidLooks := .later }
def OpenMatchesSpecUptoCardSaid : Prop := Claim7.holds Tryd.pinned (.plain (OpenSpec.upto openMatchesSpecSpec)) openMatchesSpecUptoCard
end Rows
end Go.Proofs.YtkfjghcojgmemaaDoor
