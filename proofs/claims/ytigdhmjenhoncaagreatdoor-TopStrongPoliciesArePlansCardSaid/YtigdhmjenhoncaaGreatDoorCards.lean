/-
  DERIVED. GIVEN WITH THE SEED: THE CARDS: each row of YtigdhmjenhoncaaGreatDoorRows.lean that lists a variable, with what it lists TIED to the program's text (the seventh form; the later family's looks); each row that meets fmt, with fmt's text TOLD by the authors' own Lean function (tested against real Go, not proved from fmt's source: count such statements apart). THE CARD IS WHAT COUNTS. Prove the row's statement (the work); the ties are given (YtigdhmjenhoncaaGreatDoorTie.lean); close each card by the builder's one call (the guide's Derived/Test/ToyasCard.lean, 'card_holds'). Laid BY PROGRAM, IN A SANDBOX (cutbox-door.mjs). By AI agents, Wed Nov 11 2026. No macro, syntax, notation, axiom, sorry.
-/
import Derived.Test.YtigdhmjenhoncaaGreatDoorRows
import GoSem.ClaimSeven
namespace Go.Proofs.YtigdhmjenhoncaaGreatDoor
namespace Rows

/-- THE TIED CARD OF 'helmsmantop.TopStrongPoliciesArePlans'. -/
def topStrongPoliciesArePlansCard : Claim7 := { stood := { row := topStrongPoliciesArePlansRow, standIns := [], harness := (true, "dc217cf30e1b6bac9c278181e99ce15066bd93e5ac81c65f99efdcab1200d782"), looks := true }, kinds := [], alts := [], laidByText := true, laidKinds := [.data, .data, .data], laidTests := true, laidLooks := .later }
def TopStrongPoliciesArePlansCardSaid : Prop := Claim7.holds Tryz.pinned (.plain (OpenSpec.ofChange topStrongPoliciesArePlansSpec)) topStrongPoliciesArePlansCard

/-- THE SECOND FORM's CARD OF 'helmsmantop.TopStrongPoliciesArePlans'. -/
def topStrongPoliciesArePlansUptoCard : Claim7 := { stood := { row := topStrongPoliciesArePlansUptoRow, standIns := [], harness := (true, "dc217cf30e1b6bac9c278181e99ce15066bd93e5ac81c65f99efdcab1200d782"), looks := true }, kinds := [], alts := [], laidByText := true, laidKinds := [.data, .data, .data], laidTests := true, laidLooks := .later }
def TopStrongPoliciesArePlansUptoCardSaid : Prop := Claim7.holds Tryz.pinned (.plain (OpenSpec.upto topStrongPoliciesArePlansSpec)) topStrongPoliciesArePlansUptoCard
end Rows
end Go.Proofs.YtigdhmjenhoncaaGreatDoor
