/-
  DERIVED. GIVEN WITH THE SEED: THE CARDS: each row of YtbffiagfngopaaaGreatDoorRows.lean that lists a variable, with what it lists TIED to the program's text (the seventh form; the later family's looks); each row that meets fmt, with fmt's text TOLD by the authors' own Lean function (tested against real Go, not proved from fmt's source: count such statements apart). THE CARD IS WHAT COUNTS. Prove the row's statement (the work); the ties are given (YtbffiagfngopaaaGreatDoorTie.lean); close each card by the builder's one call (the guide's Derived/Test/ToyasCard.lean, 'card_holds'). Laid BY PROGRAM, IN A SANDBOX (cutbox-door.mjs). By AI agents, Wed Nov 11 2026. No macro, syntax, notation, axiom, sorry.
-/
import Derived.Test.YtbffiagfngopaaaGreatDoorRows
import GoSem.ClaimSeven
namespace Go.Proofs.YtbffiagfngopaaaGreatDoor
namespace Rows

/-- THE TIED CARD OF 'helmsmanlaw8.StrongMatchesSpec'. -/
def strongMatchesSpecCard : Claim7 := { stood := { row := strongMatchesSpecRow, standIns := [], harness := (true, "73fb9e8eaca67a2b5d377aca34a4e4fc4353c503237decef715e4b4f1c75a79a"), looks := false }, kinds := [], alts := [], laidByText := true, laidKinds := [.data, .data, .data], laidTests := true, laidLooks := .later }
def StrongMatchesSpecCardSaid : Prop := Claim7.holds Tryz.pinned (.plain (OpenSpec.ofChange strongMatchesSpecSpec)) strongMatchesSpecCard

/-- THE TIED CARD OF 'helmsmanlaw8.StrongPolicyChecks'. -/
def strongPolicyChecksCard : Claim7 := { stood := { row := strongPolicyChecksRow, standIns := [], harness := (true, "73fb9e8eaca67a2b5d377aca34a4e4fc4353c503237decef715e4b4f1c75a79a"), looks := false }, kinds := [], alts := [], laidByText := true, laidKinds := [.data, .data, .data], laidTests := true, laidLooks := .later }
def StrongPolicyChecksCardSaid : Prop := Claim7.holds Tryz.pinned (.plain (OpenSpec.ofChange strongPolicyChecksSpec)) strongPolicyChecksCard

/-- THE TIED CARD OF 'helmsmanlaw8.StrongIsLeast'. -/
def strongIsLeastCard : Claim7 := { stood := { row := strongIsLeastRow, standIns := [], harness := (true, "73fb9e8eaca67a2b5d377aca34a4e4fc4353c503237decef715e4b4f1c75a79a"), looks := false }, kinds := [], alts := [], laidByText := true, laidKinds := [.data, .data, .data], laidTests := true, laidLooks := .later }
def StrongIsLeastCardSaid : Prop := Claim7.holds Tryz.pinned (.plain (OpenSpec.ofChange strongIsLeastSpec)) strongIsLeastCard

/-- THE TIED CARD OF 'helmsmanlaw8.CyclicMatchesSpec'. -/
def cyclicMatchesSpecCard : Claim7 := { stood := { row := cyclicMatchesSpecRow, standIns := [], harness := (true, "73fb9e8eaca67a2b5d377aca34a4e4fc4353c503237decef715e4b4f1c75a79a"), looks := false }, kinds := [], alts := [], laidByText := true, laidKinds := [.data, .data, .data], laidTests := true, laidLooks := .later }
def CyclicMatchesSpecCardSaid : Prop := Claim7.holds Tryz.pinned (.plain (OpenSpec.ofChange cyclicMatchesSpecSpec)) cyclicMatchesSpecCard

/-- THE TIED CARD OF 'helmsmanlaw8.CyclicCheckMatchesSpec'. -/
def cyclicCheckMatchesSpecCard : Claim7 := { stood := { row := cyclicCheckMatchesSpecRow, standIns := [], harness := (true, "73fb9e8eaca67a2b5d377aca34a4e4fc4353c503237decef715e4b4f1c75a79a"), looks := false }, kinds := [], alts := [], laidByText := true, laidKinds := [.data, .data, .data], laidTests := true, laidLooks := .later }
def CyclicCheckMatchesSpecCardSaid : Prop := Claim7.holds Tryz.pinned (.plain (OpenSpec.ofChange cyclicCheckMatchesSpecSpec)) cyclicCheckMatchesSpecCard

/-- THE TIED CARD OF 'helmsmanlaw8.CyclicPolicyChecks'. -/
def cyclicPolicyChecksCard : Claim7 := { stood := { row := cyclicPolicyChecksRow, standIns := [], harness := (true, "73fb9e8eaca67a2b5d377aca34a4e4fc4353c503237decef715e4b4f1c75a79a"), looks := false }, kinds := [], alts := [], laidByText := true, laidKinds := [.data, .data, .data], laidTests := true, laidLooks := .later }
def CyclicPolicyChecksCardSaid : Prop := Claim7.holds Tryz.pinned (.plain (OpenSpec.ofChange cyclicPolicyChecksSpec)) cyclicPolicyChecksCard

/-- THE TIED CARD OF 'helmsmanlaw8.CyclicIsFound'. -/
def cyclicIsFoundCard : Claim7 := { stood := { row := cyclicIsFoundRow, standIns := [], harness := (true, "73fb9e8eaca67a2b5d377aca34a4e4fc4353c503237decef715e4b4f1c75a79a"), looks := false }, kinds := [], alts := [], laidByText := true, laidKinds := [.data, .data, .data], laidTests := true, laidLooks := .later }
def CyclicIsFoundCardSaid : Prop := Claim7.holds Tryz.pinned (.plain (OpenSpec.ofChange cyclicIsFoundSpec)) cyclicIsFoundCard

/-- THE TIED CARD OF 'helmsmanlaw8.CyclicNeverLost'. -/
def cyclicNeverLostCard : Claim7 := { stood := { row := cyclicNeverLostRow, standIns := [], harness := (true, "73fb9e8eaca67a2b5d377aca34a4e4fc4353c503237decef715e4b4f1c75a79a"), looks := false }, kinds := [], alts := [], laidByText := true, laidKinds := [.data, .data, .data], laidTests := true, laidLooks := .later }
def CyclicNeverLostCardSaid : Prop := Claim7.holds Tryz.pinned (.plain (OpenSpec.ofChange cyclicNeverLostSpec)) cyclicNeverLostCard

/-- THE TIED CARD OF 'helmsmanlaw8.CyclicIncludesStrong'. -/
def cyclicIncludesStrongCard : Claim7 := { stood := { row := cyclicIncludesStrongRow, standIns := [], harness := (true, "73fb9e8eaca67a2b5d377aca34a4e4fc4353c503237decef715e4b4f1c75a79a"), looks := false }, kinds := [], alts := [], laidByText := true, laidKinds := [.data, .data, .data], laidTests := true, laidLooks := .later }
def CyclicIncludesStrongCardSaid : Prop := Claim7.holds Tryz.pinned (.plain (OpenSpec.ofChange cyclicIncludesStrongSpec)) cyclicIncludesStrongCard

/-- THE SECOND FORM's CARD OF 'helmsmanlaw8.StrongMatchesSpec'. -/
def strongMatchesSpecUptoCard : Claim7 := { stood := { row := strongMatchesSpecUptoRow, standIns := [], harness := (true, "73fb9e8eaca67a2b5d377aca34a4e4fc4353c503237decef715e4b4f1c75a79a"), looks := false }, kinds := [], alts := [], laidByText := true, laidKinds := [.data, .data, .data], laidTests := true, laidLooks := .later }
def StrongMatchesSpecUptoCardSaid : Prop := Claim7.holds Tryz.pinned (.plain (OpenSpec.upto strongMatchesSpecSpec)) strongMatchesSpecUptoCard

/-- THE SECOND FORM's CARD OF 'helmsmanlaw8.StrongPolicyChecks'. -/
def strongPolicyChecksUptoCard : Claim7 := { stood := { row := strongPolicyChecksUptoRow, standIns := [], harness := (true, "73fb9e8eaca67a2b5d377aca34a4e4fc4353c503237decef715e4b4f1c75a79a"), looks := false }, kinds := [], alts := [], laidByText := true, laidKinds := [.data, .data, .data], laidTests := true, laidLooks := .later }
def StrongPolicyChecksUptoCardSaid : Prop := Claim7.holds Tryz.pinned (.plain (OpenSpec.upto strongPolicyChecksSpec)) strongPolicyChecksUptoCard

/-- THE SECOND FORM's CARD OF 'helmsmanlaw8.StrongIsLeast'. -/
def strongIsLeastUptoCard : Claim7 := { stood := { row := strongIsLeastUptoRow, standIns := [], harness := (true, "73fb9e8eaca67a2b5d377aca34a4e4fc4353c503237decef715e4b4f1c75a79a"), looks := false }, kinds := [], alts := [], laidByText := true, laidKinds := [.data, .data, .data], laidTests := true, laidLooks := .later }
def StrongIsLeastUptoCardSaid : Prop := Claim7.holds Tryz.pinned (.plain (OpenSpec.upto strongIsLeastSpec)) strongIsLeastUptoCard

/-- THE SECOND FORM's CARD OF 'helmsmanlaw8.CyclicMatchesSpec'. -/
def cyclicMatchesSpecUptoCard : Claim7 := { stood := { row := cyclicMatchesSpecUptoRow, standIns := [], harness := (true, "73fb9e8eaca67a2b5d377aca34a4e4fc4353c503237decef715e4b4f1c75a79a"), looks := false }, kinds := [], alts := [], laidByText := true, laidKinds := [.data, .data, .data], laidTests := true, laidLooks := .later }
def CyclicMatchesSpecUptoCardSaid : Prop := Claim7.holds Tryz.pinned (.plain (OpenSpec.upto cyclicMatchesSpecSpec)) cyclicMatchesSpecUptoCard

/-- THE SECOND FORM's CARD OF 'helmsmanlaw8.CyclicCheckMatchesSpec'. -/
def cyclicCheckMatchesSpecUptoCard : Claim7 := { stood := { row := cyclicCheckMatchesSpecUptoRow, standIns := [], harness := (true, "73fb9e8eaca67a2b5d377aca34a4e4fc4353c503237decef715e4b4f1c75a79a"), looks := false }, kinds := [], alts := [], laidByText := true, laidKinds := [.data, .data, .data], laidTests := true, laidLooks := .later }
def CyclicCheckMatchesSpecUptoCardSaid : Prop := Claim7.holds Tryz.pinned (.plain (OpenSpec.upto cyclicCheckMatchesSpecSpec)) cyclicCheckMatchesSpecUptoCard

/-- THE SECOND FORM's CARD OF 'helmsmanlaw8.CyclicPolicyChecks'. -/
def cyclicPolicyChecksUptoCard : Claim7 := { stood := { row := cyclicPolicyChecksUptoRow, standIns := [], harness := (true, "73fb9e8eaca67a2b5d377aca34a4e4fc4353c503237decef715e4b4f1c75a79a"), looks := false }, kinds := [], alts := [], laidByText := true, laidKinds := [.data, .data, .data], laidTests := true, laidLooks := .later }
def CyclicPolicyChecksUptoCardSaid : Prop := Claim7.holds Tryz.pinned (.plain (OpenSpec.upto cyclicPolicyChecksSpec)) cyclicPolicyChecksUptoCard

/-- THE SECOND FORM's CARD OF 'helmsmanlaw8.CyclicIsFound'. -/
def cyclicIsFoundUptoCard : Claim7 := { stood := { row := cyclicIsFoundUptoRow, standIns := [], harness := (true, "73fb9e8eaca67a2b5d377aca34a4e4fc4353c503237decef715e4b4f1c75a79a"), looks := false }, kinds := [], alts := [], laidByText := true, laidKinds := [.data, .data, .data], laidTests := true, laidLooks := .later }
def CyclicIsFoundUptoCardSaid : Prop := Claim7.holds Tryz.pinned (.plain (OpenSpec.upto cyclicIsFoundSpec)) cyclicIsFoundUptoCard

/-- THE SECOND FORM's CARD OF 'helmsmanlaw8.CyclicNeverLost'. -/
def cyclicNeverLostUptoCard : Claim7 := { stood := { row := cyclicNeverLostUptoRow, standIns := [], harness := (true, "73fb9e8eaca67a2b5d377aca34a4e4fc4353c503237decef715e4b4f1c75a79a"), looks := false }, kinds := [], alts := [], laidByText := true, laidKinds := [.data, .data, .data], laidTests := true, laidLooks := .later }
def CyclicNeverLostUptoCardSaid : Prop := Claim7.holds Tryz.pinned (.plain (OpenSpec.upto cyclicNeverLostSpec)) cyclicNeverLostUptoCard

/-- THE SECOND FORM's CARD OF 'helmsmanlaw8.CyclicIncludesStrong'. -/
def cyclicIncludesStrongUptoCard : Claim7 := { stood := { row := cyclicIncludesStrongUptoRow, standIns := [], harness := (true, "73fb9e8eaca67a2b5d377aca34a4e4fc4353c503237decef715e4b4f1c75a79a"), looks := false }, kinds := [], alts := [], laidByText := true, laidKinds := [.data, .data, .data], laidTests := true, laidLooks := .later }
def CyclicIncludesStrongUptoCardSaid : Prop := Claim7.holds Tryz.pinned (.plain (OpenSpec.upto cyclicIncludesStrongSpec)) cyclicIncludesStrongUptoCard
end Rows
end Go.Proofs.YtbffiagfngopaaaGreatDoor
