/-
  DERIVED. GIVEN WITH THE SEED: THE CARDS: each row of YtpcodegibndgeaaGreatDoorRows.lean that lists a variable, with what it lists TIED to the program's text (the seventh form; the later family's looks); each row that meets fmt, with fmt's text TOLD by the authors' own Lean function (tested against real Go, not proved from fmt's source: count such statements apart). THE CARD IS WHAT COUNTS. Prove the row's statement (the work); the ties are given (YtpcodegibndgeaaGreatDoorTie.lean); close each card by the builder's one call (the guide's Derived/Test/ToyasCard.lean, 'card_holds'). Laid BY PROGRAM, IN A SANDBOX (cutbox-door.mjs). By AI agents, Wed Nov 11 2026. No macro, syntax, notation, axiom, sorry.
-/
import Derived.Test.YtpcodegibndgeaaGreatDoorRows
import GoSem.ClaimSeven
namespace Go.Proofs.YtpcodegibndgeaaGreatDoor
namespace Rows

/-- THE TIED CARD OF 'helmsmanlaw8.StrongMatchesSpec'. -/
def strongMatchesSpecCard : Claim7 := { stood := { row := strongMatchesSpecRow, standIns := [], harness := (true, "1f754158f4661bb69ec023d624c2705ec2377aef40a540e3bd1693c345f24fb4"), looks := false }, kinds := [], alts := [], laidByText := true, laidKinds := [.data, .data, .data], laidTests := true, laidLooks := .later }
def StrongMatchesSpecCardSaid : Prop := Claim7.holds Tryz.pinned (.plain (OpenSpec.ofChange strongMatchesSpecSpec)) strongMatchesSpecCard

/-- THE TIED CARD OF 'helmsmanlaw8.StrongCheckMatchesSpec'. -/
def strongCheckMatchesSpecCard : Claim7 := { stood := { row := strongCheckMatchesSpecRow, standIns := [], harness := (true, "1f754158f4661bb69ec023d624c2705ec2377aef40a540e3bd1693c345f24fb4"), looks := false }, kinds := [], alts := [], laidByText := true, laidKinds := [.data, .data, .data], laidTests := true, laidLooks := .later }
def StrongCheckMatchesSpecCardSaid : Prop := Claim7.holds Tryz.pinned (.plain (OpenSpec.ofChange strongCheckMatchesSpecSpec)) strongCheckMatchesSpecCard

/-- THE TIED CARD OF 'helmsmanlaw8.StrongPolicyChecks'. -/
def strongPolicyChecksCard : Claim7 := { stood := { row := strongPolicyChecksRow, standIns := [], harness := (true, "1f754158f4661bb69ec023d624c2705ec2377aef40a540e3bd1693c345f24fb4"), looks := false }, kinds := [], alts := [], laidByText := true, laidKinds := [.data, .data, .data], laidTests := true, laidLooks := .later }
def StrongPolicyChecksCardSaid : Prop := Claim7.holds Tryz.pinned (.plain (OpenSpec.ofChange strongPolicyChecksSpec)) strongPolicyChecksCard

/-- THE TIED CARD OF 'helmsmanlaw8.StrongIsLeast'. -/
def strongIsLeastCard : Claim7 := { stood := { row := strongIsLeastRow, standIns := [], harness := (true, "1f754158f4661bb69ec023d624c2705ec2377aef40a540e3bd1693c345f24fb4"), looks := false }, kinds := [], alts := [], laidByText := true, laidKinds := [.data, .data, .data], laidTests := true, laidLooks := .later }
def StrongIsLeastCardSaid : Prop := Claim7.holds Tryz.pinned (.plain (OpenSpec.ofChange strongIsLeastSpec)) strongIsLeastCard

/-- THE TIED CARD OF 'helmsmanlaw8.StrongArrives'. -/
def strongArrivesCard : Claim7 := { stood := { row := strongArrivesRow, standIns := [], harness := (true, "1f754158f4661bb69ec023d624c2705ec2377aef40a540e3bd1693c345f24fb4"), looks := false }, kinds := [], alts := [], laidByText := true, laidKinds := [.data, .data, .data], laidTests := true, laidLooks := .later }
def StrongArrivesCardSaid : Prop := Claim7.holds Tryz.pinned (.plain (OpenSpec.ofChange strongArrivesSpec)) strongArrivesCard

/-- THE SECOND FORM's CARD OF 'helmsmanlaw8.StrongMatchesSpec'. -/
def strongMatchesSpecUptoCard : Claim7 := { stood := { row := strongMatchesSpecUptoRow, standIns := [], harness := (true, "1f754158f4661bb69ec023d624c2705ec2377aef40a540e3bd1693c345f24fb4"), looks := false }, kinds := [], alts := [], laidByText := true, laidKinds := [.data, .data, .data], laidTests := true, laidLooks := .later }
def StrongMatchesSpecUptoCardSaid : Prop := Claim7.holds Tryz.pinned (.plain (OpenSpec.upto strongMatchesSpecSpec)) strongMatchesSpecUptoCard

/-- THE SECOND FORM's CARD OF 'helmsmanlaw8.StrongCheckMatchesSpec'. -/
def strongCheckMatchesSpecUptoCard : Claim7 := { stood := { row := strongCheckMatchesSpecUptoRow, standIns := [], harness := (true, "1f754158f4661bb69ec023d624c2705ec2377aef40a540e3bd1693c345f24fb4"), looks := false }, kinds := [], alts := [], laidByText := true, laidKinds := [.data, .data, .data], laidTests := true, laidLooks := .later }
def StrongCheckMatchesSpecUptoCardSaid : Prop := Claim7.holds Tryz.pinned (.plain (OpenSpec.upto strongCheckMatchesSpecSpec)) strongCheckMatchesSpecUptoCard

/-- THE SECOND FORM's CARD OF 'helmsmanlaw8.StrongPolicyChecks'. -/
def strongPolicyChecksUptoCard : Claim7 := { stood := { row := strongPolicyChecksUptoRow, standIns := [], harness := (true, "1f754158f4661bb69ec023d624c2705ec2377aef40a540e3bd1693c345f24fb4"), looks := false }, kinds := [], alts := [], laidByText := true, laidKinds := [.data, .data, .data], laidTests := true, laidLooks := .later }
def StrongPolicyChecksUptoCardSaid : Prop := Claim7.holds Tryz.pinned (.plain (OpenSpec.upto strongPolicyChecksSpec)) strongPolicyChecksUptoCard

/-- THE SECOND FORM's CARD OF 'helmsmanlaw8.StrongIsLeast'. -/
def strongIsLeastUptoCard : Claim7 := { stood := { row := strongIsLeastUptoRow, standIns := [], harness := (true, "1f754158f4661bb69ec023d624c2705ec2377aef40a540e3bd1693c345f24fb4"), looks := false }, kinds := [], alts := [], laidByText := true, laidKinds := [.data, .data, .data], laidTests := true, laidLooks := .later }
def StrongIsLeastUptoCardSaid : Prop := Claim7.holds Tryz.pinned (.plain (OpenSpec.upto strongIsLeastSpec)) strongIsLeastUptoCard

/-- THE SECOND FORM's CARD OF 'helmsmanlaw8.StrongArrives'. -/
def strongArrivesUptoCard : Claim7 := { stood := { row := strongArrivesUptoRow, standIns := [], harness := (true, "1f754158f4661bb69ec023d624c2705ec2377aef40a540e3bd1693c345f24fb4"), looks := false }, kinds := [], alts := [], laidByText := true, laidKinds := [.data, .data, .data], laidTests := true, laidLooks := .later }
def StrongArrivesUptoCardSaid : Prop := Claim7.holds Tryz.pinned (.plain (OpenSpec.upto strongArrivesSpec)) strongArrivesUptoCard
end Rows
end Go.Proofs.YtpcodegibndgeaaGreatDoor
