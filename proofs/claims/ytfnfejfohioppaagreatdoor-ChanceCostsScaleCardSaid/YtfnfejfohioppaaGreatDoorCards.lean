/-
  DERIVED. GIVEN WITH THE SEED: THE CARDS: each row of YtfnfejfohioppaaGreatDoorRows.lean that lists a variable, with what it lists TIED to the program's text (the seventh form; the later family's looks); each row that meets fmt, with fmt's text TOLD by the authors' own Lean function (tested against real Go, not proved from fmt's source: count such statements apart). THE CARD IS WHAT COUNTS. Prove the row's statement (the work); the ties are given (YtfnfejfohioppaaGreatDoorTie.lean); close each card by the builder's one call (the guide's Derived/Test/ToyasCard.lean, 'card_holds'). Laid BY PROGRAM, IN A SANDBOX (cutbox-door.mjs). By AI agents, Wed Nov 11 2026. No macro, syntax, notation, axiom, sorry.
-/
import Derived.Test.YtfnfejfohioppaaGreatDoorRows
import GoSem.ClaimSeven
namespace Go.Proofs.YtfnfejfohioppaaGreatDoor
namespace Rows

/-- THE TIED CARD OF 'helmsmanlaw8.ChanceBestMatchesSpec'. -/
def chanceBestMatchesSpecCard : Claim7 := { stood := { row := chanceBestMatchesSpecRow, standIns := [], harness := (true, "f57e083ceb234e8fc81f2b7c2c322775491ce230df88e607cd2aa3cfcc3b61d9"), looks := true }, kinds := [], alts := [], laidByText := true, laidKinds := [.data, .data, .data], laidTests := true, laidLooks := .later }
def ChanceBestMatchesSpecCardSaid : Prop := Claim7.holds Tryz.pinned (.plain (OpenSpec.ofChange chanceBestMatchesSpecSpec)) chanceBestMatchesSpecCard

/-- THE TIED CARD OF 'helmsmanlaw8.ChanceValueMatchesSpec'. -/
def chanceValueMatchesSpecCard : Claim7 := { stood := { row := chanceValueMatchesSpecRow, standIns := [], harness := (true, "f57e083ceb234e8fc81f2b7c2c322775491ce230df88e607cd2aa3cfcc3b61d9"), looks := true }, kinds := [], alts := [], laidByText := true, laidKinds := [.data, .data, .data], laidTests := true, laidLooks := .later }
def ChanceValueMatchesSpecCardSaid : Prop := Claim7.holds Tryz.pinned (.plain (OpenSpec.ofChange chanceValueMatchesSpecSpec)) chanceValueMatchesSpecCard

/-- THE TIED CARD OF 'helmsmanlaw8.ChanceBestIsLeast'. -/
def chanceBestIsLeastCard : Claim7 := { stood := { row := chanceBestIsLeastRow, standIns := [], harness := (true, "f57e083ceb234e8fc81f2b7c2c322775491ce230df88e607cd2aa3cfcc3b61d9"), looks := true }, kinds := [], alts := [], laidByText := true, laidKinds := [.data, .data, .data], laidTests := true, laidLooks := .later }
def ChanceBestIsLeastCardSaid : Prop := Claim7.holds Tryz.pinned (.plain (OpenSpec.ofChange chanceBestIsLeastSpec)) chanceBestIsLeastCard

/-- THE TIED CARD OF 'helmsmanlaw8.ChanceBestHasItsValue'. -/
def chanceBestHasItsValueCard : Claim7 := { stood := { row := chanceBestHasItsValueRow, standIns := [], harness := (true, "f57e083ceb234e8fc81f2b7c2c322775491ce230df88e607cd2aa3cfcc3b61d9"), looks := true }, kinds := [], alts := [], laidByText := true, laidKinds := [.data, .data, .data], laidTests := true, laidLooks := .later }
def ChanceBestHasItsValueCardSaid : Prop := Claim7.holds Tryz.pinned (.plain (OpenSpec.ofChange chanceBestHasItsValueSpec)) chanceBestHasItsValueCard

/-- THE TIED CARD OF 'helmsmanlaw8.ChanceCostsScale'. -/
def chanceCostsScaleCard : Claim7 := { stood := { row := chanceCostsScaleRow, standIns := [], harness := (true, "f57e083ceb234e8fc81f2b7c2c322775491ce230df88e607cd2aa3cfcc3b61d9"), looks := true }, kinds := [], alts := [], laidByText := true, laidKinds := [.data, .data, .data], laidTests := true, laidLooks := .later }
def ChanceCostsScaleCardSaid : Prop := Claim7.holds Tryz.pinned (.plain (OpenSpec.ofChange chanceCostsScaleSpec)) chanceCostsScaleCard

/-- THE TIED CARD OF 'helmsmanlaw8.ChanceWithoutChance'. -/
def chanceWithoutChanceCard : Claim7 := { stood := { row := chanceWithoutChanceRow, standIns := [], harness := (true, "f57e083ceb234e8fc81f2b7c2c322775491ce230df88e607cd2aa3cfcc3b61d9"), looks := true }, kinds := [], alts := [], laidByText := true, laidKinds := [.data, .data, .data], laidTests := true, laidLooks := .later }
def ChanceWithoutChanceCardSaid : Prop := Claim7.holds Tryz.pinned (.plain (OpenSpec.ofChange chanceWithoutChanceSpec)) chanceWithoutChanceCard

/-- THE SECOND FORM's CARD OF 'helmsmanlaw8.ChanceBestMatchesSpec'. -/
def chanceBestMatchesSpecUptoCard : Claim7 := { stood := { row := chanceBestMatchesSpecUptoRow, standIns := [], harness := (true, "f57e083ceb234e8fc81f2b7c2c322775491ce230df88e607cd2aa3cfcc3b61d9"), looks := true }, kinds := [], alts := [], laidByText := true, laidKinds := [.data, .data, .data], laidTests := true, laidLooks := .later }
def ChanceBestMatchesSpecUptoCardSaid : Prop := Claim7.holds Tryz.pinned (.plain (OpenSpec.upto chanceBestMatchesSpecSpec)) chanceBestMatchesSpecUptoCard

/-- THE SECOND FORM's CARD OF 'helmsmanlaw8.ChanceValueMatchesSpec'. -/
def chanceValueMatchesSpecUptoCard : Claim7 := { stood := { row := chanceValueMatchesSpecUptoRow, standIns := [], harness := (true, "f57e083ceb234e8fc81f2b7c2c322775491ce230df88e607cd2aa3cfcc3b61d9"), looks := true }, kinds := [], alts := [], laidByText := true, laidKinds := [.data, .data, .data], laidTests := true, laidLooks := .later }
def ChanceValueMatchesSpecUptoCardSaid : Prop := Claim7.holds Tryz.pinned (.plain (OpenSpec.upto chanceValueMatchesSpecSpec)) chanceValueMatchesSpecUptoCard

/-- THE SECOND FORM's CARD OF 'helmsmanlaw8.ChanceBestIsLeast'. -/
def chanceBestIsLeastUptoCard : Claim7 := { stood := { row := chanceBestIsLeastUptoRow, standIns := [], harness := (true, "f57e083ceb234e8fc81f2b7c2c322775491ce230df88e607cd2aa3cfcc3b61d9"), looks := true }, kinds := [], alts := [], laidByText := true, laidKinds := [.data, .data, .data], laidTests := true, laidLooks := .later }
def ChanceBestIsLeastUptoCardSaid : Prop := Claim7.holds Tryz.pinned (.plain (OpenSpec.upto chanceBestIsLeastSpec)) chanceBestIsLeastUptoCard

/-- THE SECOND FORM's CARD OF 'helmsmanlaw8.ChanceBestHasItsValue'. -/
def chanceBestHasItsValueUptoCard : Claim7 := { stood := { row := chanceBestHasItsValueUptoRow, standIns := [], harness := (true, "f57e083ceb234e8fc81f2b7c2c322775491ce230df88e607cd2aa3cfcc3b61d9"), looks := true }, kinds := [], alts := [], laidByText := true, laidKinds := [.data, .data, .data], laidTests := true, laidLooks := .later }
def ChanceBestHasItsValueUptoCardSaid : Prop := Claim7.holds Tryz.pinned (.plain (OpenSpec.upto chanceBestHasItsValueSpec)) chanceBestHasItsValueUptoCard

/-- THE SECOND FORM's CARD OF 'helmsmanlaw8.ChanceCostsScale'. -/
def chanceCostsScaleUptoCard : Claim7 := { stood := { row := chanceCostsScaleUptoRow, standIns := [], harness := (true, "f57e083ceb234e8fc81f2b7c2c322775491ce230df88e607cd2aa3cfcc3b61d9"), looks := true }, kinds := [], alts := [], laidByText := true, laidKinds := [.data, .data, .data], laidTests := true, laidLooks := .later }
def ChanceCostsScaleUptoCardSaid : Prop := Claim7.holds Tryz.pinned (.plain (OpenSpec.upto chanceCostsScaleSpec)) chanceCostsScaleUptoCard

/-- THE SECOND FORM's CARD OF 'helmsmanlaw8.ChanceWithoutChance'. -/
def chanceWithoutChanceUptoCard : Claim7 := { stood := { row := chanceWithoutChanceUptoRow, standIns := [], harness := (true, "f57e083ceb234e8fc81f2b7c2c322775491ce230df88e607cd2aa3cfcc3b61d9"), looks := true }, kinds := [], alts := [], laidByText := true, laidKinds := [.data, .data, .data], laidTests := true, laidLooks := .later }
def ChanceWithoutChanceUptoCardSaid : Prop := Claim7.holds Tryz.pinned (.plain (OpenSpec.upto chanceWithoutChanceSpec)) chanceWithoutChanceUptoCard
end Rows
end Go.Proofs.YtfnfejfohioppaaGreatDoor
