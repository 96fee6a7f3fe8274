/-
  DERIVED. GIVEN WITH THE SEED: THE CARDS: each row of YtfjhmljchkhpnaaDoorRows.lean that lists a variable, with what it lists TIED to the program's text (the seventh form; the later family's looks); each row that meets fmt, with fmt's text TOLD by the authors' own Lean function (tested against real Go, not proved from fmt's source: count such statements apart). THE CARD IS WHAT COUNTS. Prove the row's statement (the work); the ties are given (YtfjhmljchkhpnaaDoorTie.lean); close each card by the builder's one call (the guide's Derived/Test/ToyasCard.lean, 'card_holds'). Laid BY PROGRAM, IN A SANDBOX (cutbox-door.mjs). By AI agents, Wed Nov 11 2026. No macro, syntax, notation, axiom, sorry.
-/
import Derived.Test.YtfjhmljchkhpnaaDoorRows
import GoSem.ClaimSeven
namespace Go.Proofs.YtfjhmljchkhpnaaDoor
namespace Rows

/-- THE TIED CARD OF 'helmsmanlaw8.RepairDistanceMatchesSpec'. -/
def repairDistanceMatchesSpecCard : Claim7 := { stood := { row := repairDistanceMatchesSpecRow, standIns := [], harness := (true, "ef575c7a7d3be293c4a1dbf0a2ebf03e2cc225cb8e4cf38c2800a345db0500b5"), looks := false }, kinds := [], alts := [], laidByText := true, laidKinds := [.data, .data, .data], laidTests := true, laidLooks := .later }
def RepairDistanceMatchesSpecCardSaid : Prop := Claim7.holds Tryd.pinned (.plain (OpenSpec.ofChange repairDistanceMatchesSpecSpec)) repairDistanceMatchesSpecCard

/-- THE TIED CARD OF 'helmsmanlaw8.RepairDistanceIsMetric'. -/
def repairDistanceIsMetricCard : Claim7 := { stood := { row := repairDistanceIsMetricRow, standIns := [], harness := (true, "ef575c7a7d3be293c4a1dbf0a2ebf03e2cc225cb8e4cf38c2800a345db0500b5"), looks := false }, kinds := [], alts := [], laidByText := true, laidKinds := [.data, .data, .data], laidTests := true, laidLooks := .later }
def RepairDistanceIsMetricCardSaid : Prop := Claim7.holds Tryd.pinned (.plain (OpenSpec.ofChange repairDistanceIsMetricSpec)) repairDistanceIsMetricCard

/-- THE TIED CARD OF 'helmsmanlaw8.RepairIsNearest'. -/
def repairIsNearestCard : Claim7 := { stood := { row := repairIsNearestRow, standIns := [], harness := (true, "ef575c7a7d3be293c4a1dbf0a2ebf03e2cc225cb8e4cf38c2800a345db0500b5"), looks := false }, kinds := [], alts := [], laidByText := true, laidKinds := [.data, .data, .data], laidTests := true, laidLooks := .later }
def RepairIsNearestCardSaid : Prop := Claim7.holds Tryd.pinned (.plain (OpenSpec.ofChange repairIsNearestSpec)) repairIsNearestCard

/-- THE TIED CARD OF 'helmsmanlaw8.RepairKeepsSolutions'. -/
def repairKeepsSolutionsCard : Claim7 := { stood := { row := repairKeepsSolutionsRow, standIns := [], harness := (true, "ef575c7a7d3be293c4a1dbf0a2ebf03e2cc225cb8e4cf38c2800a345db0500b5"), looks := false }, kinds := [], alts := [], laidByText := true, laidKinds := [.data, .data, .data], laidTests := true, laidLooks := .later }
def RepairKeepsSolutionsCardSaid : Prop := Claim7.holds Tryd.pinned (.plain (OpenSpec.ofChange repairKeepsSolutionsSpec)) repairKeepsSolutionsCard

/-- THE SECOND FORM's CARD OF 'helmsmanlaw8.RepairDistanceMatchesSpec'. -/
def repairDistanceMatchesSpecUptoCard : Claim7 := { stood := { row := repairDistanceMatchesSpecUptoRow, standIns := [], harness := (true, "ef575c7a7d3be293c4a1dbf0a2ebf03e2cc225cb8e4cf38c2800a345db0500b5"), looks := false }, kinds := [], alts := [], laidByText := true, laidKinds := [.data, .data, .data], laidTests := true, laidLooks := .later }
def RepairDistanceMatchesSpecUptoCardSaid : Prop := Claim7.holds Tryd.pinned (.plain (OpenSpec.upto repairDistanceMatchesSpecSpec)) repairDistanceMatchesSpecUptoCard

/-- THE SECOND FORM's CARD OF 'helmsmanlaw8.RepairDistanceIsMetric'. -/
def repairDistanceIsMetricUptoCard : Claim7 := { stood := { row := repairDistanceIsMetricUptoRow, standIns := [], harness := (true, "ef575c7a7d3be293c4a1dbf0a2ebf03e2cc225cb8e4cf38c2800a345db0500b5"), looks := false }, kinds := [], alts := [], laidByText := true, laidKinds := [.data, .data, .data], laidTests := true, laidLooks := .later }
def RepairDistanceIsMetricUptoCardSaid : Prop := Claim7.holds Tryd.pinned (.plain (OpenSpec.upto repairDistanceIsMetricSpec)) repairDistanceIsMetricUptoCard

/-- THE SECOND FORM's CARD OF 'helmsmanlaw8.RepairIsNearest'. -/
def repairIsNearestUptoCard : Claim7 := { stood := { row := repairIsNearestUptoRow, standIns := [], harness := (true, "ef575c7a7d3be293c4a1dbf0a2ebf03e2cc225cb8e4cf38c2800a345db0500b5"), looks := false }, kinds := [], alts := [], laidByText := true, laidKinds := [.data, .data, .data], laidTests := true, laidLooks := .later }
def RepairIsNearestUptoCardSaid : Prop := Claim7.holds Tryd.pinned (.plain (OpenSpec.upto repairIsNearestSpec)) repairIsNearestUptoCard

/-- THE SECOND FORM's CARD OF 'helmsmanlaw8.RepairKeepsSolutions'. -/
def repairKeepsSolutionsUptoCard : Claim7 := { stood := { row := repairKeepsSolutionsUptoRow, standIns := [], harness := (true, "ef575c7a7d3be293c4a1dbf0a2ebf03e2cc225cb8e4cf38c2800a345db0500b5"), looks := false }, kinds := [], alts := [], laidByText := true, laidKinds := [.data, .data, .data], laidTests := true, laidLooks := .later }
def RepairKeepsSolutionsUptoCardSaid : Prop := Claim7.holds Tryd.pinned (.plain (OpenSpec.upto repairKeepsSolutionsSpec)) repairKeepsSolutionsUptoCard
end Rows
end Go.Proofs.YtfjhmljchkhpnaaDoor
