/-
  DERIVED. GIVEN WITH THE SEED: THE CARDS: each row of YtiooehonogebkaaDoorRows.lean that lists a variable, with what it lists TIED to the program's text (the seventh form; the later family's looks); each row that meets fmt, with fmt's text TOLD by the authors' own Lean function (tested against real Go, not proved from fmt's source: count such statements apart). THE CARD IS WHAT COUNTS. Prove the row's statement (the work); the ties are given (YtiooehonogebkaaDoorTie.lean); close each card by the builder's one call (the guide's Derived/Test/ToyasCard.lean, 'card_holds'). Laid BY PROGRAM, IN A SANDBOX (cutbox-door.mjs). By AI agents, Wed Nov 11 2026. No macro, syntax, notation, axiom, sorry.
-/
import Derived.Test.YtiooehonogebkaaDoorRows
import GoSem.ClaimSeven
namespace Go.Proofs.YtiooehonogebkaaDoor
namespace Rows

/-- THE TIED CARD OF 'helmsmanlaw8.MergingMergeMatchesSpec'. -/
def mergingMergeMatchesSpecCard : Claim7 := { stood := { row := mergingMergeMatchesSpecRow, standIns := [], harness := (true, "72a3a8fddcbab35d70aea3dceed886e85de3f7093c66dc680f332ab169997c6c"), looks := false }, kinds := [], alts := [], laidByText := true, laidKinds := [.data, .data, .data], laidTests := true, laidLooks := .later }
def MergingMergeMatchesSpecCardSaid : Prop := Claim7.holds Tryd.pinned (.plain (OpenSpec.ofChange mergingMergeMatchesSpecSpec)) mergingMergeMatchesSpecCard

/-- THE TIED CARD OF 'helmsmanlaw8.MergingMergeChecks'. -/
def mergingMergeChecksCard : Claim7 := { stood := { row := mergingMergeChecksRow, standIns := [], harness := (true, "72a3a8fddcbab35d70aea3dceed886e85de3f7093c66dc680f332ab169997c6c"), looks := false }, kinds := [], alts := [], laidByText := true, laidKinds := [.data, .data, .data], laidTests := true, laidLooks := .later }
def MergingMergeChecksCardSaid : Prop := Claim7.holds Tryd.pinned (.plain (OpenSpec.ofChange mergingMergeChecksSpec)) mergingMergeChecksCard

/-- THE TIED CARD OF 'helmsmanlaw8.MergingFindsTurns'. -/
def mergingFindsTurnsCard : Claim7 := { stood := { row := mergingFindsTurnsRow, standIns := [], harness := (true, "72a3a8fddcbab35d70aea3dceed886e85de3f7093c66dc680f332ab169997c6c"), looks := false }, kinds := [], alts := [], laidByText := true, laidKinds := [.data, .data, .data], laidTests := true, laidLooks := .later }
def MergingFindsTurnsCardSaid : Prop := Claim7.holds Tryd.pinned (.plain (OpenSpec.ofChange mergingFindsTurnsSpec)) mergingFindsTurnsCard

/-- THE TIED CARD OF 'helmsmanlaw8.MergingMatchesSpec'. -/
def mergingMatchesSpecCard : Claim7 := { stood := { row := mergingMatchesSpecRow, standIns := [], harness := (true, "72a3a8fddcbab35d70aea3dceed886e85de3f7093c66dc680f332ab169997c6c"), looks := false }, kinds := [], alts := [], laidByText := true, laidKinds := [.data, .data, .data], laidTests := true, laidLooks := .later }
def MergingMatchesSpecCardSaid : Prop := Claim7.holds Tryd.pinned (.plain (OpenSpec.ofChange mergingMatchesSpecSpec)) mergingMatchesSpecCard

/-- THE TIED CARD OF 'helmsmanlaw8.MergingWithoutConflicts'. -/
def mergingWithoutConflictsCard : Claim7 := { stood := { row := mergingWithoutConflictsRow, standIns := [], harness := (true, "72a3a8fddcbab35d70aea3dceed886e85de3f7093c66dc680f332ab169997c6c"), looks := false }, kinds := [], alts := [], laidByText := true, laidKinds := [.data, .data, .data], laidTests := true, laidLooks := .later }
def MergingWithoutConflictsCardSaid : Prop := Claim7.holds Tryd.pinned (.plain (OpenSpec.ofChange mergingWithoutConflictsSpec)) mergingWithoutConflictsCard

/-- THE SECOND FORM's CARD OF 'helmsmanlaw8.MergingMergeMatchesSpec'. -/
def mergingMergeMatchesSpecUptoCard : Claim7 := { stood := { row := mergingMergeMatchesSpecUptoRow, standIns := [], harness := (true, "72a3a8fddcbab35d70aea3dceed886e85de3f7093c66dc680f332ab169997c6c"), looks := false }, kinds := [], alts := [], laidByText := true, laidKinds := [.data, .data, .data], laidTests := true, laidLooks := .later }
def MergingMergeMatchesSpecUptoCardSaid : Prop := Claim7.holds Tryd.pinned (.plain (OpenSpec.upto mergingMergeMatchesSpecSpec)) mergingMergeMatchesSpecUptoCard

/-- THE SECOND FORM's CARD OF 'helmsmanlaw8.MergingMergeChecks'. -/
def mergingMergeChecksUptoCard : Claim7 := { stood := { row := mergingMergeChecksUptoRow, standIns := [], harness := (true, "72a3a8fddcbab35d70aea3dceed886e85de3f7093c66dc680f332ab169997c6c"), looks := false }, kinds := [], alts := [], laidByText := true, laidKinds := [.data, .data, .data], laidTests := true, laidLooks := .later }
def MergingMergeChecksUptoCardSaid : Prop := Claim7.holds Tryd.pinned (.plain (OpenSpec.upto mergingMergeChecksSpec)) mergingMergeChecksUptoCard

/-- THE SECOND FORM's CARD OF 'helmsmanlaw8.MergingFindsTurns'. -/
def mergingFindsTurnsUptoCard : Claim7 := { stood := { row := mergingFindsTurnsUptoRow, standIns := [], harness := (true, "72a3a8fddcbab35d70aea3dceed886e85de3f7093c66dc680f332ab169997c6c"), looks := false }, kinds := [], alts := [], laidByText := true, laidKinds := [.data, .data, .data], laidTests := true, laidLooks := .later }
def MergingFindsTurnsUptoCardSaid : Prop := Claim7.holds Tryd.pinned (.plain (OpenSpec.upto mergingFindsTurnsSpec)) mergingFindsTurnsUptoCard

/-- THE SECOND FORM's CARD OF 'helmsmanlaw8.MergingMatchesSpec'. -/
def mergingMatchesSpecUptoCard : Claim7 := { stood := { row := mergingMatchesSpecUptoRow, standIns := [], harness := (true, "72a3a8fddcbab35d70aea3dceed886e85de3f7093c66dc680f332ab169997c6c"), looks := false }, kinds := [], alts := [], laidByText := true, laidKinds := [.data, .data, .data], laidTests := true, laidLooks := .later }
def MergingMatchesSpecUptoCardSaid : Prop := Claim7.holds Tryd.pinned (.plain (OpenSpec.upto mergingMatchesSpecSpec)) mergingMatchesSpecUptoCard

/-- THE SECOND FORM's CARD OF 'helmsmanlaw8.MergingWithoutConflicts'. -/
def mergingWithoutConflictsUptoCard : Claim7 := { stood := { row := mergingWithoutConflictsUptoRow, standIns := [], harness := (true, "72a3a8fddcbab35d70aea3dceed886e85de3f7093c66dc680f332ab169997c6c"), looks := false }, kinds := [], alts := [], laidByText := true, laidKinds := [.data, .data, .data], laidTests := true, laidLooks := .later }
def MergingWithoutConflictsUptoCardSaid : Prop := Claim7.holds Tryd.pinned (.plain (OpenSpec.upto mergingWithoutConflictsSpec)) mergingWithoutConflictsUptoCard
end Rows
end Go.Proofs.YtiooehonogebkaaDoor
