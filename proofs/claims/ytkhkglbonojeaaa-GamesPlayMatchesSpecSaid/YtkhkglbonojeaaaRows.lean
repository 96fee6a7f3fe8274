/-
  No cell of these rows narrows 'for every input' (looked for: loops, veiled, ifaces, maps, wideKeys, modest, calm, conditions, laid).
  DERIVED. THE GIVEN ROWS OF THIS SEAT. 6 by the template 'for every input the law returns true; each argument reads behind the call as it read before'; 0 by the template 'total and deterministic' (their statements: YtkhkglbonojeaaaTotals.lean).
  GIVEN WITH THE SEED: the statements are not yours to turn. If you find one false, say at which input.
  Laid BY PROGRAM, IN A SANDBOX (cutbox-rows.mjs): the forced cells as the released guide's own fill.sh prints them over the translation 67833440e1a4d3e9… (all of the seat's roots in one cut). By AI agents, Wed Nov 11 2026. No macro, syntax, notation, axiom, sorry.
-/
import Derived.Test.YtkhkglbonojeaaaChecked
import GoSem.Claim
import GoSem.ClaimJoined
import GoSem.ClaimMapViews
import Derived.JoinedTies
import Derived.KernelRfl
namespace Go.Proofs.Ytkhkglbonojeaaa
/- THE CELL 'sum', in the pinned program and in every row, IS THE sha256 OF THE DUMP (.gsa) THAT YtkhkglbonojeaaaProg.lean LOADS. Nothing in Lean hashes anything: it is a label: what it is worth is what the hold of that sum in a sandbox is worth. -/
noncomputable def Try.pinned : Pinned := { name := "ytkhkglbonojeaaa", sum := "67833440e1a4d3e9299bf6b2da14fd2743d46270763d4b08d4243832486b5dbc", checked := Try.checked }
namespace Rows
def none {H : Type} : Left H := { results := [], args := [] }

/-- 'helmsmanlaw8.GamesMoreTargets': WHATEVER THE INPUT: true; the input reads as it did. -/
def gamesMoreTargetsSpec : ChangeSpec := { name := "gamesMoreTargets", fn := fun _ => fun
  | [d1, d2, d3, d4] => { results := [.lit (.bool true)], args := [d1, d2, d3, d4] }
  | _ => none }
def gamesMoreTargetsRow : OpenClaim := { program := "ytkhkglbonojeaaa", sum := "67833440e1a4d3e9299bf6b2da14fd2743d46270763d4b08d4243832486b5dbc", func := "helmsman/helmsmanlaw8.GamesMoreTargets", spec := "gamesMoreTargets", unfollowed := true, recurses := true, apart := false }
def GamesMoreTargetsSaid : Prop := gamesMoreTargetsRow.holds Try.pinned (OpenSpec.ofChange gamesMoreTargetsSpec)

/-- ITS FALSE NEIGHBOUR: 'it returns false'. Refute it at one input. -/
def gamesMoreTargetsWrong : ChangeSpec := { name := "gamesMoreTargets", fn := fun _ => fun
  | [d1, d2, d3, d4] => { results := [.lit (.bool false)], args := [d1, d2, d3, d4] }
  | _ => none }
def GamesMoreTargetsWrongFalsely : Prop := gamesMoreTargetsRow.holds Try.pinned (OpenSpec.ofChange gamesMoreTargetsWrong)

/-- 'helmsmanlaw8.GamesMatchesSpec': WHATEVER THE INPUT: true; the input reads as it did. -/
def gamesMatchesSpecSpec : ChangeSpec := { name := "gamesMatchesSpec", fn := fun _ => fun
  | [d1, d2, d3] => { results := [.lit (.bool true)], args := [d1, d2, d3] }
  | _ => none }
def gamesMatchesSpecRow : OpenClaim := { program := "ytkhkglbonojeaaa", sum := "67833440e1a4d3e9299bf6b2da14fd2743d46270763d4b08d4243832486b5dbc", func := "helmsman/helmsmanlaw8.GamesMatchesSpec", spec := "gamesMatchesSpec", unfollowed := true, recurses := true, apart := false }
def GamesMatchesSpecSaid : Prop := gamesMatchesSpecRow.holds Try.pinned (OpenSpec.ofChange gamesMatchesSpecSpec)

/-- ITS FALSE NEIGHBOUR: 'it returns false'. Refute it at one input. -/
def gamesMatchesSpecWrong : ChangeSpec := { name := "gamesMatchesSpec", fn := fun _ => fun
  | [d1, d2, d3] => { results := [.lit (.bool false)], args := [d1, d2, d3] }
  | _ => none }
def GamesMatchesSpecWrongFalsely : Prop := gamesMatchesSpecRow.holds Try.pinned (OpenSpec.ofChange gamesMatchesSpecWrong)

/-- 'helmsmanlaw8.GamesDetermined': WHATEVER THE INPUT: true; the input reads as it did. -/
def gamesDeterminedSpec : ChangeSpec := { name := "gamesDetermined", fn := fun _ => fun
  | [d1, d2, d3] => { results := [.lit (.bool true)], args := [d1, d2, d3] }
  | _ => none }
def gamesDeterminedRow : OpenClaim := { program := "ytkhkglbonojeaaa", sum := "67833440e1a4d3e9299bf6b2da14fd2743d46270763d4b08d4243832486b5dbc", func := "helmsman/helmsmanlaw8.GamesDetermined", spec := "gamesDetermined", unfollowed := true, recurses := true, apart := false }
def GamesDeterminedSaid : Prop := gamesDeterminedRow.holds Try.pinned (OpenSpec.ofChange gamesDeterminedSpec)

/-- ITS FALSE NEIGHBOUR: 'it returns false'. Refute it at one input. -/
def gamesDeterminedWrong : ChangeSpec := { name := "gamesDetermined", fn := fun _ => fun
  | [d1, d2, d3] => { results := [.lit (.bool false)], args := [d1, d2, d3] }
  | _ => none }
def GamesDeterminedWrongFalsely : Prop := gamesDeterminedRow.holds Try.pinned (OpenSpec.ofChange gamesDeterminedWrong)

/-- 'helmsmanlaw8.GamesSafeStays': WHATEVER THE INPUT: true; the input reads as it did. -/
def gamesSafeStaysSpec : ChangeSpec := { name := "gamesSafeStays", fn := fun _ => fun
  | [d1, d2, d3, d4] => { results := [.lit (.bool true)], args := [d1, d2, d3, d4] }
  | _ => none }
def gamesSafeStaysRow : OpenClaim := { program := "ytkhkglbonojeaaa", sum := "67833440e1a4d3e9299bf6b2da14fd2743d46270763d4b08d4243832486b5dbc", func := "helmsman/helmsmanlaw8.GamesSafeStays", spec := "gamesSafeStays", unfollowed := true, recurses := true, apart := false }
def GamesSafeStaysSaid : Prop := gamesSafeStaysRow.holds Try.pinned (OpenSpec.ofChange gamesSafeStaysSpec)

/-- ITS FALSE NEIGHBOUR: 'it returns false'. Refute it at one input. -/
def gamesSafeStaysWrong : ChangeSpec := { name := "gamesSafeStays", fn := fun _ => fun
  | [d1, d2, d3, d4] => { results := [.lit (.bool false)], args := [d1, d2, d3, d4] }
  | _ => none }
def GamesSafeStaysWrongFalsely : Prop := gamesSafeStaysRow.holds Try.pinned (OpenSpec.ofChange gamesSafeStaysWrong)

/-- 'helmsmanlaw8.GamesPlayMatchesSpec': WHATEVER THE INPUT: true; the input reads as it did. -/
def gamesPlayMatchesSpecSpec : ChangeSpec := { name := "gamesPlayMatchesSpec", fn := fun _ => fun
  | [d1, d2, d3, d4] => { results := [.lit (.bool true)], args := [d1, d2, d3, d4] }
  | _ => none }
def gamesPlayMatchesSpecRow : OpenClaim := { program := "ytkhkglbonojeaaa", sum := "67833440e1a4d3e9299bf6b2da14fd2743d46270763d4b08d4243832486b5dbc", func := "helmsman/helmsmanlaw8.GamesPlayMatchesSpec", spec := "gamesPlayMatchesSpec", unfollowed := true, recurses := true, apart := false }
def GamesPlayMatchesSpecSaid : Prop := gamesPlayMatchesSpecRow.holds Try.pinned (OpenSpec.ofChange gamesPlayMatchesSpecSpec)

/-- ITS FALSE NEIGHBOUR: 'it returns false'. Refute it at one input. -/
def gamesPlayMatchesSpecWrong : ChangeSpec := { name := "gamesPlayMatchesSpec", fn := fun _ => fun
  | [d1, d2, d3, d4] => { results := [.lit (.bool false)], args := [d1, d2, d3, d4] }
  | _ => none }
def GamesPlayMatchesSpecWrongFalsely : Prop := gamesPlayMatchesSpecRow.holds Try.pinned (OpenSpec.ofChange gamesPlayMatchesSpecWrong)

/-- 'helmsmanlaw8.GamesStrategyWins': WHATEVER THE INPUT: true; the input reads as it did. -/
def gamesStrategyWinsSpec : ChangeSpec := { name := "gamesStrategyWins", fn := fun _ => fun
  | [d1, d2, d3, d4, d5] => { results := [.lit (.bool true)], args := [d1, d2, d3, d4, d5] }
  | _ => none }
def gamesStrategyWinsRow : OpenClaim := { program := "ytkhkglbonojeaaa", sum := "67833440e1a4d3e9299bf6b2da14fd2743d46270763d4b08d4243832486b5dbc", func := "helmsman/helmsmanlaw8.GamesStrategyWins", spec := "gamesStrategyWins", unfollowed := true, recurses := true, apart := false }
def GamesStrategyWinsSaid : Prop := gamesStrategyWinsRow.holds Try.pinned (OpenSpec.ofChange gamesStrategyWinsSpec)

/-- ITS FALSE NEIGHBOUR: 'it returns false'. Refute it at one input. -/
def gamesStrategyWinsWrong : ChangeSpec := { name := "gamesStrategyWins", fn := fun _ => fun
  | [d1, d2, d3, d4, d5] => { results := [.lit (.bool false)], args := [d1, d2, d3, d4, d5] }
  | _ => none }
def GamesStrategyWinsWrongFalsely : Prop := gamesStrategyWinsRow.holds Try.pinned (OpenSpec.ofChange gamesStrategyWinsWrong)

/- THE SECOND FORM. 'bulk': how many values and letters a reading holds, each counted each time it is reached (what is shared counts as often as it is met; a slice's spare places count too). A statement '..UptoSaid' is the law's where the arguments, and the package variables that the reading takes, are together of bulk at most 1048576: NARROWER than '..Said'. Prove '..Said' where nothing that the law and all that it calls make is longer than what came in: it says more and counts as full. Else prove '..UptoSaid'. A law counts once. -/
mutual
def uptoBulk {H : Type} : DataW H → Nat
  | .lit (.string bytes) => bytes.length + 1
  | .lit _ => 1
  | .nil => 1
  | .ptr d => uptoBulk d + 1
  | .slice elems spare => uptoBulkAll elems + uptoBulkAll spare + 1
  | .agg parts => uptoBulkAll parts + 1
  | .iface _ d => uptoBulk d + 1
  | .map entries => uptoBulkEntries entries + 1
  | .held _ => 1
def uptoBulkAll {H : Type} : List (DataW H) → Nat
  | [] => 0
  | d :: r => uptoBulk d + uptoBulkAll r
def uptoBulkEntries {H : Type} : List (Lit × DataW H) → Nat
  | [] => 0
  | x :: r => uptoBulkEntry x + uptoBulkEntries r
def uptoBulkEntry {H : Type} : Lit × DataW H → Nat
  | (.string bytes, d) => bytes.length + uptoBulk d + 1
  | (_, d) => uptoBulk d + 1
 end
def uptoSmall : (H : Type) → List (DataW H) → Bool := fun _ ds => decide (uptoBulkAll ds ≤ 1048576)
def OpenSpec.upto (s : _root_.Go.ChangeSpec) : _root_.Go.OpenSpec := { _root_.Go.OpenSpec.ofChange s with cond := some uptoSmall }

/-- 'helmsmanlaw8.GamesMoreTargets', WHERE WHAT IT READS IS OF BULK AT MOST 1048576: true; the input reads as it did. -/
def gamesMoreTargetsUptoRow : OpenClaim := { program := "ytkhkglbonojeaaa", sum := "67833440e1a4d3e9299bf6b2da14fd2743d46270763d4b08d4243832486b5dbc", func := "helmsman/helmsmanlaw8.GamesMoreTargets", spec := "gamesMoreTargets", unfollowed := true, recurses := true, apart := false, narrowed := true }
def GamesMoreTargetsUptoSaid : Prop := gamesMoreTargetsUptoRow.holds Try.pinned (OpenSpec.upto gamesMoreTargetsSpec)

/-- 'helmsmanlaw8.GamesMatchesSpec', WHERE WHAT IT READS IS OF BULK AT MOST 1048576: true; the input reads as it did. -/
def gamesMatchesSpecUptoRow : OpenClaim := { program := "ytkhkglbonojeaaa", sum := "67833440e1a4d3e9299bf6b2da14fd2743d46270763d4b08d4243832486b5dbc", func := "helmsman/helmsmanlaw8.GamesMatchesSpec", spec := "gamesMatchesSpec", unfollowed := true, recurses := true, apart := false, narrowed := true }
def GamesMatchesSpecUptoSaid : Prop := gamesMatchesSpecUptoRow.holds Try.pinned (OpenSpec.upto gamesMatchesSpecSpec)

/-- 'helmsmanlaw8.GamesDetermined', WHERE WHAT IT READS IS OF BULK AT MOST 1048576: true; the input reads as it did. -/
def gamesDeterminedUptoRow : OpenClaim := { program := "ytkhkglbonojeaaa", sum := "67833440e1a4d3e9299bf6b2da14fd2743d46270763d4b08d4243832486b5dbc", func := "helmsman/helmsmanlaw8.GamesDetermined", spec := "gamesDetermined", unfollowed := true, recurses := true, apart := false, narrowed := true }
def GamesDeterminedUptoSaid : Prop := gamesDeterminedUptoRow.holds Try.pinned (OpenSpec.upto gamesDeterminedSpec)

/-- 'helmsmanlaw8.GamesSafeStays', WHERE WHAT IT READS IS OF BULK AT MOST 1048576: true; the input reads as it did. -/
def gamesSafeStaysUptoRow : OpenClaim := { program := "ytkhkglbonojeaaa", sum := "67833440e1a4d3e9299bf6b2da14fd2743d46270763d4b08d4243832486b5dbc", func := "helmsman/helmsmanlaw8.GamesSafeStays", spec := "gamesSafeStays", unfollowed := true, recurses := true, apart := false, narrowed := true }
def GamesSafeStaysUptoSaid : Prop := gamesSafeStaysUptoRow.holds Try.pinned (OpenSpec.upto gamesSafeStaysSpec)

/-- 'helmsmanlaw8.GamesPlayMatchesSpec', WHERE WHAT IT READS IS OF BULK AT MOST 1048576: true; the input reads as it did. -/
def gamesPlayMatchesSpecUptoRow : OpenClaim := { program := "ytkhkglbonojeaaa", sum := "67833440e1a4d3e9299bf6b2da14fd2743d46270763d4b08d4243832486b5dbc", func := "helmsman/helmsmanlaw8.GamesPlayMatchesSpec", spec := "gamesPlayMatchesSpec", unfollowed := true, recurses := true, apart := false, narrowed := true }
def GamesPlayMatchesSpecUptoSaid : Prop := gamesPlayMatchesSpecUptoRow.holds Try.pinned (OpenSpec.upto gamesPlayMatchesSpecSpec)

/-- 'helmsmanlaw8.GamesStrategyWins', WHERE WHAT IT READS IS OF BULK AT MOST 1048576: true; the input reads as it did. -/
def gamesStrategyWinsUptoRow : OpenClaim := { program := "ytkhkglbonojeaaa", sum := "67833440e1a4d3e9299bf6b2da14fd2743d46270763d4b08d4243832486b5dbc", func := "helmsman/helmsmanlaw8.GamesStrategyWins", spec := "gamesStrategyWins", unfollowed := true, recurses := true, apart := false, narrowed := true }
def GamesStrategyWinsUptoSaid : Prop := gamesStrategyWinsUptoRow.holds Try.pinned (OpenSpec.upto gamesStrategyWinsSpec)

end Rows
end Go.Proofs.Ytkhkglbonojeaaa
