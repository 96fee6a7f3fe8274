/-
  No cell of these rows narrows 'for every input' (looked for: loops, veiled, ifaces, maps, wideKeys, modest, calm, conditions, laid).
  DERIVED. THE GIVEN ROWS OF THIS SEAT. 5 by the template 'for every input the law returns true; each argument reads behind the call as it read before'; 0 by the template 'total and deterministic' (their statements: YtfjbddjoagefkaaTotals.lean).
  GIVEN WITH THE SEED: the statements are not yours to turn. If you find one false, say at which input.
  Laid BY PROGRAM, IN A SANDBOX (cutbox-rows.mjs): the forced cells as the released guide's own fill.sh prints them over the translation 220fe919a6344d3f… (all of the seat's roots in one cut). By AI agents, Wed Nov 11 2026. No macro, syntax, notation, axiom, sorry.
-/
import Derived.Test.YtfjbddjoagefkaaChecked
import GoSem.Claim
import GoSem.ClaimJoined
import GoSem.ClaimMapViews
import Derived.JoinedTies
import Derived.KernelRfl
namespace Go.Proofs.Ytfjbddjoagefkaa
/- THE CELL 'sum', in the pinned program and in every row, IS THE sha256 OF THE DUMP (.gsa) THAT YtfjbddjoagefkaaProg.lean LOADS. Nothing in Lean hashes anything: it is a label: what it is worth is what the hold of that sum in a sandbox is worth. -/
noncomputable def Try.pinned : Pinned := { name := "ytfjbddjoagefkaa", sum := "220fe919a6344d3f380707f3890b058f02c1a8b133254a1ee9b196bdc3f01efe", checked := Try.checked }
namespace Rows
def none {H : Type} : Left H := { results := [], args := [] }

/-- 'helmsmanlaw8.MonitorConditionsAreExact': WHATEVER THE INPUT: true; the input reads as it did. -/
def monitorConditionsAreExactSpec : ChangeSpec := { name := "monitorConditionsAreExact", fn := fun _ => fun
  | [d1, d2, d3, d4] => { results := [.lit (.bool true)], args := [d1, d2, d3, d4] }
  | _ => none }
def monitorConditionsAreExactRow : OpenClaim := { program := "ytfjbddjoagefkaa", sum := "220fe919a6344d3f380707f3890b058f02c1a8b133254a1ee9b196bdc3f01efe", func := "helmsman/helmsmanlaw8.MonitorConditionsAreExact", spec := "monitorConditionsAreExact", unfollowed := true, recurses := true, apart := false }
def MonitorConditionsAreExactSaid : Prop := monitorConditionsAreExactRow.holds Try.pinned (OpenSpec.ofChange monitorConditionsAreExactSpec)

/-- ITS FALSE NEIGHBOUR: 'it returns false'. Refute it at one input. -/
def monitorConditionsAreExactWrong : ChangeSpec := { name := "monitorConditionsAreExact", fn := fun _ => fun
  | [d1, d2, d3, d4] => { results := [.lit (.bool false)], args := [d1, d2, d3, d4] }
  | _ => none }
def MonitorConditionsAreExactWrongFalsely : Prop := monitorConditionsAreExactRow.holds Try.pinned (OpenSpec.ofChange monitorConditionsAreExactWrong)

/-- 'helmsmanlaw8.MonitorMatchesSpec': WHATEVER THE INPUT: true; the input reads as it did. -/
def monitorMatchesSpecSpec : ChangeSpec := { name := "monitorMatchesSpec", fn := fun _ => fun
  | [d1, d2, d3, d4] => { results := [.lit (.bool true)], args := [d1, d2, d3, d4] }
  | _ => none }
def monitorMatchesSpecRow : OpenClaim := { program := "ytfjbddjoagefkaa", sum := "220fe919a6344d3f380707f3890b058f02c1a8b133254a1ee9b196bdc3f01efe", func := "helmsman/helmsmanlaw8.MonitorMatchesSpec", spec := "monitorMatchesSpec", unfollowed := true, recurses := true, apart := false }
def MonitorMatchesSpecSaid : Prop := monitorMatchesSpecRow.holds Try.pinned (OpenSpec.ofChange monitorMatchesSpecSpec)

/-- ITS FALSE NEIGHBOUR: 'it returns false'. Refute it at one input. -/
def monitorMatchesSpecWrong : ChangeSpec := { name := "monitorMatchesSpec", fn := fun _ => fun
  | [d1, d2, d3, d4] => { results := [.lit (.bool false)], args := [d1, d2, d3, d4] }
  | _ => none }
def MonitorMatchesSpecWrongFalsely : Prop := monitorMatchesSpecRow.holds Try.pinned (OpenSpec.ofChange monitorMatchesSpecWrong)

/-- 'helmsmanlaw8.MonitorMissingSuffices': WHATEVER THE INPUT: true; the input reads as it did. -/
def monitorMissingSufficesSpec : ChangeSpec := { name := "monitorMissingSuffices", fn := fun _ => fun
  | [d1, d2, d3, d4] => { results := [.lit (.bool true)], args := [d1, d2, d3, d4] }
  | _ => none }
def monitorMissingSufficesRow : OpenClaim := { program := "ytfjbddjoagefkaa", sum := "220fe919a6344d3f380707f3890b058f02c1a8b133254a1ee9b196bdc3f01efe", func := "helmsman/helmsmanlaw8.MonitorMissingSuffices", spec := "monitorMissingSuffices", unfollowed := true, recurses := true, apart := false }
def MonitorMissingSufficesSaid : Prop := monitorMissingSufficesRow.holds Try.pinned (OpenSpec.ofChange monitorMissingSufficesSpec)

/-- ITS FALSE NEIGHBOUR: 'it returns false'. Refute it at one input. -/
def monitorMissingSufficesWrong : ChangeSpec := { name := "monitorMissingSuffices", fn := fun _ => fun
  | [d1, d2, d3, d4] => { results := [.lit (.bool false)], args := [d1, d2, d3, d4] }
  | _ => none }
def MonitorMissingSufficesWrongFalsely : Prop := monitorMissingSufficesRow.holds Try.pinned (OpenSpec.ofChange monitorMissingSufficesWrong)

/-- 'helmsmanlaw8.MonitorResumes': WHATEVER THE INPUT: true; the input reads as it did. -/
def monitorResumesSpec : ChangeSpec := { name := "monitorResumes", fn := fun _ => fun
  | [d1, d2, d3] => { results := [.lit (.bool true)], args := [d1, d2, d3] }
  | _ => none }
def monitorResumesRow : OpenClaim := { program := "ytfjbddjoagefkaa", sum := "220fe919a6344d3f380707f3890b058f02c1a8b133254a1ee9b196bdc3f01efe", func := "helmsman/helmsmanlaw8.MonitorResumes", spec := "monitorResumes", unfollowed := true, recurses := true, apart := false }
def MonitorResumesSaid : Prop := monitorResumesRow.holds Try.pinned (OpenSpec.ofChange monitorResumesSpec)

/-- ITS FALSE NEIGHBOUR: 'it returns false'. Refute it at one input. -/
def monitorResumesWrong : ChangeSpec := { name := "monitorResumes", fn := fun _ => fun
  | [d1, d2, d3] => { results := [.lit (.bool false)], args := [d1, d2, d3] }
  | _ => none }
def MonitorResumesWrongFalsely : Prop := monitorResumesRow.holds Try.pinned (OpenSpec.ofChange monitorResumesWrong)

/-- 'helmsmanlaw8.MonitorStartsPlans': WHATEVER THE INPUT: true; the input reads as it did. -/
def monitorStartsPlansSpec : ChangeSpec := { name := "monitorStartsPlans", fn := fun _ => fun
  | [d1, d2, d3] => { results := [.lit (.bool true)], args := [d1, d2, d3] }
  | _ => none }
def monitorStartsPlansRow : OpenClaim := { program := "ytfjbddjoagefkaa", sum := "220fe919a6344d3f380707f3890b058f02c1a8b133254a1ee9b196bdc3f01efe", func := "helmsman/helmsmanlaw8.MonitorStartsPlans", spec := "monitorStartsPlans", unfollowed := true, recurses := true, apart := false }
def MonitorStartsPlansSaid : Prop := monitorStartsPlansRow.holds Try.pinned (OpenSpec.ofChange monitorStartsPlansSpec)

/-- ITS FALSE NEIGHBOUR: 'it returns false'. Refute it at one input. -/
def monitorStartsPlansWrong : ChangeSpec := { name := "monitorStartsPlans", fn := fun _ => fun
  | [d1, d2, d3] => { results := [.lit (.bool false)], args := [d1, d2, d3] }
  | _ => none }
def MonitorStartsPlansWrongFalsely : Prop := monitorStartsPlansRow.holds Try.pinned (OpenSpec.ofChange monitorStartsPlansWrong)

/- THE SECOND FORM. 'bulk': how many values and letters a reading holds, each counted each time it is reached (what is shared counts as often as it is met; a slice's spare places count too). A statement '..UptoSaid' is the law's where the arguments, and the package variables that the reading takes, are together of bulk at most 1048576: NARROWER than '..Said'. Prove '..Said' where nothing that the law and all that it calls make is longer than what came in: it says more and counts as full. Else prove '..UptoSaid'. A law counts once. -/
mutual
def uptoBulk {H : Type} : DataW H → Nat
  | .lit (.string bytes) => bytes.length + 1
  | .lit _ => 1
  | .nil => 1
  | .ptr d => uptoBulk d + 1
  | .slice elems spare => uptoBulkAll elems + uptoBulkAll spare + 1
  | .agg parts => uptoBulkAll parts + 1
  | .iface _ d => uptoBulk d + 1
  | .map entries => uptoBulkEntries entries + 1
  | .held _ => 1
def uptoBulkAll {H : Type} : List (DataW H) → Nat
  | [] => 0
  | d :: r => uptoBulk d + uptoBulkAll r
def uptoBulkEntries {H : Type} : List (Lit × DataW H) → Nat
  | [] => 0
  | x :: r => uptoBulkEntry x + uptoBulkEntries r
def uptoBulkEntry {H : Type} : Lit × DataW H → Nat
  | (.string bytes, d) => bytes.length + uptoBulk d + 1
  | (_, d) => uptoBulk d + 1
 end
def uptoSmall : (H : Type) → List (DataW H) → Bool := fun _ ds => decide (uptoBulkAll ds ≤ 1048576)
def OpenSpec.upto (s : _root_.Go.ChangeSpec) : _root_.Go.OpenSpec := { _root_.Go.OpenSpec.ofChange s with cond := some uptoSmall }

/-- 'helmsmanlaw8.MonitorConditionsAreExact', WHERE WHAT IT READS IS OF BULK AT MOST 1048576: true; the input reads as it did. -/
def monitorConditionsAreExactUptoRow : OpenClaim := { program := "ytfjbddjoagefkaa", sum := "220fe919a6344d3f380707f3890b058f02c1a8b133254a1ee9b196bdc3f01efe", func := "helmsman/helmsmanlaw8.MonitorConditionsAreExact", spec := "monitorConditionsAreExact", unfollowed := true, recurses := true, apart := false, narrowed := true }
def MonitorConditionsAreExactUptoSaid : Prop := monitorConditionsAreExactUptoRow.holds Try.pinned (OpenSpec.upto monitorConditionsAreExactSpec)

/-- 'helmsmanlaw8.MonitorMatchesSpec', WHERE WHAT IT READS IS OF BULK AT MOST 1048576: true; the input reads as it did. -/
def monitorMatchesSpecUptoRow : OpenClaim := { program := "ytfjbddjoagefkaa", sum := "220fe919a6344d3f380707f3890b058f02c1a8b133254a1ee9b196bdc3f01efe", func := "helmsman/helmsmanlaw8.MonitorMatchesSpec", spec := "monitorMatchesSpec", unfollowed := true, recurses := true, apart := false, narrowed := true }
def MonitorMatchesSpecUptoSaid : Prop := monitorMatchesSpecUptoRow.holds Try.pinned (OpenSpec.upto monitorMatchesSpecSpec)

/-- 'helmsmanlaw8.MonitorMissingSuffices', WHERE WHAT IT READS IS OF BULK AT MOST 1048576: true; the input reads as it did. -/
def monitorMissingSufficesUptoRow : OpenClaim := { program := "ytfjbddjoagefkaa", sum := "220fe919a6344d3f380707f3890b058f02c1a8b133254a1ee9b196bdc3f01efe", func := "helmsman/helmsmanlaw8.MonitorMissingSuffices", spec := "monitorMissingSuffices", unfollowed := true, recurses := true, apart := false, narrowed := true }
def MonitorMissingSufficesUptoSaid : Prop := monitorMissingSufficesUptoRow.holds Try.pinned (OpenSpec.upto monitorMissingSufficesSpec)

/-- 'helmsmanlaw8.MonitorResumes', WHERE WHAT IT READS IS OF BULK AT MOST 1048576: true; the input reads as it did. -/
def monitorResumesUptoRow : OpenClaim := { program := "ytfjbddjoagefkaa", sum := "220fe919a6344d3f380707f3890b058f02c1a8b133254a1ee9b196bdc3f01efe", func := "helmsman/helmsmanlaw8.MonitorResumes", spec := "monitorResumes", unfollowed := true, recurses := true, apart := false, narrowed := true }
def MonitorResumesUptoSaid : Prop := monitorResumesUptoRow.holds Try.pinned (OpenSpec.upto monitorResumesSpec)

/-- 'helmsmanlaw8.MonitorStartsPlans', WHERE WHAT IT READS IS OF BULK AT MOST 1048576: true; the input reads as it did. -/
def monitorStartsPlansUptoRow : OpenClaim := { program := "ytfjbddjoagefkaa", sum := "220fe919a6344d3f380707f3890b058f02c1a8b133254a1ee9b196bdc3f01efe", func := "helmsman/helmsmanlaw8.MonitorStartsPlans", spec := "monitorStartsPlans", unfollowed := true, recurses := true, apart := false, narrowed := true }
def MonitorStartsPlansUptoSaid : Prop := monitorStartsPlansUptoRow.holds Try.pinned (OpenSpec.upto monitorStartsPlansSpec)

end Rows
end Go.Proofs.Ytfjbddjoagefkaa
