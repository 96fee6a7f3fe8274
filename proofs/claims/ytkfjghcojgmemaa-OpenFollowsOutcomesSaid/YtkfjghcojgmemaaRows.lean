/-
  No cell of these rows narrows 'for every input' (looked for: loops, veiled, ifaces, maps, wideKeys, modest, calm, conditions, laid).
  DERIVED. THE GIVEN ROWS OF THIS SEAT. 3 by the template 'for every input the law returns true; each argument reads behind the call as it read before'; 0 by the template 'total and deterministic' (their statements: YtkfjghcojgmemaaTotals.lean).
  GIVEN WITH THE SEED: the statements are not yours to turn. If you find one false, say at which input.
  Laid BY PROGRAM, IN A SANDBOX (cutbox-rows.mjs): the forced cells as the released guide's own fill.sh prints them over the translation c2258e22f391c03b… (all of the seat's roots in one cut). By AI agents, Wed Nov 11 2026. No macro, syntax, notation, axiom, sorry.
-/
import Derived.Test.YtkfjghcojgmemaaChecked
import GoSem.Claim
import GoSem.ClaimJoined
import GoSem.ClaimMapViews
import Derived.JoinedTies
import Derived.KernelRfl
namespace Go.Proofs.Ytkfjghcojgmemaa
/- THE CELL 'sum', in the pinned program and in every row, IS THE sha256 OF THE DUMP (.gsa) THAT YtkfjghcojgmemaaProg.lean LOADS. Nothing in Lean hashes anything: it is a label: what it is worth is what the hold of that sum in a sandbox is worth. -/
noncomputable def Try.pinned : Pinned := { name := "ytkfjghcojgmemaa", sum := "c2258e22f391c03baf66d5ef108113db6b665798f9e202b6aedf30e16a1aa805", checked := Try.checked }
namespace Rows
def none {H : Type} : Left H := { results := [], args := [] }

/-- 'helmsmanlaw8.OpenPolicyMatchesSpec': WHATEVER THE INPUT: true; the input reads as it did. -/
def openPolicyMatchesSpecSpec : ChangeSpec := { name := "openPolicyMatchesSpec", fn := fun _ => fun
  | [d1, d2, d3] => { results := [.lit (.bool true)], args := [d1, d2, d3] }
  | _ => none }
def openPolicyMatchesSpecRow : OpenClaim := { program := "ytkfjghcojgmemaa", sum := "c2258e22f391c03baf66d5ef108113db6b665798f9e202b6aedf30e16a1aa805", func := "helmsman/helmsmanlaw8.OpenPolicyMatchesSpec", spec := "openPolicyMatchesSpec", unfollowed := true, recurses := true, apart := false }
def OpenPolicyMatchesSpecSaid : Prop := openPolicyMatchesSpecRow.holds Try.pinned (OpenSpec.ofChange openPolicyMatchesSpecSpec)

/-- ITS FALSE NEIGHBOUR: 'it returns false'. Refute it at one input. -/
def openPolicyMatchesSpecWrong : ChangeSpec := { name := "openPolicyMatchesSpec", fn := fun _ => fun
  | [d1, d2, d3] => { results := [.lit (.bool false)], args := [d1, d2, d3] }
  | _ => none }
def OpenPolicyMatchesSpecWrongFalsely : Prop := openPolicyMatchesSpecRow.holds Try.pinned (OpenSpec.ofChange openPolicyMatchesSpecWrong)

/-- 'helmsmanlaw8.OpenFollowsOutcomes': WHATEVER THE INPUT: true; the input reads as it did. -/
def openFollowsOutcomesSpec : ChangeSpec := { name := "openFollowsOutcomes", fn := fun _ => fun
  | [d1, d2, d3, d4] => { results := [.lit (.bool true)], args := [d1, d2, d3, d4] }
  | _ => none }
def openFollowsOutcomesRow : OpenClaim := { program := "ytkfjghcojgmemaa", sum := "c2258e22f391c03baf66d5ef108113db6b665798f9e202b6aedf30e16a1aa805", func := "helmsman/helmsmanlaw8.OpenFollowsOutcomes", spec := "openFollowsOutcomes", unfollowed := true, recurses := true, apart := false }
def OpenFollowsOutcomesSaid : Prop := openFollowsOutcomesRow.holds Try.pinned (OpenSpec.ofChange openFollowsOutcomesSpec)

/-- ITS FALSE NEIGHBOUR: 'it returns false'. Refute it at one input. -/
def openFollowsOutcomesWrong : ChangeSpec := { name := "openFollowsOutcomes", fn := fun _ => fun
  | [d1, d2, d3, d4] => { results := [.lit (.bool false)], args := [d1, d2, d3, d4] }
  | _ => none }
def OpenFollowsOutcomesWrongFalsely : Prop := openFollowsOutcomesRow.holds Try.pinned (OpenSpec.ofChange openFollowsOutcomesWrong)

/-- 'helmsmanlaw8.OpenOutcomesAreOperators': WHATEVER THE INPUT: true; the input reads as it did. -/
def openOutcomesAreOperatorsSpec : ChangeSpec := { name := "openOutcomesAreOperators", fn := fun _ => fun
  | [d1, d2, d3] => { results := [.lit (.bool true)], args := [d1, d2, d3] }
  | _ => none }
def openOutcomesAreOperatorsRow : OpenClaim := { program := "ytkfjghcojgmemaa", sum := "c2258e22f391c03baf66d5ef108113db6b665798f9e202b6aedf30e16a1aa805", func := "helmsman/helmsmanlaw8.OpenOutcomesAreOperators", spec := "openOutcomesAreOperators", unfollowed := true, recurses := true, apart := false }
def OpenOutcomesAreOperatorsSaid : Prop := openOutcomesAreOperatorsRow.holds Try.pinned (OpenSpec.ofChange openOutcomesAreOperatorsSpec)

/-- ITS FALSE NEIGHBOUR: 'it returns false'. Refute it at one input. -/
def openOutcomesAreOperatorsWrong : ChangeSpec := { name := "openOutcomesAreOperators", fn := fun _ => fun
  | [d1, d2, d3] => { results := [.lit (.bool false)], args := [d1, d2, d3] }
  | _ => none }
def OpenOutcomesAreOperatorsWrongFalsely : Prop := openOutcomesAreOperatorsRow.holds Try.pinned (OpenSpec.ofChange openOutcomesAreOperatorsWrong)

/- THE SECOND FORM. 'bulk': how many values and letters a reading holds, each counted each time it is reached (what is shared counts as often as it is met; a slice's spare places count too). A statement '..UptoSaid' is the law's where the arguments, and the package variables that the reading takes, are together of bulk at most 1048576: NARROWER than '..Said'. Prove '..Said' where nothing that the law and all that it calls make is longer than what came in: it says more and counts as full. Else prove '..UptoSaid'. A law counts once. -/
mutual
def uptoBulk {H : Type} : DataW H → Nat
  | .lit (.string bytes) => bytes.length + 1
  | .lit _ => 1
  | .nil => 1
  | .ptr d => uptoBulk d + 1
  | .slice elems spare => uptoBulkAll elems + uptoBulkAll spare + 1
  | .agg parts => uptoBulkAll parts + 1
  | .iface _ d => uptoBulk d + 1
  | .map entries => uptoBulkEntries entries + 1
  | .held _ => 1
def uptoBulkAll {H : Type} : List (DataW H) → Nat
  | [] => 0
  | d :: r => uptoBulk d + uptoBulkAll r
def uptoBulkEntries {H : Type} : List (Lit × DataW H) → Nat
  | [] => 0
  | x :: r => uptoBulkEntry x + uptoBulkEntries r
def uptoBulkEntry {H : Type} : Lit × DataW H → Nat
  | (.string bytes, d) => bytes.length + uptoBulk d + 1
  | (_, d) => uptoBulk d + 1
 end
def uptoSmall : (H : Type) → List (DataW H) → Bool := fun _ ds => decide (uptoBulkAll ds ≤ 1048576)
def OpenSpec.upto (s : _root_.Go.ChangeSpec) : _root_.Go.OpenSpec := { _root_.Go.OpenSpec.ofChange s with cond := some uptoSmall }

/-- 'helmsmanlaw8.OpenPolicyMatchesSpec', WHERE WHAT IT READS IS OF BULK AT MOST 1048576: true; the input reads as it did. -/
def openPolicyMatchesSpecUptoRow : OpenClaim := { program := "ytkfjghcojgmemaa", sum := "c2258e22f391c03baf66d5ef108113db6b665798f9e202b6aedf30e16a1aa805", func := "helmsman/helmsmanlaw8.OpenPolicyMatchesSpec", spec := "openPolicyMatchesSpec", unfollowed := true, recurses := true, apart := false, narrowed := true }
def OpenPolicyMatchesSpecUptoSaid : Prop := openPolicyMatchesSpecUptoRow.holds Try.pinned (OpenSpec.upto openPolicyMatchesSpecSpec)

/-- 'helmsmanlaw8.OpenFollowsOutcomes', WHERE WHAT IT READS IS OF BULK AT MOST 1048576: true; the input reads as it did. -/
def openFollowsOutcomesUptoRow : OpenClaim := { program := "ytkfjghcojgmemaa", sum := "c2258e22f391c03baf66d5ef108113db6b665798f9e202b6aedf30e16a1aa805", func := "helmsman/helmsmanlaw8.OpenFollowsOutcomes", spec := "openFollowsOutcomes", unfollowed := true, recurses := true, apart := false, narrowed := true }
def OpenFollowsOutcomesUptoSaid : Prop := openFollowsOutcomesUptoRow.holds Try.pinned (OpenSpec.upto openFollowsOutcomesSpec)

/-- 'helmsmanlaw8.OpenOutcomesAreOperators', WHERE WHAT IT READS IS OF BULK AT MOST 1048576: true; the input reads as it did. -/
def openOutcomesAreOperatorsUptoRow : OpenClaim := { program := "ytkfjghcojgmemaa", sum := "c2258e22f391c03baf66d5ef108113db6b665798f9e202b6aedf30e16a1aa805", func := "helmsman/helmsmanlaw8.OpenOutcomesAreOperators", spec := "openOutcomesAreOperators", unfollowed := true, recurses := true, apart := false, narrowed := true }
def OpenOutcomesAreOperatorsUptoSaid : Prop := openOutcomesAreOperatorsUptoRow.holds Try.pinned (OpenSpec.upto openOutcomesAreOperatorsSpec)

end Rows
end Go.Proofs.Ytkfjghcojgmemaa
