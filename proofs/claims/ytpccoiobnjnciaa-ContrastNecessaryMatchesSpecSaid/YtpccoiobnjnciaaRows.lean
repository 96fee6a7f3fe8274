/-
  No cell of these rows narrows 'for every input' (looked for: loops, veiled, ifaces, maps, wideKeys, modest, calm, conditions, laid).
  DERIVED. THE GIVEN ROWS OF THIS SEAT. 6 by the template 'for every input the law returns true; each argument reads behind the call as it read before'; 0 by the template 'total and deterministic' (their statements: YtpccoiobnjnciaaTotals.lean).
  GIVEN WITH THE SEED: the statements are not yours to turn. If you find one false, say at which input.
  Laid BY PROGRAM, IN A SANDBOX (cutbox-rows.mjs): the forced cells as the released guide's own fill.sh prints them over the translation f0913c707e6ee3d4… (all of the seat's roots in one cut). By AI agents, Wed Nov 11 2026. No macro, syntax, notation, axiom, sorry.
-/
import Derived.Test.YtpccoiobnjnciaaChecked
import GoSem.Claim
import GoSem.ClaimJoined
import GoSem.ClaimMapViews
import Derived.JoinedTies
import Derived.KernelRfl
namespace Go.Proofs.Ytpccoiobnjnciaa
/- THE CELL 'sum', in the pinned program and in every row, IS THE sha256 OF THE DUMP (.gsa) THAT YtpccoiobnjnciaaProg.lean LOADS. Nothing in Lean hashes anything: it is a label: what it is worth is what the hold of that sum in a sandbox is worth. -/
noncomputable def Try.pinned : Pinned := { name := "ytpccoiobnjnciaa", sum := "f0913c707e6ee3d4e60d44f110f20f49b03b4b069c3f70127cf8fdd39e9d9eae", checked := Try.checked }
namespace Rows
def none {H : Type} : Left H := { results := [], args := [] }

/-- 'helmsmanlaw8.ContrastMatchesSpec': WHATEVER THE INPUT: true; the input reads as it did. -/
def contrastMatchesSpecSpec : ChangeSpec := { name := "contrastMatchesSpec", fn := fun _ => fun
  | [d1, d2] => { results := [.lit (.bool true)], args := [d1, d2] }
  | _ => none }
def contrastMatchesSpecRow : OpenClaim := { program := "ytpccoiobnjnciaa", sum := "f0913c707e6ee3d4e60d44f110f20f49b03b4b069c3f70127cf8fdd39e9d9eae", func := "helmsman/helmsmanlaw8.ContrastMatchesSpec", spec := "contrastMatchesSpec", unfollowed := true, recurses := true, apart := false }
def ContrastMatchesSpecSaid : Prop := contrastMatchesSpecRow.holds Try.pinned (OpenSpec.ofChange contrastMatchesSpecSpec)

/-- ITS FALSE NEIGHBOUR: 'it returns false'. Refute it at one input. -/
def contrastMatchesSpecWrong : ChangeSpec := { name := "contrastMatchesSpec", fn := fun _ => fun
  | [d1, d2] => { results := [.lit (.bool false)], args := [d1, d2] }
  | _ => none }
def ContrastMatchesSpecWrongFalsely : Prop := contrastMatchesSpecRow.holds Try.pinned (OpenSpec.ofChange contrastMatchesSpecWrong)

/-- 'helmsmanlaw8.ContrastPriceMatchesSpec': WHATEVER THE INPUT: true; the input reads as it did. -/
def contrastPriceMatchesSpecSpec : ChangeSpec := { name := "contrastPriceMatchesSpec", fn := fun _ => fun
  | [d1, d2] => { results := [.lit (.bool true)], args := [d1, d2] }
  | _ => none }
def contrastPriceMatchesSpecRow : OpenClaim := { program := "ytpccoiobnjnciaa", sum := "f0913c707e6ee3d4e60d44f110f20f49b03b4b069c3f70127cf8fdd39e9d9eae", func := "helmsman/helmsmanlaw8.ContrastPriceMatchesSpec", spec := "contrastPriceMatchesSpec", unfollowed := true, recurses := true, apart := false }
def ContrastPriceMatchesSpecSaid : Prop := contrastPriceMatchesSpecRow.holds Try.pinned (OpenSpec.ofChange contrastPriceMatchesSpecSpec)

/-- ITS FALSE NEIGHBOUR: 'it returns false'. Refute it at one input. -/
def contrastPriceMatchesSpecWrong : ChangeSpec := { name := "contrastPriceMatchesSpec", fn := fun _ => fun
  | [d1, d2] => { results := [.lit (.bool false)], args := [d1, d2] }
  | _ => none }
def ContrastPriceMatchesSpecWrongFalsely : Prop := contrastPriceMatchesSpecRow.holds Try.pinned (OpenSpec.ofChange contrastPriceMatchesSpecWrong)

/-- 'helmsmanlaw8.ContrastOneIsFree': WHATEVER THE INPUT: true; the input reads as it did. -/
def contrastOneIsFreeSpec : ChangeSpec := { name := "contrastOneIsFree", fn := fun _ => fun
  | [d1, d2] => { results := [.lit (.bool true)], args := [d1, d2] }
  | _ => none }
def contrastOneIsFreeRow : OpenClaim := { program := "ytpccoiobnjnciaa", sum := "f0913c707e6ee3d4e60d44f110f20f49b03b4b069c3f70127cf8fdd39e9d9eae", func := "helmsman/helmsmanlaw8.ContrastOneIsFree", spec := "contrastOneIsFree", unfollowed := true, recurses := true, apart := false }
def ContrastOneIsFreeSaid : Prop := contrastOneIsFreeRow.holds Try.pinned (OpenSpec.ofChange contrastOneIsFreeSpec)

/-- ITS FALSE NEIGHBOUR: 'it returns false'. Refute it at one input. -/
def contrastOneIsFreeWrong : ChangeSpec := { name := "contrastOneIsFree", fn := fun _ => fun
  | [d1, d2] => { results := [.lit (.bool false)], args := [d1, d2] }
  | _ => none }
def ContrastOneIsFreeWrongFalsely : Prop := contrastOneIsFreeRow.holds Try.pinned (OpenSpec.ofChange contrastOneIsFreeWrong)

/-- 'helmsmanlaw8.ContrastNecessaryMatchesSpec': WHATEVER THE INPUT: true; the input reads as it did. -/
def contrastNecessaryMatchesSpecSpec : ChangeSpec := { name := "contrastNecessaryMatchesSpec", fn := fun _ => fun
  | [d] => { results := [.lit (.bool true)], args := [d] }
  | _ => none }
def contrastNecessaryMatchesSpecRow : OpenClaim := { program := "ytpccoiobnjnciaa", sum := "f0913c707e6ee3d4e60d44f110f20f49b03b4b069c3f70127cf8fdd39e9d9eae", func := "helmsman/helmsmanlaw8.ContrastNecessaryMatchesSpec", spec := "contrastNecessaryMatchesSpec", unfollowed := true, recurses := true, apart := false }
def ContrastNecessaryMatchesSpecSaid : Prop := contrastNecessaryMatchesSpecRow.holds Try.pinned (OpenSpec.ofChange contrastNecessaryMatchesSpecSpec)

/-- ITS FALSE NEIGHBOUR: 'it returns false'. Refute it at one input. -/
def contrastNecessaryMatchesSpecWrong : ChangeSpec := { name := "contrastNecessaryMatchesSpec", fn := fun _ => fun
  | [d] => { results := [.lit (.bool false)], args := [d] }
  | _ => none }
def ContrastNecessaryMatchesSpecWrongFalsely : Prop := contrastNecessaryMatchesSpecRow.holds Try.pinned (OpenSpec.ofChange contrastNecessaryMatchesSpecWrong)

/-- 'helmsmanlaw8.ContrastBoundsPlans': WHATEVER THE INPUT: true; the input reads as it did. -/
def contrastBoundsPlansSpec : ChangeSpec := { name := "contrastBoundsPlans", fn := fun _ => fun
  | [d1, d2, d3] => { results := [.lit (.bool true)], args := [d1, d2, d3] }
  | _ => none }
def contrastBoundsPlansRow : OpenClaim := { program := "ytpccoiobnjnciaa", sum := "f0913c707e6ee3d4e60d44f110f20f49b03b4b069c3f70127cf8fdd39e9d9eae", func := "helmsman/helmsmanlaw8.ContrastBoundsPlans", spec := "contrastBoundsPlans", unfollowed := true, recurses := true, apart := false }
def ContrastBoundsPlansSaid : Prop := contrastBoundsPlansRow.holds Try.pinned (OpenSpec.ofChange contrastBoundsPlansSpec)

/-- ITS FALSE NEIGHBOUR: 'it returns false'. Refute it at one input. -/
def contrastBoundsPlansWrong : ChangeSpec := { name := "contrastBoundsPlans", fn := fun _ => fun
  | [d1, d2, d3] => { results := [.lit (.bool false)], args := [d1, d2, d3] }
  | _ => none }
def ContrastBoundsPlansWrongFalsely : Prop := contrastBoundsPlansRow.holds Try.pinned (OpenSpec.ofChange contrastBoundsPlansWrong)

/-- 'helmsmanlaw8.ContrastNecessaryOccurs': WHATEVER THE INPUT: true; the input reads as it did. -/
def contrastNecessaryOccursSpec : ChangeSpec := { name := "contrastNecessaryOccurs", fn := fun _ => fun
  | [d1, d2] => { results := [.lit (.bool true)], args := [d1, d2] }
  | _ => none }
def contrastNecessaryOccursRow : OpenClaim := { program := "ytpccoiobnjnciaa", sum := "f0913c707e6ee3d4e60d44f110f20f49b03b4b069c3f70127cf8fdd39e9d9eae", func := "helmsman/helmsmanlaw8.ContrastNecessaryOccurs", spec := "contrastNecessaryOccurs", unfollowed := true, recurses := true, apart := false }
def ContrastNecessaryOccursSaid : Prop := contrastNecessaryOccursRow.holds Try.pinned (OpenSpec.ofChange contrastNecessaryOccursSpec)

/-- ITS FALSE NEIGHBOUR: 'it returns false'. Refute it at one input. -/
def contrastNecessaryOccursWrong : ChangeSpec := { name := "contrastNecessaryOccurs", fn := fun _ => fun
  | [d1, d2] => { results := [.lit (.bool false)], args := [d1, d2] }
  | _ => none }
def ContrastNecessaryOccursWrongFalsely : Prop := contrastNecessaryOccursRow.holds Try.pinned (OpenSpec.ofChange contrastNecessaryOccursWrong)

/- THE SECOND FORM. 'bulk': how many values and letters a reading holds, each counted each time it is reached (what is shared counts as often as it is met; a slice's spare places count too). A statement '..UptoSaid' is the law's where the arguments, and the package variables that the reading takes, are together of bulk at most 1048576: NARROWER than '..Said'. Prove '..Said' where nothing that the law and all that it calls make is longer than what came in: it says more and counts as full. Else prove '..UptoSaid'. A law counts once. -/
mutual
def uptoBulk {H : Type} : DataW H → Nat
  | .lit (.string bytes) => bytes.length + 1
  | .lit _ => 1
  | .nil => 1
  | .ptr d => uptoBulk d + 1
  | .slice elems spare => uptoBulkAll elems + uptoBulkAll spare + 1
  | .agg parts => uptoBulkAll parts + 1
  | .iface _ d => uptoBulk d + 1
  | .map entries => uptoBulkEntries entries + 1
  | .held _ => 1
def uptoBulkAll {H : Type} : List (DataW H) → Nat
  | [] => 0
  | d :: r => uptoBulk d + uptoBulkAll r
def uptoBulkEntries {H : Type} : List (Lit × DataW H) → Nat
  | [] => 0
  | x :: r => uptoBulkEntry x + uptoBulkEntries r
def uptoBulkEntry {H : Type} : Lit × DataW H → Nat
  | (.string bytes, d) => bytes.length + uptoBulk d + 1
  | (_, d) => uptoBulk d + 1
 end
def uptoSmall : (H : Type) → List (DataW H) → Bool := fun _ ds => decide (uptoBulkAll ds ≤ 1048576)
def OpenSpec.upto (s : _root_.Go.ChangeSpec) : _root_.Go.OpenSpec := { _root_.Go.OpenSpec.ofChange s with cond := some uptoSmall }

/-- 'helmsmanlaw8.ContrastMatchesSpec', WHERE WHAT IT READS IS OF BULK AT MOST 1048576: true; the input reads as it did. -/
def contrastMatchesSpecUptoRow : OpenClaim := { program := "ytpccoiobnjnciaa", sum := "f0913c707e6ee3d4e60d44f110f20f49b03b4b069c3f70127cf8fdd39e9d9eae", func := "helmsman/helmsmanlaw8.ContrastMatchesSpec", spec := "contrastMatchesSpec", unfollowed := true, recurses := true, apart := false, narrowed := true }
def ContrastMatchesSpecUptoSaid : Prop := contrastMatchesSpecUptoRow.holds Try.pinned (OpenSpec.upto contrastMatchesSpecSpec)

/-- 'helmsmanlaw8.ContrastPriceMatchesSpec', WHERE WHAT IT READS IS OF BULK AT MOST 1048576: true; the input reads as it did. -/
def contrastPriceMatchesSpecUptoRow : OpenClaim := { program := "ytpccoiobnjnciaa", sum := "f0913c707e6ee3d4e60d44f110f20f49b03b4b069c3f70127cf8fdd39e9d9eae", func := "helmsman/helmsmanlaw8.ContrastPriceMatchesSpec", spec := "contrastPriceMatchesSpec", unfollowed := true, recurses := true, apart := false, narrowed := true }
def ContrastPriceMatchesSpecUptoSaid : Prop := contrastPriceMatchesSpecUptoRow.holds Try.pinned (OpenSpec.upto contrastPriceMatchesSpecSpec)

/-- 'helmsmanlaw8.ContrastOneIsFree', WHERE WHAT IT READS IS OF BULK AT MOST 1048576: true; the input reads as it did. -/
def contrastOneIsFreeUptoRow : OpenClaim := { program := "ytpccoiobnjnciaa", sum := "f0913c707e6ee3d4e60d44f110f20f49b03b4b069c3f70127cf8fdd39e9d9eae", func := "helmsman/helmsmanlaw8.ContrastOneIsFree", spec := "contrastOneIsFree", unfollowed := true, recurses := true, apart := false, narrowed := true }
def ContrastOneIsFreeUptoSaid : Prop := contrastOneIsFreeUptoRow.holds Try.pinned (OpenSpec.upto contrastOneIsFreeSpec)

/-- 'helmsmanlaw8.ContrastNecessaryMatchesSpec', WHERE WHAT IT READS IS OF BULK AT MOST 1048576: true; the input reads as it did. -/
def contrastNecessaryMatchesSpecUptoRow : OpenClaim := { program := "ytpccoiobnjnciaa", sum := "f0913c707e6ee3d4e60d44f110f20f49b03b4b069c3f70127cf8fdd39e9d9eae", func := "helmsman/helmsmanlaw8.ContrastNecessaryMatchesSpec", spec := "contrastNecessaryMatchesSpec", unfollowed := true, recurses := true, apart := false, narrowed := true }
def ContrastNecessaryMatchesSpecUptoSaid : Prop := contrastNecessaryMatchesSpecUptoRow.holds Try.pinned (OpenSpec.upto contrastNecessaryMatchesSpecSpec)

/-- 'helmsmanlaw8.ContrastBoundsPlans', WHERE WHAT IT READS IS OF BULK AT MOST 1048576: true; the input reads as it did. -/
def contrastBoundsPlansUptoRow : OpenClaim := { program := "ytpccoiobnjnciaa", sum := "f0913c707e6ee3d4e60d44f110f20f49b03b4b069c3f70127cf8fdd39e9d9eae", func := "helmsman/helmsmanlaw8.ContrastBoundsPlans", spec := "contrastBoundsPlans", unfollowed := true, recurses := true, apart := false, narrowed := true }
def ContrastBoundsPlansUptoSaid : Prop := contrastBoundsPlansUptoRow.holds Try.pinned (OpenSpec.upto contrastBoundsPlansSpec)

/-- 'helmsmanlaw8.ContrastNecessaryOccurs', WHERE WHAT IT READS IS OF BULK AT MOST 1048576: true; the input reads as it did. -/
def contrastNecessaryOccursUptoRow : OpenClaim := { program := "ytpccoiobnjnciaa", sum := "f0913c707e6ee3d4e60d44f110f20f49b03b4b069c3f70127cf8fdd39e9d9eae", func := "helmsman/helmsmanlaw8.ContrastNecessaryOccurs", spec := "contrastNecessaryOccurs", unfollowed := true, recurses := true, apart := false, narrowed := true }
def ContrastNecessaryOccursUptoSaid : Prop := contrastNecessaryOccursUptoRow.holds Try.pinned (OpenSpec.upto contrastNecessaryOccursSpec)

end Rows
end Go.Proofs.Ytpccoiobnjnciaa
