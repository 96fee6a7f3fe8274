/-
  NARROWER THAN 'FOR EVERY INPUT', by the rows' own cells (each row's printed sentence says how): StrongMatchesSpec: laid · StrongPolicyChecks: laid · StrongIsLeast: laid · CyclicMatchesSpec: laid · CyclicCheckMatchesSpec: laid · CyclicPolicyChecks: laid · CyclicIsFound: laid · CyclicNeverLost: laid · CyclicIncludesStrong: laid.
  DERIVED. THE GIVEN ROWS OF THIS SEAT. 9 by the template 'for every input the law returns true; each argument reads behind the call as it read before'; 0 by the template 'total and deterministic' (their statements: YtbffiagfngopaaaGreatDoorTotals.lean).
  GIVEN WITH THE SEED: the statements are not yours to turn. If you find one false, say at which input.
  Laid BY PROGRAM, IN A SANDBOX (cutbox-rows.mjs): the forced cells as the released guide's own fill.sh prints them over the translation 31f23b71ede12a43… (all of the seat's roots in one cut). By AI agents, Wed Nov 11 2026. No macro, syntax, notation, axiom, sorry.
-/
import Derived.Test.YtbffiagfngopaaaGreatDoorChecked
import GoSem.Claim
import GoSem.ClaimJoined
import GoSem.ClaimMapViews
import Derived.JoinedTies
import Derived.KernelRfl
namespace Go.Proofs.YtbffiagfngopaaaGreatDoor
/- THE CELL 'sum', in the pinned program and in every row, IS THE sha256 OF THE DUMP (.gsa) THAT YtbffiagfngopaaaGreatDoorProg.lean LOADS. Nothing in Lean hashes anything: it is a label: what it is worth is what the hold of that sum in a sandbox is worth. -/
noncomputable def Tryz.pinned : Pinned := { name := "ytbffiagfngopaaagreatdoor", sum := "31f23b71ede12a43d8d3c77a4d32d073e87607b05d71904e05ca77b0c01dfec3", checked := Tryz.checked }
namespace Rows
def none {H : Type} : Left H := { results := [], args := [] }

/- WHAT THE LISTED PACKAGE-LEVEL VARIABLES READ AS WHEN THE CALL BEGINS. Each datum BY PROGRAM (the guide's laid-datum.mjs) off the statement by which the dump's own 'gosem.cut.vars' lays the variable. In a bare row this is a premise. The card (YtbffiagfngopaaaGreatDoorCards.lean) ties it to the program's text. -/
def laid_math_bits_deBruijn32tab {H : Type} : DataW H := .agg [.lit (.int .u8 0), .lit (.int .u8 1), .lit (.int .u8 28), .lit (.int .u8 2), .lit (.int .u8 29), .lit (.int .u8 14), .lit (.int .u8 24), .lit (.int .u8 3), .lit (.int .u8 30), .lit (.int .u8 22), .lit (.int .u8 20), .lit (.int .u8 15), .lit (.int .u8 25), .lit (.int .u8 17), .lit (.int .u8 4), .lit (.int .u8 8), .lit (.int .u8 31), .lit (.int .u8 27), .lit (.int .u8 13), .lit (.int .u8 23), .lit (.int .u8 21), .lit (.int .u8 19), .lit (.int .u8 16), .lit (.int .u8 7), .lit (.int .u8 26), .lit (.int .u8 12), .lit (.int .u8 18), .lit (.int .u8 6), .lit (.int .u8 11), .lit (.int .u8 5), .lit (.int .u8 10), .lit (.int .u8 9)]
def laid_math_bits_deBruijn64tab {H : Type} : DataW H := .agg [.lit (.int .u8 0), .lit (.int .u8 1), .lit (.int .u8 56), .lit (.int .u8 2), .lit (.int .u8 57), .lit (.int .u8 49), .lit (.int .u8 28), .lit (.int .u8 3), .lit (.int .u8 61), .lit (.int .u8 58), .lit (.int .u8 42), .lit (.int .u8 50), .lit (.int .u8 38), .lit (.int .u8 29), .lit (.int .u8 17), .lit (.int .u8 4), .lit (.int .u8 62), .lit (.int .u8 47), .lit (.int .u8 59), .lit (.int .u8 36), .lit (.int .u8 45), .lit (.int .u8 43), .lit (.int .u8 51), .lit (.int .u8 22), .lit (.int .u8 53), .lit (.int .u8 39), .lit (.int .u8 33), .lit (.int .u8 30), .lit (.int .u8 24), .lit (.int .u8 18), .lit (.int .u8 12), .lit (.int .u8 5), .lit (.int .u8 63), .lit (.int .u8 55), .lit (.int .u8 48), .lit (.int .u8 27), .lit (.int .u8 60), .lit (.int .u8 41), .lit (.int .u8 37), .lit (.int .u8 16), .lit (.int .u8 46), .lit (.int .u8 35), .lit (.int .u8 44), .lit (.int .u8 21), .lit (.int .u8 52), .lit (.int .u8 32), .lit (.int .u8 23), .lit (.int .u8 11), .lit (.int .u8 54), .lit (.int .u8 26), .lit (.int .u8 40), .lit (.int .u8 15), .lit (.int .u8 34), .lit (.int .u8 20), .lit (.int .u8 31), .lit (.int .u8 10), .lit (.int .u8 25), .lit (.int .u8 14), .lit (.int .u8 19), .lit (.int .u8 9), .lit (.int .u8 13), .lit (.int .u8 8), .lit (.int .u8 7), .lit (.int .u8 6)]
def laid_internal_strconv_uint64pow10 {H : Type} : DataW H := .agg [.lit (.int .u64 1), .lit (.int .u64 10), .lit (.int .u64 100), .lit (.int .u64 1000), .lit (.int .u64 10000), .lit (.int .u64 100000), .lit (.int .u64 1000000), .lit (.int .u64 10000000), .lit (.int .u64 100000000), .lit (.int .u64 1000000000), .lit (.int .u64 10000000000), .lit (.int .u64 100000000000), .lit (.int .u64 1000000000000), .lit (.int .u64 10000000000000), .lit (.int .u64 100000000000000), .lit (.int .u64 1000000000000000), .lit (.int .u64 10000000000000000), .lit (.int .u64 100000000000000000), .lit (.int .u64 1000000000000000000), .lit (.int .u64 10000000000000000000)]

/-- 'helmsmanlaw8.StrongMatchesSpec': WHATEVER THE INPUT: true; the input reads as it did. -/
def strongMatchesSpecSpec : ChangeSpec := { name := "strongMatchesSpec", fn := fun _ => fun
  | [d] => { results := [.lit (.bool true)], args := [d] }
  | _ => none }
def strongMatchesSpecRow : OpenClaim := { program := "ytbffiagfngopaaagreatdoor", sum := "31f23b71ede12a43d8d3c77a4d32d073e87607b05d71904e05ca77b0c01dfec3", func := "helmsman/helmsmanlaw8.StrongMatchesSpec", spec := "strongMatchesSpec", inPlace := ["slices.overlaps[helmsman/api.Choice]"], unfollowed := true, recurses := true, named := ["internal/strconv.uint64pow10", "math/bits.deBruijn32tab", "math/bits.deBruijn64tab"], apart := false, laid := [("math/bits.deBruijn32tab", laid_math_bits_deBruijn32tab), ("math/bits.deBruijn64tab", laid_math_bits_deBruijn64tab), ("internal/strconv.uint64pow10", laid_internal_strconv_uint64pow10)] }
def StrongMatchesSpecSaid : Prop := strongMatchesSpecRow.holds Tryz.pinned (OpenSpec.ofChange strongMatchesSpecSpec)

/-- ITS FALSE NEIGHBOUR: 'it returns false'. Refute it at one input. -/
def strongMatchesSpecWrong : ChangeSpec := { name := "strongMatchesSpec", fn := fun _ => fun
  | [d] => { results := [.lit (.bool false)], args := [d] }
  | _ => none }
def StrongMatchesSpecWrongFalsely : Prop := strongMatchesSpecRow.holds Tryz.pinned (OpenSpec.ofChange strongMatchesSpecWrong)

/-- 'helmsmanlaw8.StrongPolicyChecks': WHATEVER THE INPUT: true; the input reads as it did. -/
def strongPolicyChecksSpec : ChangeSpec := { name := "strongPolicyChecks", fn := fun _ => fun
  | [d] => { results := [.lit (.bool true)], args := [d] }
  | _ => none }
def strongPolicyChecksRow : OpenClaim := { program := "ytbffiagfngopaaagreatdoor", sum := "31f23b71ede12a43d8d3c77a4d32d073e87607b05d71904e05ca77b0c01dfec3", func := "helmsman/helmsmanlaw8.StrongPolicyChecks", spec := "strongPolicyChecks", inPlace := ["slices.overlaps[helmsman/api.Choice]"], unfollowed := true, recurses := true, named := ["internal/strconv.uint64pow10", "math/bits.deBruijn32tab", "math/bits.deBruijn64tab"], apart := false, laid := [("math/bits.deBruijn32tab", laid_math_bits_deBruijn32tab), ("math/bits.deBruijn64tab", laid_math_bits_deBruijn64tab), ("internal/strconv.uint64pow10", laid_internal_strconv_uint64pow10)] }
def StrongPolicyChecksSaid : Prop := strongPolicyChecksRow.holds Tryz.pinned (OpenSpec.ofChange strongPolicyChecksSpec)

/-- ITS FALSE NEIGHBOUR: 'it returns false'. Refute it at one input. -/
def strongPolicyChecksWrong : ChangeSpec := { name := "strongPolicyChecks", fn := fun _ => fun
  | [d] => { results := [.lit (.bool false)], args := [d] }
  | _ => none }
def StrongPolicyChecksWrongFalsely : Prop := strongPolicyChecksRow.holds Tryz.pinned (OpenSpec.ofChange strongPolicyChecksWrong)

/-- 'helmsmanlaw8.StrongIsLeast': WHATEVER THE INPUT: true; the input reads as it did. -/
def strongIsLeastSpec : ChangeSpec := { name := "strongIsLeast", fn := fun _ => fun
  | [d1, d2] => { results := [.lit (.bool true)], args := [d1, d2] }
  | _ => none }
def strongIsLeastRow : OpenClaim := { program := "ytbffiagfngopaaagreatdoor", sum := "31f23b71ede12a43d8d3c77a4d32d073e87607b05d71904e05ca77b0c01dfec3", func := "helmsman/helmsmanlaw8.StrongIsLeast", spec := "strongIsLeast", inPlace := ["slices.overlaps[helmsman/api.Choice]"], unfollowed := true, recurses := true, named := ["internal/strconv.uint64pow10", "math/bits.deBruijn32tab", "math/bits.deBruijn64tab"], apart := false, laid := [("math/bits.deBruijn32tab", laid_math_bits_deBruijn32tab), ("math/bits.deBruijn64tab", laid_math_bits_deBruijn64tab), ("internal/strconv.uint64pow10", laid_internal_strconv_uint64pow10)] }
def StrongIsLeastSaid : Prop := strongIsLeastRow.holds Tryz.pinned (OpenSpec.ofChange strongIsLeastSpec)

/-- ITS FALSE NEIGHBOUR: 'it returns false'. Refute it at one input. -/
def strongIsLeastWrong : ChangeSpec := { name := "strongIsLeast", fn := fun _ => fun
  | [d1, d2] => { results := [.lit (.bool false)], args := [d1, d2] }
  | _ => none }
def StrongIsLeastWrongFalsely : Prop := strongIsLeastRow.holds Tryz.pinned (OpenSpec.ofChange strongIsLeastWrong)

/-- 'helmsmanlaw8.CyclicMatchesSpec': WHATEVER THE INPUT: true; the input reads as it did. -/
def cyclicMatchesSpecSpec : ChangeSpec := { name := "cyclicMatchesSpec", fn := fun _ => fun
  | [d] => { results := [.lit (.bool true)], args := [d] }
  | _ => none }
def cyclicMatchesSpecRow : OpenClaim := { program := "ytbffiagfngopaaagreatdoor", sum := "31f23b71ede12a43d8d3c77a4d32d073e87607b05d71904e05ca77b0c01dfec3", func := "helmsman/helmsmanlaw8.CyclicMatchesSpec", spec := "cyclicMatchesSpec", inPlace := ["slices.overlaps[helmsman/api.Choice]"], unfollowed := true, recurses := true, named := ["internal/strconv.uint64pow10", "math/bits.deBruijn32tab", "math/bits.deBruijn64tab"], apart := false, laid := [("math/bits.deBruijn32tab", laid_math_bits_deBruijn32tab), ("math/bits.deBruijn64tab", laid_math_bits_deBruijn64tab), ("internal/strconv.uint64pow10", laid_internal_strconv_uint64pow10)] }
def CyclicMatchesSpecSaid : Prop := cyclicMatchesSpecRow.holds Tryz.pinned (OpenSpec.ofChange cyclicMatchesSpecSpec)

/-- ITS FALSE NEIGHBOUR: 'it returns false'. Refute it at one input. -/
def cyclicMatchesSpecWrong : ChangeSpec := { name := "cyclicMatchesSpec", fn := fun _ => fun
  | [d] => { results := [.lit (.bool false)], args := [d] }
  | _ => none }
def CyclicMatchesSpecWrongFalsely : Prop := cyclicMatchesSpecRow.holds Tryz.pinned (OpenSpec.ofChange cyclicMatchesSpecWrong)

/-- 'helmsmanlaw8.CyclicCheckMatchesSpec': WHATEVER THE INPUT: true; the input reads as it did. -/
def cyclicCheckMatchesSpecSpec : ChangeSpec := { name := "cyclicCheckMatchesSpec", fn := fun _ => fun
  | [d1, d2] => { results := [.lit (.bool true)], args := [d1, d2] }
  | _ => none }
def cyclicCheckMatchesSpecRow : OpenClaim := { program := "ytbffiagfngopaaagreatdoor", sum := "31f23b71ede12a43d8d3c77a4d32d073e87607b05d71904e05ca77b0c01dfec3", func := "helmsman/helmsmanlaw8.CyclicCheckMatchesSpec", spec := "cyclicCheckMatchesSpec", inPlace := ["slices.overlaps[helmsman/api.Choice]"], unfollowed := true, recurses := true, named := ["internal/strconv.uint64pow10", "math/bits.deBruijn32tab", "math/bits.deBruijn64tab"], apart := false, laid := [("math/bits.deBruijn32tab", laid_math_bits_deBruijn32tab), ("math/bits.deBruijn64tab", laid_math_bits_deBruijn64tab), ("internal/strconv.uint64pow10", laid_internal_strconv_uint64pow10)] }
def CyclicCheckMatchesSpecSaid : Prop := cyclicCheckMatchesSpecRow.holds Tryz.pinned (OpenSpec.ofChange cyclicCheckMatchesSpecSpec)

/-- ITS FALSE NEIGHBOUR: 'it returns false'. Refute it at one input. -/
def cyclicCheckMatchesSpecWrong : ChangeSpec := { name := "cyclicCheckMatchesSpec", fn := fun _ => fun
  | [d1, d2] => { results := [.lit (.bool false)], args := [d1, d2] }
  | _ => none }
def CyclicCheckMatchesSpecWrongFalsely : Prop := cyclicCheckMatchesSpecRow.holds Tryz.pinned (OpenSpec.ofChange cyclicCheckMatchesSpecWrong)

/-- 'helmsmanlaw8.CyclicPolicyChecks': WHATEVER THE INPUT: true; the input reads as it did. -/
def cyclicPolicyChecksSpec : ChangeSpec := { name := "cyclicPolicyChecks", fn := fun _ => fun
  | [d] => { results := [.lit (.bool true)], args := [d] }
  | _ => none }
def cyclicPolicyChecksRow : OpenClaim := { program := "ytbffiagfngopaaagreatdoor", sum := "31f23b71ede12a43d8d3c77a4d32d073e87607b05d71904e05ca77b0c01dfec3", func := "helmsman/helmsmanlaw8.CyclicPolicyChecks", spec := "cyclicPolicyChecks", inPlace := ["slices.overlaps[helmsman/api.Choice]"], unfollowed := true, recurses := true, named := ["internal/strconv.uint64pow10", "math/bits.deBruijn32tab", "math/bits.deBruijn64tab"], apart := false, laid := [("math/bits.deBruijn32tab", laid_math_bits_deBruijn32tab), ("math/bits.deBruijn64tab", laid_math_bits_deBruijn64tab), ("internal/strconv.uint64pow10", laid_internal_strconv_uint64pow10)] }
def CyclicPolicyChecksSaid : Prop := cyclicPolicyChecksRow.holds Tryz.pinned (OpenSpec.ofChange cyclicPolicyChecksSpec)

/-- ITS FALSE NEIGHBOUR: 'it returns false'. Refute it at one input. -/
def cyclicPolicyChecksWrong : ChangeSpec := { name := "cyclicPolicyChecks", fn := fun _ => fun
  | [d] => { results := [.lit (.bool false)], args := [d] }
  | _ => none }
def CyclicPolicyChecksWrongFalsely : Prop := cyclicPolicyChecksRow.holds Tryz.pinned (OpenSpec.ofChange cyclicPolicyChecksWrong)

/-- 'helmsmanlaw8.CyclicIsFound': WHATEVER THE INPUT: true; the input reads as it did. -/
def cyclicIsFoundSpec : ChangeSpec := { name := "cyclicIsFound", fn := fun _ => fun
  | [d1, d2] => { results := [.lit (.bool true)], args := [d1, d2] }
  | _ => none }
def cyclicIsFoundRow : OpenClaim := { program := "ytbffiagfngopaaagreatdoor", sum := "31f23b71ede12a43d8d3c77a4d32d073e87607b05d71904e05ca77b0c01dfec3", func := "helmsman/helmsmanlaw8.CyclicIsFound", spec := "cyclicIsFound", inPlace := ["slices.overlaps[helmsman/api.Choice]"], unfollowed := true, recurses := true, named := ["internal/strconv.uint64pow10", "math/bits.deBruijn32tab", "math/bits.deBruijn64tab"], apart := false, laid := [("math/bits.deBruijn32tab", laid_math_bits_deBruijn32tab), ("math/bits.deBruijn64tab", laid_math_bits_deBruijn64tab), ("internal/strconv.uint64pow10", laid_internal_strconv_uint64pow10)] }
def CyclicIsFoundSaid : Prop := cyclicIsFoundRow.holds Tryz.pinned (OpenSpec.ofChange cyclicIsFoundSpec)

/-- ITS FALSE NEIGHBOUR: 'it returns false'. Refute it at one input. -/
def cyclicIsFoundWrong : ChangeSpec := { name := "cyclicIsFound", fn := fun _ => fun
  | [d1, d2] => { results := [.lit (.bool false)], args := [d1, d2] }
  | _ => none }
def CyclicIsFoundWrongFalsely : Prop := cyclicIsFoundRow.holds Tryz.pinned (OpenSpec.ofChange cyclicIsFoundWrong)

/-- 'helmsmanlaw8.CyclicNeverLost': WHATEVER THE INPUT: true; the input reads as it did. -/
def cyclicNeverLostSpec : ChangeSpec := { name := "cyclicNeverLost", fn := fun _ => fun
  | [d1, d2, d3] => { results := [.lit (.bool true)], args := [d1, d2, d3] }
  | _ => none }
def cyclicNeverLostRow : OpenClaim := { program := "ytbffiagfngopaaagreatdoor", sum := "31f23b71ede12a43d8d3c77a4d32d073e87607b05d71904e05ca77b0c01dfec3", func := "helmsman/helmsmanlaw8.CyclicNeverLost", spec := "cyclicNeverLost", inPlace := ["slices.overlaps[helmsman/api.Choice]"], unfollowed := true, recurses := true, named := ["internal/strconv.uint64pow10", "math/bits.deBruijn32tab", "math/bits.deBruijn64tab"], apart := false, laid := [("math/bits.deBruijn32tab", laid_math_bits_deBruijn32tab), ("math/bits.deBruijn64tab", laid_math_bits_deBruijn64tab), ("internal/strconv.uint64pow10", laid_internal_strconv_uint64pow10)] }
def CyclicNeverLostSaid : Prop := cyclicNeverLostRow.holds Tryz.pinned (OpenSpec.ofChange cyclicNeverLostSpec)

/-- ITS FALSE NEIGHBOUR: 'it returns false'. Refute it at one input. -/
def cyclicNeverLostWrong : ChangeSpec := { name := "cyclicNeverLost", fn := fun _ => fun
  | [d1, d2, d3] => { results := [.lit (.bool false)], args := [d1, d2, d3] }
  | _ => none }
def CyclicNeverLostWrongFalsely : Prop := cyclicNeverLostRow.holds Tryz.pinned (OpenSpec.ofChange cyclicNeverLostWrong)

/-- 'helmsmanlaw8.CyclicIncludesStrong': WHATEVER THE INPUT: true; the input reads as it did. -/
def cyclicIncludesStrongSpec : ChangeSpec := { name := "cyclicIncludesStrong", fn := fun _ => fun
  | [d1, d2] => { results := [.lit (.bool true)], args := [d1, d2] }
  | _ => none }
def cyclicIncludesStrongRow : OpenClaim := { program := "ytbffiagfngopaaagreatdoor", sum := "31f23b71ede12a43d8d3c77a4d32d073e87607b05d71904e05ca77b0c01dfec3", func := "helmsman/helmsmanlaw8.CyclicIncludesStrong", spec := "cyclicIncludesStrong", inPlace := ["slices.overlaps[helmsman/api.Choice]"], unfollowed := true, recurses := true, named := ["internal/strconv.uint64pow10", "math/bits.deBruijn32tab", "math/bits.deBruijn64tab"], apart := false, laid := [("math/bits.deBruijn32tab", laid_math_bits_deBruijn32tab), ("math/bits.deBruijn64tab", laid_math_bits_deBruijn64tab), ("internal/strconv.uint64pow10", laid_internal_strconv_uint64pow10)] }
def CyclicIncludesStrongSaid : Prop := cyclicIncludesStrongRow.holds Tryz.pinned (OpenSpec.ofChange cyclicIncludesStrongSpec)

/-- ITS FALSE NEIGHBOUR: 'it returns false'. Refute it at one input. -/
def cyclicIncludesStrongWrong : ChangeSpec := { name := "cyclicIncludesStrong", fn := fun _ => fun
  | [d1, d2] => { results := [.lit (.bool false)], args := [d1, d2] }
  | _ => none }
def CyclicIncludesStrongWrongFalsely : Prop := cyclicIncludesStrongRow.holds Tryz.pinned (OpenSpec.ofChange cyclicIncludesStrongWrong)

/- THE SECOND FORM. 'bulk': how many values and letters a reading holds, each counted each time it is reached (what is shared counts as often as it is met; a slice's spare places count too). A statement '..UptoSaid' is the law's where the arguments, and the package variables that the reading takes, are together of bulk at most 1048576: NARROWER than '..Said'. Prove '..Said' where nothing that the law and all that it calls make is longer than what came in: it says more and counts as full. Else prove '..UptoSaid'. A law counts once. -/
mutual
def uptoBulk {H : Type} : DataW H → Nat
  | .lit (.string bytes) => bytes.length + 1
  | .lit _ => 1
  | .nil => 1
  | .ptr d => uptoBulk d + 1
  | .slice elems spare => uptoBulkAll elems + uptoBulkAll spare + 1
  | .agg parts => uptoBulkAll parts + 1
  | .iface _ d => uptoBulk d + 1
  | .map entries => uptoBulkEntries entries + 1
  | .held _ => 1
def uptoBulkAll {H : Type} : List (DataW H) → Nat
  | [] => 0
  | d :: r => uptoBulk d + uptoBulkAll r
def uptoBulkEntries {H : Type} : List (Lit × DataW H) → Nat
  | [] => 0
  | x :: r => uptoBulkEntry x + uptoBulkEntries r
def uptoBulkEntry {H : Type} : Lit × DataW H → Nat
  | (.string bytes, d) => bytes.length + uptoBulk d + 1
  | (_, d) => uptoBulk d + 1
 end
def uptoSmall : (H : Type) → List (DataW H) → Bool := fun _ ds => decide (uptoBulkAll ds ≤ 1048576)
def OpenSpec.upto (s : _root_.Go.ChangeSpec) : _root_.Go.OpenSpec := { _root_.Go.OpenSpec.ofChange s with cond := some uptoSmall }

/-- 'helmsmanlaw8.StrongMatchesSpec', WHERE WHAT IT READS IS OF BULK AT MOST 1048576: true; the input reads as it did. -/
def strongMatchesSpecUptoRow : OpenClaim := { program := "ytbffiagfngopaaagreatdoor", sum := "31f23b71ede12a43d8d3c77a4d32d073e87607b05d71904e05ca77b0c01dfec3", func := "helmsman/helmsmanlaw8.StrongMatchesSpec", spec := "strongMatchesSpec", inPlace := ["slices.overlaps[helmsman/api.Choice]"], unfollowed := true, recurses := true, named := ["internal/strconv.uint64pow10", "math/bits.deBruijn32tab", "math/bits.deBruijn64tab"], apart := false, laid := [("math/bits.deBruijn32tab", laid_math_bits_deBruijn32tab), ("math/bits.deBruijn64tab", laid_math_bits_deBruijn64tab), ("internal/strconv.uint64pow10", laid_internal_strconv_uint64pow10)], narrowed := true }
def StrongMatchesSpecUptoSaid : Prop := strongMatchesSpecUptoRow.holds Tryz.pinned (OpenSpec.upto strongMatchesSpecSpec)

/-- 'helmsmanlaw8.StrongPolicyChecks', WHERE WHAT IT READS IS OF BULK AT MOST 1048576: true; the input reads as it did. -/
def strongPolicyChecksUptoRow : OpenClaim := { program := "ytbffiagfngopaaagreatdoor", sum := "31f23b71ede12a43d8d3c77a4d32d073e87607b05d71904e05ca77b0c01dfec3", func := "helmsman/helmsmanlaw8.StrongPolicyChecks", spec := "strongPolicyChecks", inPlace := ["slices.overlaps[helmsman/api.Choice]"], unfollowed := true, recurses := true, named := ["internal/strconv.uint64pow10", "math/bits.deBruijn32tab", "math/bits.deBruijn64tab"], apart := false, laid := [("math/bits.deBruijn32tab", laid_math_bits_deBruijn32tab), ("math/bits.deBruijn64tab", laid_math_bits_deBruijn64tab), ("internal/strconv.uint64pow10", laid_internal_strconv_uint64pow10)], narrowed := true }
def StrongPolicyChecksUptoSaid : Prop := strongPolicyChecksUptoRow.holds Tryz.pinned (OpenSpec.upto strongPolicyChecksSpec)

/-- 'helmsmanlaw8.StrongIsLeast', WHERE WHAT IT READS IS OF BULK AT MOST 1048576: true; the input reads as it did. -/
def strongIsLeastUptoRow : OpenClaim := { program := "ytbffiagfngopaaagreatdoor", sum := "31f23b71ede12a43d8d3c77a4d32d073e87607b05d71904e05ca77b0c01dfec3", func := "helmsman/helmsmanlaw8.StrongIsLeast", spec := "strongIsLeast", inPlace := ["slices.overlaps[helmsman/api.Choice]"], unfollowed := true, recurses := true, named := ["internal/strconv.uint64pow10", "math/bits.deBruijn32tab", "math/bits.deBruijn64tab"], apart := false, laid := [("math/bits.deBruijn32tab", laid_math_bits_deBruijn32tab), ("math/bits.deBruijn64tab", laid_math_bits_deBruijn64tab), ("internal/strconv.uint64pow10", laid_internal_strconv_uint64pow10)], narrowed := true }
def StrongIsLeastUptoSaid : Prop := strongIsLeastUptoRow.holds Tryz.pinned (OpenSpec.upto strongIsLeastSpec)

/-- 'helmsmanlaw8.CyclicMatchesSpec', WHERE WHAT IT READS IS OF BULK AT MOST 1048576: true; the input reads as it did. -/
def cyclicMatchesSpecUptoRow : OpenClaim := { program := "ytbffiagfngopaaagreatdoor", sum := "31f23b71ede12a43d8d3c77a4d32d073e87607b05d71904e05ca77b0c01dfec3", func := "helmsman/helmsmanlaw8.CyclicMatchesSpec", spec := "cyclicMatchesSpec", inPlace := ["slices.overlaps[helmsman/api.Choice]"], unfollowed := true, recurses := true, named := ["internal/strconv.uint64pow10", "math/bits.deBruijn32tab", "math/bits.deBruijn64tab"], apart := false, laid := [("math/bits.deBruijn32tab", laid_math_bits_deBruijn32tab), ("math/bits.deBruijn64tab", laid_math_bits_deBruijn64tab), ("internal/strconv.uint64pow10", laid_internal_strconv_uint64pow10)], narrowed := true }
def CyclicMatchesSpecUptoSaid : Prop := cyclicMatchesSpecUptoRow.holds Tryz.pinned (OpenSpec.upto cyclicMatchesSpecSpec)

/-- 'helmsmanlaw8.CyclicCheckMatchesSpec', WHERE WHAT IT READS IS OF BULK AT MOST 1048576: true; the input reads as it did. -/
def cyclicCheckMatchesSpecUptoRow : OpenClaim := { program := "ytbffiagfngopaaagreatdoor", sum := "31f23b71ede12a43d8d3c77a4d32d073e87607b05d71904e05ca77b0c01dfec3", func := "helmsman/helmsmanlaw8.CyclicCheckMatchesSpec", spec := "cyclicCheckMatchesSpec", inPlace := ["slices.overlaps[helmsman/api.Choice]"], unfollowed := true, recurses := true, named := ["internal/strconv.uint64pow10", "math/bits.deBruijn32tab", "math/bits.deBruijn64tab"], apart := false, laid := [("math/bits.deBruijn32tab", laid_math_bits_deBruijn32tab), ("math/bits.deBruijn64tab", laid_math_bits_deBruijn64tab), ("internal/strconv.uint64pow10", laid_internal_strconv_uint64pow10)], narrowed := true }
def CyclicCheckMatchesSpecUptoSaid : Prop := cyclicCheckMatchesSpecUptoRow.holds Tryz.pinned (OpenSpec.upto cyclicCheckMatchesSpecSpec)

/-- 'helmsmanlaw8.CyclicPolicyChecks', WHERE WHAT IT READS IS OF BULK AT MOST 1048576: true; the input reads as it did. -/
def cyclicPolicyChecksUptoRow : OpenClaim := { program := "ytbffiagfngopaaagreatdoor", sum := "31f23b71ede12a43d8d3c77a4d32d073e87607b05d71904e05ca77b0c01dfec3", func := "helmsman/helmsmanlaw8.CyclicPolicyChecks", spec := "cyclicPolicyChecks", inPlace := ["slices.overlaps[helmsman/api.Choice]"], unfollowed := true, recurses := true, named := ["internal/strconv.uint64pow10", "math/bits.deBruijn32tab", "math/bits.deBruijn64tab"], apart := false, laid := [("math/bits.deBruijn32tab", laid_math_bits_deBruijn32tab), ("math/bits.deBruijn64tab", laid_math_bits_deBruijn64tab), ("internal/strconv.uint64pow10", laid_internal_strconv_uint64pow10)], narrowed := true }
def CyclicPolicyChecksUptoSaid : Prop := cyclicPolicyChecksUptoRow.holds Tryz.pinned (OpenSpec.upto cyclicPolicyChecksSpec)

/-- 'helmsmanlaw8.CyclicIsFound', WHERE WHAT IT READS IS OF BULK AT MOST 1048576: true; the input reads as it did. -/
def cyclicIsFoundUptoRow : OpenClaim := { program := "ytbffiagfngopaaagreatdoor", sum := "31f23b71ede12a43d8d3c77a4d32d073e87607b05d71904e05ca77b0c01dfec3", func := "helmsman/helmsmanlaw8.CyclicIsFound", spec := "cyclicIsFound", inPlace := ["slices.overlaps[helmsman/api.Choice]"], unfollowed := true, recurses := true, named := ["internal/strconv.uint64pow10", "math/bits.deBruijn32tab", "math/bits.deBruijn64tab"], apart := false, laid := [("math/bits.deBruijn32tab", laid_math_bits_deBruijn32tab), ("math/bits.deBruijn64tab", laid_math_bits_deBruijn64tab), ("internal/strconv.uint64pow10", laid_internal_strconv_uint64pow10)], narrowed := true }
def CyclicIsFoundUptoSaid : Prop := cyclicIsFoundUptoRow.holds Tryz.pinned (OpenSpec.upto cyclicIsFoundSpec)

/-- 'helmsmanlaw8.CyclicNeverLost', WHERE WHAT IT READS IS OF BULK AT MOST 1048576: true; the input reads as it did. -/
def cyclicNeverLostUptoRow : OpenClaim := { program := "ytbffiagfngopaaagreatdoor", sum := "31f23b71ede12a43d8d3c77a4d32d073e87607b05d71904e05ca77b0c01dfec3", func := "helmsman/helmsmanlaw8.CyclicNeverLost", spec := "cyclicNeverLost", inPlace := ["slices.overlaps[helmsman/api.Choice]"], unfollowed := true, recurses := true, named := ["internal/strconv.uint64pow10", "math/bits.deBruijn32tab", "math/bits.deBruijn64tab"], apart := false, laid := [("math/bits.deBruijn32tab", laid_math_bits_deBruijn32tab), ("math/bits.deBruijn64tab", laid_math_bits_deBruijn64tab), ("internal/strconv.uint64pow10", laid_internal_strconv_uint64pow10)], narrowed := true }
def CyclicNeverLostUptoSaid : Prop := cyclicNeverLostUptoRow.holds Tryz.pinned (OpenSpec.upto cyclicNeverLostSpec)

/-- 'helmsmanlaw8.CyclicIncludesStrong', WHERE WHAT IT READS IS OF BULK AT MOST 1048576: true; the input reads as it did. -/
def cyclicIncludesStrongUptoRow : OpenClaim := { program := "ytbffiagfngopaaagreatdoor", sum := "31f23b71ede12a43d8d3c77a4d32d073e87607b05d71904e05ca77b0c01dfec3", func := "helmsman/helmsmanlaw8.CyclicIncludesStrong", spec := "cyclicIncludesStrong", inPlace := ["slices.overlaps[helmsman/api.Choice]"], unfollowed := true, recurses := true, named := ["internal/strconv.uint64pow10", "math/bits.deBruijn32tab", "math/bits.deBruijn64tab"], apart := false, laid := [("math/bits.deBruijn32tab", laid_math_bits_deBruijn32tab), ("math/bits.deBruijn64tab", laid_math_bits_deBruijn64tab), ("internal/strconv.uint64pow10", laid_internal_strconv_uint64pow10)], narrowed := true }
def CyclicIncludesStrongUptoSaid : Prop := cyclicIncludesStrongUptoRow.holds Tryz.pinned (OpenSpec.upto cyclicIncludesStrongSpec)

end Rows
end Go.Proofs.YtbffiagfngopaaaGreatDoor
