/-
  NARROWER THAN 'FOR EVERY INPUT', by the rows' own cells (each row's printed sentence says how): PatchOwn: laid · SlimOwn: laid · SlimModels: laid · SlimTwice: laid · SlimScores: laid · BinsRanks: laid · CellsEnough: laid · CellsNested: laid.
  DERIVED. THE GIVEN ROWS OF THIS SEAT. 8 by the template 'for every input the law returns true; each argument reads behind the call as it read before'; 0 by the template 'total and deterministic' (their statements: YtkncaolcedmjnaaGreatDoorTotals.lean).
  GIVEN WITH THE SEED: the statements are not yours to turn. If you find one false, say at which input.
  Laid BY PROGRAM, IN A SANDBOX (cutbox-rows.mjs): the forced cells as the released guide's own fill.sh prints them over the translation b9568d8705f93cec… (all of the seat's roots in one cut). By AI agents, Wed Nov 11 2026. No macro, syntax, notation, axiom, sorry.
-/
import Derived.Test.YtkncaolcedmjnaaGreatDoorChecked
import GoSem.Claim
import GoSem.ClaimJoined
import GoSem.ClaimMapViews
import Derived.JoinedTies
import Derived.KernelRfl
namespace Go.Proofs.YtkncaolcedmjnaaGreatDoor
/- THE CELL 'sum', in the pinned program and in every row, IS THE sha256 OF THE DUMP (.gsa) THAT YtkncaolcedmjnaaGreatDoorProg.lean LOADS. Nothing in Lean hashes anything: it is a label: what it is worth is what the hold of that sum in a sandbox is worth. -/
noncomputable def Tryz.pinned : Pinned := { name := "ytkncaolcedmjnaagreatdoor", sum := "b9568d8705f93cec54ca2204294a9510978a077bfa571bea44864704253470c9", checked := Tryz.checked }
namespace Rows
def none {H : Type} : Left H := { results := [], args := [] }

/- WHAT THE LISTED PACKAGE-LEVEL VARIABLES READ AS WHEN THE CALL BEGINS. Each datum BY PROGRAM (the guide's laid-datum.mjs) off the statement by which the dump's own 'gosem.cut.vars' lays the variable. In a bare row this is a premise. The card (YtkncaolcedmjnaaGreatDoorCards.lean) ties it to the program's text. -/
def laid_math_bits_deBruijn32tab {H : Type} : DataW H := .agg [.lit (.int .u8 0), .lit (.int .u8 1), .lit (.int .u8 28), .lit (.int .u8 2), .lit (.int .u8 29), .lit (.int .u8 14), .lit (.int .u8 24), .lit (.int .u8 3), .lit (.int .u8 30), .lit (.int .u8 22), .lit (.int .u8 20), .lit (.int .u8 15), .lit (.int .u8 25), .lit (.int .u8 17), .lit (.int .u8 4), .lit (.int .u8 8), .lit (.int .u8 31), .lit (.int .u8 27), .lit (.int .u8 13), .lit (.int .u8 23), .lit (.int .u8 21), .lit (.int .u8 19), .lit (.int .u8 16), .lit (.int .u8 7), .lit (.int .u8 26), .lit (.int .u8 12), .lit (.int .u8 18), .lit (.int .u8 6), .lit (.int .u8 11), .lit (.int .u8 5), .lit (.int .u8 10), .lit (.int .u8 9)]
def laid_math_bits_deBruijn64tab {H : Type} : DataW H := .agg [.lit (.int .u8 0), .lit (.int .u8 1), .lit (.int .u8 56), .lit (.int .u8 2), .lit (.int .u8 57), .lit (.int .u8 49), .lit (.int .u8 28), .lit (.int .u8 3), .lit (.int .u8 61), .lit (.int .u8 58), .lit (.int .u8 42), .lit (.int .u8 50), .lit (.int .u8 38), .lit (.int .u8 29), .lit (.int .u8 17), .lit (.int .u8 4), .lit (.int .u8 62), .lit (.int .u8 47), .lit (.int .u8 59), .lit (.int .u8 36), .lit (.int .u8 45), .lit (.int .u8 43), .lit (.int .u8 51), .lit (.int .u8 22), .lit (.int .u8 53), .lit (.int .u8 39), .lit (.int .u8 33), .lit (.int .u8 30), .lit (.int .u8 24), .lit (.int .u8 18), .lit (.int .u8 12), .lit (.int .u8 5), .lit (.int .u8 63), .lit (.int .u8 55), .lit (.int .u8 48), .lit (.int .u8 27), .lit (.int .u8 60), .lit (.int .u8 41), .lit (.int .u8 37), .lit (.int .u8 16), .lit (.int .u8 46), .lit (.int .u8 35), .lit (.int .u8 44), .lit (.int .u8 21), .lit (.int .u8 52), .lit (.int .u8 32), .lit (.int .u8 23), .lit (.int .u8 11), .lit (.int .u8 54), .lit (.int .u8 26), .lit (.int .u8 40), .lit (.int .u8 15), .lit (.int .u8 34), .lit (.int .u8 20), .lit (.int .u8 31), .lit (.int .u8 10), .lit (.int .u8 25), .lit (.int .u8 14), .lit (.int .u8 19), .lit (.int .u8 9), .lit (.int .u8 13), .lit (.int .u8 8), .lit (.int .u8 7), .lit (.int .u8 6)]
def laid_internal_strconv_uint64pow10 {H : Type} : DataW H := .agg [.lit (.int .u64 1), .lit (.int .u64 10), .lit (.int .u64 100), .lit (.int .u64 1000), .lit (.int .u64 10000), .lit (.int .u64 100000), .lit (.int .u64 1000000), .lit (.int .u64 10000000), .lit (.int .u64 100000000), .lit (.int .u64 1000000000), .lit (.int .u64 10000000000), .lit (.int .u64 100000000000), .lit (.int .u64 1000000000000), .lit (.int .u64 10000000000000), .lit (.int .u64 100000000000000), .lit (.int .u64 1000000000000000), .lit (.int .u64 10000000000000000), .lit (.int .u64 100000000000000000), .lit (.int .u64 1000000000000000000), .lit (.int .u64 10000000000000000000)]
def laid_thicket_scan_classes {H : Type} : DataW H := .agg [.lit (.int .u8 0), .lit (.int .u8 0), .lit (.int .u8 0), .lit (.int .u8 0), .lit (.int .u8 0), .lit (.int .u8 0), .lit (.int .u8 0), .lit (.int .u8 0), .lit (.int .u8 0), .lit (.int .u8 32), .lit (.int .u8 0), .lit (.int .u8 0), .lit (.int .u8 0), .lit (.int .u8 0), .lit (.int .u8 0), .lit (.int .u8 0), .lit (.int .u8 0), .lit (.int .u8 0), .lit (.int .u8 0), .lit (.int .u8 0), .lit (.int .u8 0), .lit (.int .u8 0), .lit (.int .u8 0), .lit (.int .u8 0), .lit (.int .u8 0), .lit (.int .u8 0), .lit (.int .u8 0), .lit (.int .u8 0), .lit (.int .u8 0), .lit (.int .u8 0), .lit (.int .u8 0), .lit (.int .u8 0), .lit (.int .u8 32), .lit (.int .u8 0), .lit (.int .u8 0), .lit (.int .u8 0), .lit (.int .u8 0), .lit (.int .u8 0), .lit (.int .u8 0), .lit (.int .u8 0), .lit (.int .u8 16), .lit (.int .u8 16), .lit (.int .u8 0), .lit (.int .u8 4), .lit (.int .u8 16), .lit (.int .u8 4), .lit (.int .u8 8), .lit (.int .u8 0), .lit (.int .u8 0), .lit (.int .u8 0), .lit (.int .u8 0), .lit (.int .u8 0), .lit (.int .u8 0), .lit (.int .u8 0), .lit (.int .u8 0), .lit (.int .u8 0), .lit (.int .u8 0), .lit (.int .u8 0), .lit (.int .u8 16), .lit (.int .u8 16), .lit (.int .u8 16), .lit (.int .u8 16), .lit (.int .u8 16), .lit (.int .u8 0), .lit (.int .u8 0), .lit (.int .u8 0), .lit (.int .u8 0), .lit (.int .u8 0), .lit (.int .u8 0), .lit (.int .u8 0), .lit (.int .u8 0), .lit (.int .u8 0), .lit (.int .u8 0), .lit (.int .u8 0), .lit (.int .u8 0), .lit (.int .u8 0), .lit (.int .u8 0), .lit (.int .u8 0), .lit (.int .u8 0), .lit (.int .u8 0), .lit (.int .u8 0), .lit (.int .u8 0), .lit (.int .u8 0), .lit (.int .u8 0), .lit (.int .u8 0), .lit (.int .u8 0), .lit (.int .u8 0), .lit (.int .u8 0), .lit (.int .u8 0), .lit (.int .u8 0), .lit (.int .u8 0), .lit (.int .u8 16), .lit (.int .u8 0), .lit (.int .u8 16), .lit (.int .u8 0), .lit (.int .u8 1), .lit (.int .u8 0), .lit (.int .u8 0), .lit (.int .u8 0), .lit (.int .u8 0), .lit (.int .u8 0), .lit (.int .u8 0), .lit (.int .u8 0), .lit (.int .u8 0), .lit (.int .u8 0), .lit (.int .u8 0), .lit (.int .u8 0), .lit (.int .u8 0), .lit (.int .u8 0), .lit (.int .u8 0), .lit (.int .u8 0), .lit (.int .u8 0), .lit (.int .u8 0), .lit (.int .u8 0), .lit (.int .u8 0), .lit (.int .u8 0), .lit (.int .u8 0), .lit (.int .u8 0), .lit (.int .u8 0), .lit (.int .u8 0), .lit (.int .u8 0), .lit (.int .u8 0), .lit (.int .u8 0), .lit (.int .u8 16), .lit (.int .u8 16), .lit (.int .u8 16), .lit (.int .u8 0), .lit (.int .u8 0)]

/-- 'thicketlaw28.PatchOwn': WHATEVER THE INPUT: true; the input reads as it did. -/
def patchOwnSpec : ChangeSpec := { name := "patchOwn", fn := fun _ => fun
  | [d1, d2] => { results := [.lit (.bool true)], args := [d1, d2] }
  | _ => none }
def patchOwnRow : OpenClaim := { program := "ytkncaolcedmjnaagreatdoor", sum := "b9568d8705f93cec54ca2204294a9510978a077bfa571bea44864704253470c9", func := "thicket/thicketlaw28.PatchOwn", spec := "patchOwn", inPlace := ["math.Float64bits", "internal/abi.NoEscape"], unfollowed := true, recurses := true, named := ["thicket/scan.classes", "internal/strconv.uint64pow10", "math/bits.deBruijn32tab", "math/bits.deBruijn64tab"], apart := false, laid := [("math/bits.deBruijn32tab", laid_math_bits_deBruijn32tab), ("math/bits.deBruijn64tab", laid_math_bits_deBruijn64tab), ("internal/strconv.uint64pow10", laid_internal_strconv_uint64pow10), ("thicket/scan.classes", laid_thicket_scan_classes)] }
def PatchOwnSaid : Prop := patchOwnRow.holds Tryz.pinned (OpenSpec.ofChange patchOwnSpec)

/-- ITS FALSE NEIGHBOUR: 'it returns false'. Refute it at one input. -/
def patchOwnWrong : ChangeSpec := { name := "patchOwn", fn := fun _ => fun
  | [d1, d2] => { results := [.lit (.bool false)], args := [d1, d2] }
  | _ => none }
def PatchOwnWrongFalsely : Prop := patchOwnRow.holds Tryz.pinned (OpenSpec.ofChange patchOwnWrong)

/-- 'thicketlaw22.SlimOwn': WHATEVER THE INPUT: true; the input reads as it did. -/
def slimOwnSpec : ChangeSpec := { name := "slimOwn", fn := fun _ => fun
  | [d] => { results := [.lit (.bool true)], args := [d] }
  | _ => none }
def slimOwnRow : OpenClaim := { program := "ytkncaolcedmjnaagreatdoor", sum := "b9568d8705f93cec54ca2204294a9510978a077bfa571bea44864704253470c9", func := "thicket/thicketlaw22.SlimOwn", spec := "slimOwn", inPlace := ["math.Float64bits", "math.Float64frombits"], unfollowed := true, recurses := true, named := ["thicket/scan.classes"], apart := false, laid := [("thicket/scan.classes", laid_thicket_scan_classes)] }
def SlimOwnSaid : Prop := slimOwnRow.holds Tryz.pinned (OpenSpec.ofChange slimOwnSpec)

/-- ITS FALSE NEIGHBOUR: 'it returns false'. Refute it at one input. -/
def slimOwnWrong : ChangeSpec := { name := "slimOwn", fn := fun _ => fun
  | [d] => { results := [.lit (.bool false)], args := [d] }
  | _ => none }
def SlimOwnWrongFalsely : Prop := slimOwnRow.holds Tryz.pinned (OpenSpec.ofChange slimOwnWrong)

/-- 'thicketlaw22.SlimModels': WHATEVER THE INPUT: true; the input reads as it did. -/
def slimModelsSpec : ChangeSpec := { name := "slimModels", fn := fun _ => fun
  | [d] => { results := [.lit (.bool true)], args := [d] }
  | _ => none }
def slimModelsRow : OpenClaim := { program := "ytkncaolcedmjnaagreatdoor", sum := "b9568d8705f93cec54ca2204294a9510978a077bfa571bea44864704253470c9", func := "thicket/thicketlaw22.SlimModels", spec := "slimModels", inPlace := ["math.Float64bits", "math.Float64frombits"], unfollowed := true, recurses := true, named := ["thicket/scan.classes"], apart := false, laid := [("thicket/scan.classes", laid_thicket_scan_classes)] }
def SlimModelsSaid : Prop := slimModelsRow.holds Tryz.pinned (OpenSpec.ofChange slimModelsSpec)

/-- ITS FALSE NEIGHBOUR: 'it returns false'. Refute it at one input. -/
def slimModelsWrong : ChangeSpec := { name := "slimModels", fn := fun _ => fun
  | [d] => { results := [.lit (.bool false)], args := [d] }
  | _ => none }
def SlimModelsWrongFalsely : Prop := slimModelsRow.holds Tryz.pinned (OpenSpec.ofChange slimModelsWrong)

/-- 'thicketlaw22.SlimTwice': WHATEVER THE INPUT: true; the input reads as it did. -/
def slimTwiceSpec : ChangeSpec := { name := "slimTwice", fn := fun _ => fun
  | [d] => { results := [.lit (.bool true)], args := [d] }
  | _ => none }
def slimTwiceRow : OpenClaim := { program := "ytkncaolcedmjnaagreatdoor", sum := "b9568d8705f93cec54ca2204294a9510978a077bfa571bea44864704253470c9", func := "thicket/thicketlaw22.SlimTwice", spec := "slimTwice", inPlace := ["math.Float64bits", "math.Float64frombits"], unfollowed := true, recurses := true, named := ["thicket/scan.classes"], apart := false, laid := [("thicket/scan.classes", laid_thicket_scan_classes)] }
def SlimTwiceSaid : Prop := slimTwiceRow.holds Tryz.pinned (OpenSpec.ofChange slimTwiceSpec)

/-- ITS FALSE NEIGHBOUR: 'it returns false'. Refute it at one input. -/
def slimTwiceWrong : ChangeSpec := { name := "slimTwice", fn := fun _ => fun
  | [d] => { results := [.lit (.bool false)], args := [d] }
  | _ => none }
def SlimTwiceWrongFalsely : Prop := slimTwiceRow.holds Tryz.pinned (OpenSpec.ofChange slimTwiceWrong)

/-- 'thicketlaw22.SlimScores': WHATEVER THE INPUT: true; the input reads as it did. -/
def slimScoresSpec : ChangeSpec := { name := "slimScores", fn := fun _ => fun
  | [d1, d2] => { results := [.lit (.bool true)], args := [d1, d2] }
  | _ => none }
def slimScoresRow : OpenClaim := { program := "ytkncaolcedmjnaagreatdoor", sum := "b9568d8705f93cec54ca2204294a9510978a077bfa571bea44864704253470c9", func := "thicket/thicketlaw22.SlimScores", spec := "slimScores", inPlace := ["math.Float64bits", "math.Float64frombits"], unfollowed := true, recurses := true, named := ["thicket/scan.classes"], apart := false, laid := [("thicket/scan.classes", laid_thicket_scan_classes)] }
def SlimScoresSaid : Prop := slimScoresRow.holds Tryz.pinned (OpenSpec.ofChange slimScoresSpec)

/-- ITS FALSE NEIGHBOUR: 'it returns false'. Refute it at one input. -/
def slimScoresWrong : ChangeSpec := { name := "slimScores", fn := fun _ => fun
  | [d1, d2] => { results := [.lit (.bool false)], args := [d1, d2] }
  | _ => none }
def SlimScoresWrongFalsely : Prop := slimScoresRow.holds Tryz.pinned (OpenSpec.ofChange slimScoresWrong)

/-- 'thicketlaw20.BinsRanks': WHATEVER THE INPUT: true; the input reads as it did. -/
def binsRanksSpec : ChangeSpec := { name := "binsRanks", fn := fun _ => fun
  | [d1, d2, d3] => { results := [.lit (.bool true)], args := [d1, d2, d3] }
  | _ => none }
def binsRanksRow : OpenClaim := { program := "ytkncaolcedmjnaagreatdoor", sum := "b9568d8705f93cec54ca2204294a9510978a077bfa571bea44864704253470c9", func := "thicket/thicketlaw20.BinsRanks", spec := "binsRanks", inPlace := ["math.Float64bits", "math.Float64frombits"], unfollowed := true, recurses := true, named := ["thicket/scan.classes", "internal/strconv.uint64pow10", "math/bits.deBruijn32tab", "math/bits.deBruijn64tab"], apart := false, laid := [("math/bits.deBruijn32tab", laid_math_bits_deBruijn32tab), ("math/bits.deBruijn64tab", laid_math_bits_deBruijn64tab), ("internal/strconv.uint64pow10", laid_internal_strconv_uint64pow10), ("thicket/scan.classes", laid_thicket_scan_classes)] }
def BinsRanksSaid : Prop := binsRanksRow.holds Tryz.pinned (OpenSpec.ofChange binsRanksSpec)

/-- ITS FALSE NEIGHBOUR: 'it returns false'. Refute it at one input. -/
def binsRanksWrong : ChangeSpec := { name := "binsRanks", fn := fun _ => fun
  | [d1, d2, d3] => { results := [.lit (.bool false)], args := [d1, d2, d3] }
  | _ => none }
def BinsRanksWrongFalsely : Prop := binsRanksRow.holds Tryz.pinned (OpenSpec.ofChange binsRanksWrong)

/-- 'thicketlaw23.CellsEnough': WHATEVER THE INPUT: true; the input reads as it did. -/
def cellsEnoughSpec : ChangeSpec := { name := "cellsEnough", fn := fun _ => fun
  | [d1, d2, d3] => { results := [.lit (.bool true)], args := [d1, d2, d3] }
  | _ => none }
def cellsEnoughRow : OpenClaim := { program := "ytkncaolcedmjnaagreatdoor", sum := "b9568d8705f93cec54ca2204294a9510978a077bfa571bea44864704253470c9", func := "thicket/thicketlaw23.CellsEnough", spec := "cellsEnough", inPlace := ["math.Float64bits", "math.Float64frombits"], unfollowed := true, recurses := true, named := ["thicket/scan.classes"], apart := false, laid := [("thicket/scan.classes", laid_thicket_scan_classes)] }
def CellsEnoughSaid : Prop := cellsEnoughRow.holds Tryz.pinned (OpenSpec.ofChange cellsEnoughSpec)

/-- ITS FALSE NEIGHBOUR: 'it returns false'. Refute it at one input. -/
def cellsEnoughWrong : ChangeSpec := { name := "cellsEnough", fn := fun _ => fun
  | [d1, d2, d3] => { results := [.lit (.bool false)], args := [d1, d2, d3] }
  | _ => none }
def CellsEnoughWrongFalsely : Prop := cellsEnoughRow.holds Tryz.pinned (OpenSpec.ofChange cellsEnoughWrong)

/-- 'thicketlaw23.CellsNested': WHATEVER THE INPUT: true; the input reads as it did. -/
def cellsNestedSpec : ChangeSpec := { name := "cellsNested", fn := fun _ => fun
  | [d1, d2, d3] => { results := [.lit (.bool true)], args := [d1, d2, d3] }
  | _ => none }
def cellsNestedRow : OpenClaim := { program := "ytkncaolcedmjnaagreatdoor", sum := "b9568d8705f93cec54ca2204294a9510978a077bfa571bea44864704253470c9", func := "thicket/thicketlaw23.CellsNested", spec := "cellsNested", inPlace := ["math.Float64bits", "math.Float64frombits"], unfollowed := true, recurses := true, named := ["thicket/scan.classes"], apart := false, laid := [("thicket/scan.classes", laid_thicket_scan_classes)] }
def CellsNestedSaid : Prop := cellsNestedRow.holds Tryz.pinned (OpenSpec.ofChange cellsNestedSpec)

/-- ITS FALSE NEIGHBOUR: 'it returns false'. Refute it at one input. -/
def cellsNestedWrong : ChangeSpec := { name := "cellsNested", fn := fun _ => fun
  | [d1, d2, d3] => { results := [.lit (.bool false)], args := [d1, d2, d3] }
  | _ => none }
def CellsNestedWrongFalsely : Prop := cellsNestedRow.holds Tryz.pinned (OpenSpec.ofChange cellsNestedWrong)

/- THE SECOND FORM. 'bulk': how many values and letters a reading holds, each counted each time it is reached (what is shared counts as often as it is met; a slice's spare places count too). A statement '..UptoSaid' is the law's where the arguments, and the package variables that the reading takes, are together of bulk at most 1048576: NARROWER than '..Said'. Prove '..Said' where nothing that the law and all that it calls make is longer than what came in: it says more and counts as full. Else prove '..UptoSaid'. A law counts once. -/
mutual
def uptoBulk {H : Type} : DataW H → Nat
  | .lit (.string bytes) => bytes.length + 1
  | .lit _ => 1
  | .nil => 1
  | .ptr d => uptoBulk d + 1
  | .slice elems spare => uptoBulkAll elems + uptoBulkAll spare + 1
  | .agg parts => uptoBulkAll parts + 1
  | .iface _ d => uptoBulk d + 1
  | .map entries => uptoBulkEntries entries + 1
  | .held _ => 1
def uptoBulkAll {H : Type} : List (DataW H) → Nat
  | [] => 0
  | d :: r => uptoBulk d + uptoBulkAll r
def uptoBulkEntries {H : Type} : List (Lit × DataW H) → Nat
  | [] => 0
  | x :: r => uptoBulkEntry x + uptoBulkEntries r
def uptoBulkEntry {H : Type} : Lit × DataW H → Nat
  | (.string bytes, d) => bytes.length + uptoBulk d + 1
  | (_, d) => uptoBulk d + 1
 end
def uptoSmall : (H : Type) → List (DataW H) → Bool := fun _ ds => decide (uptoBulkAll ds ≤ 1048576)
def OpenSpec.upto (s : _root_.Go.ChangeSpec) : _root_.Go.OpenSpec := { _root_.Go.OpenSpec.ofChange s with cond := some uptoSmall }

/-- 'thicketlaw28.PatchOwn', WHERE WHAT IT READS IS OF BULK AT MOST 1048576: true; the input reads as it did. -/
def patchOwnUptoRow : OpenClaim := { program := "ytkncaolcedmjnaagreatdoor", sum := "b9568d8705f93cec54ca2204294a9510978a077bfa571bea44864704253470c9", func := "thicket/thicketlaw28.PatchOwn", spec := "patchOwn", inPlace := ["math.Float64bits", "internal/abi.NoEscape"], unfollowed := true, recurses := true, named := ["thicket/scan.classes", "internal/strconv.uint64pow10", "math/bits.deBruijn32tab", "math/bits.deBruijn64tab"], apart := false, laid := [("math/bits.deBruijn32tab", laid_math_bits_deBruijn32tab), ("math/bits.deBruijn64tab", laid_math_bits_deBruijn64tab), ("internal/strconv.uint64pow10", laid_internal_strconv_uint64pow10), ("thicket/scan.classes", laid_thicket_scan_classes)], narrowed := true }
def PatchOwnUptoSaid : Prop := patchOwnUptoRow.holds Tryz.pinned (OpenSpec.upto patchOwnSpec)

/-- 'thicketlaw22.SlimOwn', WHERE WHAT IT READS IS OF BULK AT MOST 1048576: true; the input reads as it did. -/
def slimOwnUptoRow : OpenClaim := { program := "ytkncaolcedmjnaagreatdoor", sum := "b9568d8705f93cec54ca2204294a9510978a077bfa571bea44864704253470c9", func := "thicket/thicketlaw22.SlimOwn", spec := "slimOwn", inPlace := ["math.Float64bits", "math.Float64frombits"], unfollowed := true, recurses := true, named := ["thicket/scan.classes"], apart := false, laid := [("thicket/scan.classes", laid_thicket_scan_classes)], narrowed := true }
def SlimOwnUptoSaid : Prop := slimOwnUptoRow.holds Tryz.pinned (OpenSpec.upto slimOwnSpec)

/-- 'thicketlaw22.SlimModels', WHERE WHAT IT READS IS OF BULK AT MOST 1048576: true; the input reads as it did. -/
def slimModelsUptoRow : OpenClaim := { program := "ytkncaolcedmjnaagreatdoor", sum := "b9568d8705f93cec54ca2204294a9510978a077bfa571bea44864704253470c9", func := "thicket/thicketlaw22.SlimModels", spec := "slimModels", inPlace := ["math.Float64bits", "math.Float64frombits"], unfollowed := true, recurses := true, named := ["thicket/scan.classes"], apart := false, laid := [("thicket/scan.classes", laid_thicket_scan_classes)], narrowed := true }
def SlimModelsUptoSaid : Prop := slimModelsUptoRow.holds Tryz.pinned (OpenSpec.upto slimModelsSpec)

/-- 'thicketlaw22.SlimTwice', WHERE WHAT IT READS IS OF BULK AT MOST 1048576: true; the input reads as it did. -/
def slimTwiceUptoRow : OpenClaim := { program := "ytkncaolcedmjnaagreatdoor", sum := "b9568d8705f93cec54ca2204294a9510978a077bfa571bea44864704253470c9", func := "thicket/thicketlaw22.SlimTwice", spec := "slimTwice", inPlace := ["math.Float64bits", "math.Float64frombits"], unfollowed := true, recurses := true, named := ["thicket/scan.classes"], apart := false, laid := [("thicket/scan.classes", laid_thicket_scan_classes)], narrowed := true }
def SlimTwiceUptoSaid : Prop := slimTwiceUptoRow.holds Tryz.pinned (OpenSpec.upto slimTwiceSpec)

/-- 'thicketlaw22.SlimScores', WHERE WHAT IT READS IS OF BULK AT MOST 1048576: true; the input reads as it did. -/
def slimScoresUptoRow : OpenClaim := { program := "ytkncaolcedmjnaagreatdoor", sum := "b9568d8705f93cec54ca2204294a9510978a077bfa571bea44864704253470c9", func := "thicket/thicketlaw22.SlimScores", spec := "slimScores", inPlace := ["math.Float64bits", "math.Float64frombits"], unfollowed := true, recurses := true, named := ["thicket/scan.classes"], apart := false, laid := [("thicket/scan.classes", laid_thicket_scan_classes)], narrowed := true }
def SlimScoresUptoSaid : Prop := slimScoresUptoRow.holds Tryz.pinned (OpenSpec.upto slimScoresSpec)

/-- 'thicketlaw20.BinsRanks', WHERE WHAT IT READS IS OF BULK AT MOST 1048576: true; the input reads as it did. -/
def binsRanksUptoRow : OpenClaim := { program := "ytkncaolcedmjnaagreatdoor", sum := "b9568d8705f93cec54ca2204294a9510978a077bfa571bea44864704253470c9", func := "thicket/thicketlaw20.BinsRanks", spec := "binsRanks", inPlace := ["math.Float64bits", "math.Float64frombits"], unfollowed := true, recurses := true, named := ["thicket/scan.classes", "internal/strconv.uint64pow10", "math/bits.deBruijn32tab", "math/bits.deBruijn64tab"], apart := false, laid := [("math/bits.deBruijn32tab", laid_math_bits_deBruijn32tab), ("math/bits.deBruijn64tab", laid_math_bits_deBruijn64tab), ("internal/strconv.uint64pow10", laid_internal_strconv_uint64pow10), ("thicket/scan.classes", laid_thicket_scan_classes)], narrowed := true }
def BinsRanksUptoSaid : Prop := binsRanksUptoRow.holds Tryz.pinned (OpenSpec.upto binsRanksSpec)

/-- 'thicketlaw23.CellsEnough', WHERE WHAT IT READS IS OF BULK AT MOST 1048576: true; the input reads as it did. -/
def cellsEnoughUptoRow : OpenClaim := { program := "ytkncaolcedmjnaagreatdoor", sum := "b9568d8705f93cec54ca2204294a9510978a077bfa571bea44864704253470c9", func := "thicket/thicketlaw23.CellsEnough", spec := "cellsEnough", inPlace := ["math.Float64bits", "math.Float64frombits"], unfollowed := true, recurses := true, named := ["thicket/scan.classes"], apart := false, laid := [("thicket/scan.classes", laid_thicket_scan_classes)], narrowed := true }
def CellsEnoughUptoSaid : Prop := cellsEnoughUptoRow.holds Tryz.pinned (OpenSpec.upto cellsEnoughSpec)

/-- 'thicketlaw23.CellsNested', WHERE WHAT IT READS IS OF BULK AT MOST 1048576: true; the input reads as it did. -/
def cellsNestedUptoRow : OpenClaim := { program := "ytkncaolcedmjnaagreatdoor", sum := "b9568d8705f93cec54ca2204294a9510978a077bfa571bea44864704253470c9", func := "thicket/thicketlaw23.CellsNested", spec := "cellsNested", inPlace := ["math.Float64bits", "math.Float64frombits"], unfollowed := true, recurses := true, named := ["thicket/scan.classes"], apart := false, laid := [("thicket/scan.classes", laid_thicket_scan_classes)], narrowed := true }
def CellsNestedUptoSaid : Prop := cellsNestedUptoRow.holds Tryz.pinned (OpenSpec.upto cellsNestedSpec)

end Rows
end Go.Proofs.YtkncaolcedmjnaaGreatDoor
