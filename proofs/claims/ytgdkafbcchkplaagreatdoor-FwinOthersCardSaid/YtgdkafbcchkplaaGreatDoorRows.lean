/-
  NARROWER THAN 'FOR EVERY INPUT', by the rows' own cells (each row's printed sentence says how): FwinMovingAverage: laid · FwinMovingMax: laid · FwinMovingMedian: laid · FwinMovingMin: laid · FwinMovingSum: laid · FwinStdev: laid · FwinMedian: laid · FwinSummarize: laid · FwinHitcount: laid · FwinOthers: laid.
  DERIVED. THE GIVEN ROWS OF THIS SEAT. 10 by the template 'for every input the law returns true; each argument reads behind the call as it read before'; 0 by the template 'total and deterministic' (their statements: YtgdkafbcchkplaaGreatDoorTotals.lean).
  GIVEN WITH THE SEED: the statements are not yours to turn. If you find one false, say at which input.
  Laid BY PROGRAM, IN A SANDBOX (cutbox-rows.mjs): the forced cells as the released guide's own fill.sh prints them over the translation f3ff23d5e4a321ca… (all of the seat's roots in one cut). By AI agents, Wed Nov 11 2026. No macro, syntax, notation, axiom, sorry.
-/
import Derived.Test.YtgdkafbcchkplaaGreatDoorChecked
import GoSem.Claim
import GoSem.ClaimJoined
import GoSem.ClaimMapViews
import Derived.JoinedTies
import Derived.KernelRfl
namespace Go.Proofs.YtgdkafbcchkplaaGreatDoor
/- THE CELL 'sum', in the pinned program and in every row, IS THE sha256 OF THE DUMP (.gsa) THAT YtgdkafbcchkplaaGreatDoorProg.lean LOADS. Nothing in Lean hashes anything: it is a label: what it is worth is what the hold of that sum in a sandbox is worth. -/
noncomputable def Tryz.pinned : Pinned := { name := "ytgdkafbcchkplaagreatdoor", sum := "f3ff23d5e4a321cae1d6dd95b2acf385a1195583044166c8b1900f9dadcafb6c", checked := Tryz.checked }
namespace Rows
def none {H : Type} : Left H := { results := [], args := [] }

/- WHAT THE LISTED PACKAGE-LEVEL VARIABLES READ AS WHEN THE CALL BEGINS. Each datum BY PROGRAM (the guide's laid-datum.mjs) off the statement by which the dump's own 'gosem.cut.vars' lays the variable. In a bare row this is a premise. The card (YtgdkafbcchkplaaGreatDoorCards.lean) ties it to the program's text. -/
def laid_math_bits_deBruijn32tab {H : Type} : DataW H := .agg [.lit (.int .u8 0), .lit (.int .u8 1), .lit (.int .u8 28), .lit (.int .u8 2), .lit (.int .u8 29), .lit (.int .u8 14), .lit (.int .u8 24), .lit (.int .u8 3), .lit (.int .u8 30), .lit (.int .u8 22), .lit (.int .u8 20), .lit (.int .u8 15), .lit (.int .u8 25), .lit (.int .u8 17), .lit (.int .u8 4), .lit (.int .u8 8), .lit (.int .u8 31), .lit (.int .u8 27), .lit (.int .u8 13), .lit (.int .u8 23), .lit (.int .u8 21), .lit (.int .u8 19), .lit (.int .u8 16), .lit (.int .u8 7), .lit (.int .u8 26), .lit (.int .u8 12), .lit (.int .u8 18), .lit (.int .u8 6), .lit (.int .u8 11), .lit (.int .u8 5), .lit (.int .u8 10), .lit (.int .u8 9)]
def laid_math_bits_deBruijn64tab {H : Type} : DataW H := .agg [.lit (.int .u8 0), .lit (.int .u8 1), .lit (.int .u8 56), .lit (.int .u8 2), .lit (.int .u8 57), .lit (.int .u8 49), .lit (.int .u8 28), .lit (.int .u8 3), .lit (.int .u8 61), .lit (.int .u8 58), .lit (.int .u8 42), .lit (.int .u8 50), .lit (.int .u8 38), .lit (.int .u8 29), .lit (.int .u8 17), .lit (.int .u8 4), .lit (.int .u8 62), .lit (.int .u8 47), .lit (.int .u8 59), .lit (.int .u8 36), .lit (.int .u8 45), .lit (.int .u8 43), .lit (.int .u8 51), .lit (.int .u8 22), .lit (.int .u8 53), .lit (.int .u8 39), .lit (.int .u8 33), .lit (.int .u8 30), .lit (.int .u8 24), .lit (.int .u8 18), .lit (.int .u8 12), .lit (.int .u8 5), .lit (.int .u8 63), .lit (.int .u8 55), .lit (.int .u8 48), .lit (.int .u8 27), .lit (.int .u8 60), .lit (.int .u8 41), .lit (.int .u8 37), .lit (.int .u8 16), .lit (.int .u8 46), .lit (.int .u8 35), .lit (.int .u8 44), .lit (.int .u8 21), .lit (.int .u8 52), .lit (.int .u8 32), .lit (.int .u8 23), .lit (.int .u8 11), .lit (.int .u8 54), .lit (.int .u8 26), .lit (.int .u8 40), .lit (.int .u8 15), .lit (.int .u8 34), .lit (.int .u8 20), .lit (.int .u8 31), .lit (.int .u8 10), .lit (.int .u8 25), .lit (.int .u8 14), .lit (.int .u8 19), .lit (.int .u8 9), .lit (.int .u8 13), .lit (.int .u8 8), .lit (.int .u8 7), .lit (.int .u8 6)]
def laid_internal_strconv_uint64pow10 {H : Type} : DataW H := .agg [.lit (.int .u64 1), .lit (.int .u64 10), .lit (.int .u64 100), .lit (.int .u64 1000), .lit (.int .u64 10000), .lit (.int .u64 100000), .lit (.int .u64 1000000), .lit (.int .u64 10000000), .lit (.int .u64 100000000), .lit (.int .u64 1000000000), .lit (.int .u64 10000000000), .lit (.int .u64 100000000000), .lit (.int .u64 1000000000000), .lit (.int .u64 10000000000000), .lit (.int .u64 100000000000000), .lit (.int .u64 1000000000000000), .lit (.int .u64 10000000000000000), .lit (.int .u64 100000000000000000), .lit (.int .u64 1000000000000000000), .lit (.int .u64 10000000000000000000)]

/-- 'graticulelaw21.FwinMovingAverage': WHATEVER THE INPUT: true; the input reads as it did. -/
def fwinMovingAverageSpec : ChangeSpec := { name := "fwinMovingAverage", fn := fun _ => fun
  | [d1, d2] => { results := [.lit (.bool true)], args := [d1, d2] }
  | _ => none }
def fwinMovingAverageRow : OpenClaim := { program := "ytgdkafbcchkplaagreatdoor", sum := "f3ff23d5e4a321cae1d6dd95b2acf385a1195583044166c8b1900f9dadcafb6c", func := "graticule/graticulelaw21.FwinMovingAverage", spec := "fwinMovingAverage", inPlace := ["internal/abi.NoEscape", "internal/bytealg.MakeNoZero"], unfollowed := true, recurses := true, named := ["math/bits.divideError", "math/bits.overflowError", "internal/strconv.uint64pow10", "math/bits.deBruijn32tab", "math/bits.deBruijn64tab"], apart := false, laid := [("math/bits.deBruijn32tab", laid_math_bits_deBruijn32tab), ("math/bits.deBruijn64tab", laid_math_bits_deBruijn64tab), ("internal/strconv.uint64pow10", laid_internal_strconv_uint64pow10)] }
def FwinMovingAverageSaid : Prop := fwinMovingAverageRow.holds Tryz.pinned (OpenSpec.ofChange fwinMovingAverageSpec)

/-- ITS FALSE NEIGHBOUR: 'it returns false'. Refute it at one input. -/
def fwinMovingAverageWrong : ChangeSpec := { name := "fwinMovingAverage", fn := fun _ => fun
  | [d1, d2] => { results := [.lit (.bool false)], args := [d1, d2] }
  | _ => none }
def FwinMovingAverageWrongFalsely : Prop := fwinMovingAverageRow.holds Tryz.pinned (OpenSpec.ofChange fwinMovingAverageWrong)

/-- 'graticulelaw21.FwinMovingMax': WHATEVER THE INPUT: true; the input reads as it did. -/
def fwinMovingMaxSpec : ChangeSpec := { name := "fwinMovingMax", fn := fun _ => fun
  | [d1, d2] => { results := [.lit (.bool true)], args := [d1, d2] }
  | _ => none }
def fwinMovingMaxRow : OpenClaim := { program := "ytgdkafbcchkplaagreatdoor", sum := "f3ff23d5e4a321cae1d6dd95b2acf385a1195583044166c8b1900f9dadcafb6c", func := "graticule/graticulelaw21.FwinMovingMax", spec := "fwinMovingMax", inPlace := ["internal/abi.NoEscape", "internal/bytealg.MakeNoZero"], unfollowed := true, recurses := true, named := ["math/bits.divideError", "math/bits.overflowError", "internal/strconv.uint64pow10", "math/bits.deBruijn32tab", "math/bits.deBruijn64tab"], apart := false, laid := [("math/bits.deBruijn32tab", laid_math_bits_deBruijn32tab), ("math/bits.deBruijn64tab", laid_math_bits_deBruijn64tab), ("internal/strconv.uint64pow10", laid_internal_strconv_uint64pow10)] }
def FwinMovingMaxSaid : Prop := fwinMovingMaxRow.holds Tryz.pinned (OpenSpec.ofChange fwinMovingMaxSpec)

/-- ITS FALSE NEIGHBOUR: 'it returns false'. Refute it at one input. -/
def fwinMovingMaxWrong : ChangeSpec := { name := "fwinMovingMax", fn := fun _ => fun
  | [d1, d2] => { results := [.lit (.bool false)], args := [d1, d2] }
  | _ => none }
def FwinMovingMaxWrongFalsely : Prop := fwinMovingMaxRow.holds Tryz.pinned (OpenSpec.ofChange fwinMovingMaxWrong)

/-- 'graticulelaw21.FwinMovingMedian': WHATEVER THE INPUT: true; the input reads as it did. -/
def fwinMovingMedianSpec : ChangeSpec := { name := "fwinMovingMedian", fn := fun _ => fun
  | [d1, d2] => { results := [.lit (.bool true)], args := [d1, d2] }
  | _ => none }
def fwinMovingMedianRow : OpenClaim := { program := "ytgdkafbcchkplaagreatdoor", sum := "f3ff23d5e4a321cae1d6dd95b2acf385a1195583044166c8b1900f9dadcafb6c", func := "graticule/graticulelaw21.FwinMovingMedian", spec := "fwinMovingMedian", inPlace := ["internal/abi.NoEscape", "internal/bytealg.MakeNoZero"], unfollowed := true, recurses := true, named := ["math/bits.divideError", "math/bits.overflowError", "internal/strconv.uint64pow10", "math/bits.deBruijn32tab", "math/bits.deBruijn64tab"], apart := false, laid := [("math/bits.deBruijn32tab", laid_math_bits_deBruijn32tab), ("math/bits.deBruijn64tab", laid_math_bits_deBruijn64tab), ("internal/strconv.uint64pow10", laid_internal_strconv_uint64pow10)] }
def FwinMovingMedianSaid : Prop := fwinMovingMedianRow.holds Tryz.pinned (OpenSpec.ofChange fwinMovingMedianSpec)

/-- ITS FALSE NEIGHBOUR: 'it returns false'. Refute it at one input. -/
def fwinMovingMedianWrong : ChangeSpec := { name := "fwinMovingMedian", fn := fun _ => fun
  | [d1, d2] => { results := [.lit (.bool false)], args := [d1, d2] }
  | _ => none }
def FwinMovingMedianWrongFalsely : Prop := fwinMovingMedianRow.holds Tryz.pinned (OpenSpec.ofChange fwinMovingMedianWrong)

/-- 'graticulelaw21.FwinMovingMin': WHATEVER THE INPUT: true; the input reads as it did. -/
def fwinMovingMinSpec : ChangeSpec := { name := "fwinMovingMin", fn := fun _ => fun
  | [d1, d2] => { results := [.lit (.bool true)], args := [d1, d2] }
  | _ => none }
def fwinMovingMinRow : OpenClaim := { program := "ytgdkafbcchkplaagreatdoor", sum := "f3ff23d5e4a321cae1d6dd95b2acf385a1195583044166c8b1900f9dadcafb6c", func := "graticule/graticulelaw21.FwinMovingMin", spec := "fwinMovingMin", inPlace := ["internal/abi.NoEscape", "internal/bytealg.MakeNoZero"], unfollowed := true, recurses := true, named := ["math/bits.divideError", "math/bits.overflowError", "internal/strconv.uint64pow10", "math/bits.deBruijn32tab", "math/bits.deBruijn64tab"], apart := false, laid := [("math/bits.deBruijn32tab", laid_math_bits_deBruijn32tab), ("math/bits.deBruijn64tab", laid_math_bits_deBruijn64tab), ("internal/strconv.uint64pow10", laid_internal_strconv_uint64pow10)] }
def FwinMovingMinSaid : Prop := fwinMovingMinRow.holds Tryz.pinned (OpenSpec.ofChange fwinMovingMinSpec)

/-- ITS FALSE NEIGHBOUR: 'it returns false'. Refute it at one input. -/
def fwinMovingMinWrong : ChangeSpec := { name := "fwinMovingMin", fn := fun _ => fun
  | [d1, d2] => { results := [.lit (.bool false)], args := [d1, d2] }
  | _ => none }
def FwinMovingMinWrongFalsely : Prop := fwinMovingMinRow.holds Tryz.pinned (OpenSpec.ofChange fwinMovingMinWrong)

/-- 'graticulelaw21.FwinMovingSum': WHATEVER THE INPUT: true; the input reads as it did. -/
def fwinMovingSumSpec : ChangeSpec := { name := "fwinMovingSum", fn := fun _ => fun
  | [d1, d2] => { results := [.lit (.bool true)], args := [d1, d2] }
  | _ => none }
def fwinMovingSumRow : OpenClaim := { program := "ytgdkafbcchkplaagreatdoor", sum := "f3ff23d5e4a321cae1d6dd95b2acf385a1195583044166c8b1900f9dadcafb6c", func := "graticule/graticulelaw21.FwinMovingSum", spec := "fwinMovingSum", inPlace := ["internal/abi.NoEscape", "internal/bytealg.MakeNoZero"], unfollowed := true, recurses := true, named := ["math/bits.divideError", "math/bits.overflowError", "internal/strconv.uint64pow10", "math/bits.deBruijn32tab", "math/bits.deBruijn64tab"], apart := false, laid := [("math/bits.deBruijn32tab", laid_math_bits_deBruijn32tab), ("math/bits.deBruijn64tab", laid_math_bits_deBruijn64tab), ("internal/strconv.uint64pow10", laid_internal_strconv_uint64pow10)] }
def FwinMovingSumSaid : Prop := fwinMovingSumRow.holds Tryz.pinned (OpenSpec.ofChange fwinMovingSumSpec)

/-- ITS FALSE NEIGHBOUR: 'it returns false'. Refute it at one input. -/
def fwinMovingSumWrong : ChangeSpec := { name := "fwinMovingSum", fn := fun _ => fun
  | [d1, d2] => { results := [.lit (.bool false)], args := [d1, d2] }
  | _ => none }
def FwinMovingSumWrongFalsely : Prop := fwinMovingSumRow.holds Tryz.pinned (OpenSpec.ofChange fwinMovingSumWrong)

/-- 'graticulelaw21.FwinStdev': WHATEVER THE INPUT: true; the input reads as it did. -/
def fwinStdevSpec : ChangeSpec := { name := "fwinStdev", fn := fun _ => fun
  | [d1, d2] => { results := [.lit (.bool true)], args := [d1, d2] }
  | _ => none }
def fwinStdevRow : OpenClaim := { program := "ytgdkafbcchkplaagreatdoor", sum := "f3ff23d5e4a321cae1d6dd95b2acf385a1195583044166c8b1900f9dadcafb6c", func := "graticule/graticulelaw21.FwinStdev", spec := "fwinStdev", inPlace := ["internal/abi.NoEscape", "internal/bytealg.MakeNoZero"], unfollowed := true, recurses := true, named := ["math/bits.divideError", "math/bits.overflowError", "internal/strconv.uint64pow10", "math/bits.deBruijn32tab", "math/bits.deBruijn64tab"], apart := false, laid := [("math/bits.deBruijn32tab", laid_math_bits_deBruijn32tab), ("math/bits.deBruijn64tab", laid_math_bits_deBruijn64tab), ("internal/strconv.uint64pow10", laid_internal_strconv_uint64pow10)] }
def FwinStdevSaid : Prop := fwinStdevRow.holds Tryz.pinned (OpenSpec.ofChange fwinStdevSpec)

/-- ITS FALSE NEIGHBOUR: 'it returns false'. Refute it at one input. -/
def fwinStdevWrong : ChangeSpec := { name := "fwinStdev", fn := fun _ => fun
  | [d1, d2] => { results := [.lit (.bool false)], args := [d1, d2] }
  | _ => none }
def FwinStdevWrongFalsely : Prop := fwinStdevRow.holds Tryz.pinned (OpenSpec.ofChange fwinStdevWrong)

/-- 'graticulelaw21.FwinMedian': WHATEVER THE INPUT: true; the input reads as it did. -/
def fwinMedianSpec : ChangeSpec := { name := "fwinMedian", fn := fun _ => fun
  | [d1, d2] => { results := [.lit (.bool true)], args := [d1, d2] }
  | _ => none }
def fwinMedianRow : OpenClaim := { program := "ytgdkafbcchkplaagreatdoor", sum := "f3ff23d5e4a321cae1d6dd95b2acf385a1195583044166c8b1900f9dadcafb6c", func := "graticule/graticulelaw21.FwinMedian", spec := "fwinMedian", inPlace := ["internal/abi.NoEscape", "internal/bytealg.MakeNoZero"], unfollowed := true, recurses := true, named := ["math/bits.divideError", "math/bits.overflowError", "internal/strconv.uint64pow10", "math/bits.deBruijn32tab", "math/bits.deBruijn64tab"], apart := false, laid := [("math/bits.deBruijn32tab", laid_math_bits_deBruijn32tab), ("math/bits.deBruijn64tab", laid_math_bits_deBruijn64tab), ("internal/strconv.uint64pow10", laid_internal_strconv_uint64pow10)] }
def FwinMedianSaid : Prop := fwinMedianRow.holds Tryz.pinned (OpenSpec.ofChange fwinMedianSpec)

/-- ITS FALSE NEIGHBOUR: 'it returns false'. Refute it at one input. -/
def fwinMedianWrong : ChangeSpec := { name := "fwinMedian", fn := fun _ => fun
  | [d1, d2] => { results := [.lit (.bool false)], args := [d1, d2] }
  | _ => none }
def FwinMedianWrongFalsely : Prop := fwinMedianRow.holds Tryz.pinned (OpenSpec.ofChange fwinMedianWrong)

/-- 'graticulelaw21.FwinSummarize': WHATEVER THE INPUT: true; the input reads as it did. -/
def fwinSummarizeSpec : ChangeSpec := { name := "fwinSummarize", fn := fun _ => fun
  | [d1, d2, d3] => { results := [.lit (.bool true)], args := [d1, d2, d3] }
  | _ => none }
def fwinSummarizeRow : OpenClaim := { program := "ytgdkafbcchkplaagreatdoor", sum := "f3ff23d5e4a321cae1d6dd95b2acf385a1195583044166c8b1900f9dadcafb6c", func := "graticule/graticulelaw21.FwinSummarize", spec := "fwinSummarize", inPlace := ["internal/abi.NoEscape", "internal/bytealg.MakeNoZero"], unfollowed := true, recurses := true, named := ["internal/strconv.uint64pow10", "math/bits.deBruijn32tab", "math/bits.deBruijn64tab", "math/bits.divideError", "math/bits.overflowError"], apart := false, laid := [("math/bits.deBruijn32tab", laid_math_bits_deBruijn32tab), ("math/bits.deBruijn64tab", laid_math_bits_deBruijn64tab), ("internal/strconv.uint64pow10", laid_internal_strconv_uint64pow10)] }
def FwinSummarizeSaid : Prop := fwinSummarizeRow.holds Tryz.pinned (OpenSpec.ofChange fwinSummarizeSpec)

/-- ITS FALSE NEIGHBOUR: 'it returns false'. Refute it at one input. -/
def fwinSummarizeWrong : ChangeSpec := { name := "fwinSummarize", fn := fun _ => fun
  | [d1, d2, d3] => { results := [.lit (.bool false)], args := [d1, d2, d3] }
  | _ => none }
def FwinSummarizeWrongFalsely : Prop := fwinSummarizeRow.holds Tryz.pinned (OpenSpec.ofChange fwinSummarizeWrong)

/-- 'graticulelaw21.FwinHitcount': WHATEVER THE INPUT: true; the input reads as it did. -/
def fwinHitcountSpec : ChangeSpec := { name := "fwinHitcount", fn := fun _ => fun
  | [d1, d2] => { results := [.lit (.bool true)], args := [d1, d2] }
  | _ => none }
def fwinHitcountRow : OpenClaim := { program := "ytgdkafbcchkplaagreatdoor", sum := "f3ff23d5e4a321cae1d6dd95b2acf385a1195583044166c8b1900f9dadcafb6c", func := "graticule/graticulelaw21.FwinHitcount", spec := "fwinHitcount", inPlace := ["internal/abi.NoEscape", "internal/bytealg.MakeNoZero"], unfollowed := true, recurses := true, named := ["internal/strconv.uint64pow10", "math/bits.deBruijn32tab", "math/bits.deBruijn64tab", "math/bits.divideError", "math/bits.overflowError"], apart := false, laid := [("math/bits.deBruijn32tab", laid_math_bits_deBruijn32tab), ("math/bits.deBruijn64tab", laid_math_bits_deBruijn64tab), ("internal/strconv.uint64pow10", laid_internal_strconv_uint64pow10)] }
def FwinHitcountSaid : Prop := fwinHitcountRow.holds Tryz.pinned (OpenSpec.ofChange fwinHitcountSpec)

/-- ITS FALSE NEIGHBOUR: 'it returns false'. Refute it at one input. -/
def fwinHitcountWrong : ChangeSpec := { name := "fwinHitcount", fn := fun _ => fun
  | [d1, d2] => { results := [.lit (.bool false)], args := [d1, d2] }
  | _ => none }
def FwinHitcountWrongFalsely : Prop := fwinHitcountRow.holds Tryz.pinned (OpenSpec.ofChange fwinHitcountWrong)

/-- 'graticulelaw21.FwinOthers': WHATEVER THE INPUT: true; the input reads as it did. -/
def fwinOthersSpec : ChangeSpec := { name := "fwinOthers", fn := fun _ => fun
  | [d1, d2, d3, d4] => { results := [.lit (.bool true)], args := [d1, d2, d3, d4] }
  | _ => none }
def fwinOthersRow : OpenClaim := { program := "ytgdkafbcchkplaagreatdoor", sum := "f3ff23d5e4a321cae1d6dd95b2acf385a1195583044166c8b1900f9dadcafb6c", func := "graticule/graticulelaw21.FwinOthers", spec := "fwinOthers", inPlace := ["internal/abi.NoEscape", "internal/bytealg.MakeNoZero"], unfollowed := true, recurses := true, named := ["math/bits.divideError", "math/bits.overflowError", "internal/strconv.uint64pow10", "math/bits.deBruijn32tab", "math/bits.deBruijn64tab"], apart := false, laid := [("math/bits.deBruijn32tab", laid_math_bits_deBruijn32tab), ("math/bits.deBruijn64tab", laid_math_bits_deBruijn64tab), ("internal/strconv.uint64pow10", laid_internal_strconv_uint64pow10)] }
def FwinOthersSaid : Prop := fwinOthersRow.holds Tryz.pinned (OpenSpec.ofChange fwinOthersSpec)

/-- ITS FALSE NEIGHBOUR: 'it returns false'. Refute it at one input. -/
def fwinOthersWrong : ChangeSpec := { name := "fwinOthers", fn := fun _ => fun
  | [d1, d2, d3, d4] => { results := [.lit (.bool false)], args := [d1, d2, d3, d4] }
  | _ => none }
def FwinOthersWrongFalsely : Prop := fwinOthersRow.holds Tryz.pinned (OpenSpec.ofChange fwinOthersWrong)

/- THE SECOND FORM. 'bulk': how many values and letters a reading holds, each counted each time it is reached (what is shared counts as often as it is met; a slice's spare places count too). A statement '..UptoSaid' is the law's where the arguments, and the package variables that the reading takes, are together of bulk at most 1048576: NARROWER than '..Said'. Prove '..Said' where nothing that the law and all that it calls make is longer than what came in: it says more and counts as full. Else prove '..UptoSaid'. A law counts once. -/
mutual
def uptoBulk {H : Type} : DataW H → Nat
  | .lit (.string bytes) => bytes.length + 1
  | .lit _ => 1
  | .nil => 1
  | .ptr d => uptoBulk d + 1
  | .slice elems spare => uptoBulkAll elems + uptoBulkAll spare + 1
  | .agg parts => uptoBulkAll parts + 1
  | .iface _ d => uptoBulk d + 1
  | .map entries => uptoBulkEntries entries + 1
  | .held _ => 1
def uptoBulkAll {H : Type} : List (DataW H) → Nat
  | [] => 0
  | d :: r => uptoBulk d + uptoBulkAll r
def uptoBulkEntries {H : Type} : List (Lit × DataW H) → Nat
  | [] => 0
  | x :: r => uptoBulkEntry x + uptoBulkEntries r
def uptoBulkEntry {H : Type} : Lit × DataW H → Nat
  | (.string bytes, d) => bytes.length + uptoBulk d + 1
  | (_, d) => uptoBulk d + 1
 end
def uptoSmall : (H : Type) → List (DataW H) → Bool := fun _ ds => decide (uptoBulkAll ds ≤ 1048576)
def OpenSpec.upto (s : _root_.Go.ChangeSpec) : _root_.Go.OpenSpec := { _root_.Go.OpenSpec.ofChange s with cond := some uptoSmall }

/-- 'graticulelaw21.FwinMovingAverage', WHERE WHAT IT READS IS OF BULK AT MOST 1048576: true; the input reads as it did. -/
def fwinMovingAverageUptoRow : OpenClaim := { program := "ytgdkafbcchkplaagreatdoor", sum := "f3ff23d5e4a321cae1d6dd95b2acf385a1195583044166c8b1900f9dadcafb6c", func := "graticule/graticulelaw21.FwinMovingAverage", spec := "fwinMovingAverage", inPlace := ["internal/abi.NoEscape", "internal/bytealg.MakeNoZero"], unfollowed := true, recurses := true, named := ["math/bits.divideError", "math/bits.overflowError", "internal/strconv.uint64pow10", "math/bits.deBruijn32tab", "math/bits.deBruijn64tab"], apart := false, laid := [("math/bits.deBruijn32tab", laid_math_bits_deBruijn32tab), ("math/bits.deBruijn64tab", laid_math_bits_deBruijn64tab), ("internal/strconv.uint64pow10", laid_internal_strconv_uint64pow10)], narrowed := true }
def FwinMovingAverageUptoSaid : Prop := fwinMovingAverageUptoRow.holds Tryz.pinned (OpenSpec.upto fwinMovingAverageSpec)

/-- 'graticulelaw21.FwinMovingMax', WHERE WHAT IT READS IS OF BULK AT MOST 1048576: true; the input reads as it did. -/
def fwinMovingMaxUptoRow : OpenClaim := { program := "ytgdkafbcchkplaagreatdoor", sum := "f3ff23d5e4a321cae1d6dd95b2acf385a1195583044166c8b1900f9dadcafb6c", func := "graticule/graticulelaw21.FwinMovingMax", spec := "fwinMovingMax", inPlace := ["internal/abi.NoEscape", "internal/bytealg.MakeNoZero"], unfollowed := true, recurses := true, named := ["math/bits.divideError", "math/bits.overflowError", "internal/strconv.uint64pow10", "math/bits.deBruijn32tab", "math/bits.deBruijn64tab"], apart := false, laid := [("math/bits.deBruijn32tab", laid_math_bits_deBruijn32tab), ("math/bits.deBruijn64tab", laid_math_bits_deBruijn64tab), ("internal/strconv.uint64pow10", laid_internal_strconv_uint64pow10)], narrowed := true }
def FwinMovingMaxUptoSaid : Prop := fwinMovingMaxUptoRow.holds Tryz.pinned (OpenSpec.upto fwinMovingMaxSpec)

/-- 'graticulelaw21.FwinMovingMedian', WHERE WHAT IT READS IS OF BULK AT MOST 1048576: true; the input reads as it did. -/
def fwinMovingMedianUptoRow : OpenClaim := { program := "ytgdkafbcchkplaagreatdoor", sum := "f3ff23d5e4a321cae1d6dd95b2acf385a1195583044166c8b1900f9dadcafb6c", func := "graticule/graticulelaw21.FwinMovingMedian", spec := "fwinMovingMedian", inPlace := ["internal/abi.NoEscape", "internal/bytealg.MakeNoZero"], unfollowed := true, recurses := true, named := ["math/bits.divideError", "math/bits.overflowError", "internal/strconv.uint64pow10", "math/bits.deBruijn32tab", "math/bits.deBruijn64tab"], apart := false, laid := [("math/bits.deBruijn32tab", laid_math_bits_deBruijn32tab), ("math/bits.deBruijn64tab", laid_math_bits_deBruijn64tab), ("internal/strconv.uint64pow10", laid_internal_strconv_uint64pow10)], narrowed := true }
def FwinMovingMedianUptoSaid : Prop := fwinMovingMedianUptoRow.holds Tryz.pinned (OpenSpec.upto fwinMovingMedianSpec)

/-- 'graticulelaw21.FwinMovingMin', WHERE WHAT IT READS IS OF BULK AT MOST 1048576: true; the input reads as it did. -/
def fwinMovingMinUptoRow : OpenClaim := { program := "ytgdkafbcchkplaagreatdoor", sum := "f3ff23d5e4a321cae1d6dd95b2acf385a1195583044166c8b1900f9dadcafb6c", func := "graticule/graticulelaw21.FwinMovingMin", spec := "fwinMovingMin", inPlace := ["internal/abi.NoEscape", "internal/bytealg.MakeNoZero"], unfollowed := true, recurses := true, named := ["math/bits.divideError", "math/bits.overflowError", "internal/strconv.uint64pow10", "math/bits.deBruijn32tab", "math/bits.deBruijn64tab"], apart := false, laid := [("math/bits.deBruijn32tab", laid_math_bits_deBruijn32tab), ("math/bits.deBruijn64tab", laid_math_bits_deBruijn64tab), ("internal/strconv.uint64pow10", laid_internal_strconv_uint64pow10)], narrowed := true }
def FwinMovingMinUptoSaid : Prop := fwinMovingMinUptoRow.holds Tryz.pinned (OpenSpec.upto fwinMovingMinSpec)

/-- 'graticulelaw21.FwinMovingSum', WHERE WHAT IT READS IS OF BULK AT MOST 1048576: true; the input reads as it did. -/
def fwinMovingSumUptoRow : OpenClaim := { program := "ytgdkafbcchkplaagreatdoor", sum := "f3ff23d5e4a321cae1d6dd95b2acf385a1195583044166c8b1900f9dadcafb6c", func := "graticule/graticulelaw21.FwinMovingSum", spec := "fwinMovingSum", inPlace := ["internal/abi.NoEscape", "internal/bytealg.MakeNoZero"], unfollowed := true, recurses := true, named := ["math/bits.divideError", "math/bits.overflowError", "internal/strconv.uint64pow10", "math/bits.deBruijn32tab", "math/bits.deBruijn64tab"], apart := false, laid := [("math/bits.deBruijn32tab", laid_math_bits_deBruijn32tab), ("math/bits.deBruijn64tab", laid_math_bits_deBruijn64tab), ("internal/strconv.uint64pow10", laid_internal_strconv_uint64pow10)], narrowed := true }
def FwinMovingSumUptoSaid : Prop := fwinMovingSumUptoRow.holds Tryz.pinned (OpenSpec.upto fwinMovingSumSpec)

/-- 'graticulelaw21.FwinStdev', WHERE WHAT IT READS IS OF BULK AT MOST 1048576: true; the input reads as it did. -/
def fwinStdevUptoRow : OpenClaim := { program := "ytgdkafbcchkplaagreatdoor", sum := "f3ff23d5e4a321cae1d6dd95b2acf385a1195583044166c8b1900f9dadcafb6c", func := "graticule/graticulelaw21.FwinStdev", spec := "fwinStdev", inPlace := ["internal/abi.NoEscape", "internal/bytealg.MakeNoZero"], unfollowed := true, recurses := true, named := ["math/bits.divideError", "math/bits.overflowError", "internal/strconv.uint64pow10", "math/bits.deBruijn32tab", "math/bits.deBruijn64tab"], apart := false, laid := [("math/bits.deBruijn32tab", laid_math_bits_deBruijn32tab), ("math/bits.deBruijn64tab", laid_math_bits_deBruijn64tab), ("internal/strconv.uint64pow10", laid_internal_strconv_uint64pow10)], narrowed := true }
def FwinStdevUptoSaid : Prop := fwinStdevUptoRow.holds Tryz.pinned (OpenSpec.upto fwinStdevSpec)

/-- 'graticulelaw21.FwinMedian', WHERE WHAT IT READS IS OF BULK AT MOST 1048576: true; the input reads as it did. -/
def fwinMedianUptoRow : OpenClaim := { program := "ytgdkafbcchkplaagreatdoor", sum := "f3ff23d5e4a321cae1d6dd95b2acf385a1195583044166c8b1900f9dadcafb6c", func := "graticule/graticulelaw21.FwinMedian", spec := "fwinMedian", inPlace := ["internal/abi.NoEscape", "internal/bytealg.MakeNoZero"], unfollowed := true, recurses := true, named := ["math/bits.divideError", "math/bits.overflowError", "internal/strconv.uint64pow10", "math/bits.deBruijn32tab", "math/bits.deBruijn64tab"], apart := false, laid := [("math/bits.deBruijn32tab", laid_math_bits_deBruijn32tab), ("math/bits.deBruijn64tab", laid_math_bits_deBruijn64tab), ("internal/strconv.uint64pow10", laid_internal_strconv_uint64pow10)], narrowed := true }
def FwinMedianUptoSaid : Prop := fwinMedianUptoRow.holds Tryz.pinned (OpenSpec.upto fwinMedianSpec)

/-- 'graticulelaw21.FwinSummarize', WHERE WHAT IT READS IS OF BULK AT MOST 1048576: true; the input reads as it did. -/
def fwinSummarizeUptoRow : OpenClaim := { program := "ytgdkafbcchkplaagreatdoor", sum := "f3ff23d5e4a321cae1d6dd95b2acf385a1195583044166c8b1900f9dadcafb6c", func := "graticule/graticulelaw21.FwinSummarize", spec := "fwinSummarize", inPlace := ["internal/abi.NoEscape", "internal/bytealg.MakeNoZero"], unfollowed := true, recurses := true, named := ["internal/strconv.uint64pow10", "math/bits.deBruijn32tab", "math/bits.deBruijn64tab", "math/bits.divideError", "math/bits.overflowError"], apart := false, laid := [("math/bits.deBruijn32tab", laid_math_bits_deBruijn32tab), ("math/bits.deBruijn64tab", laid_math_bits_deBruijn64tab), ("internal/strconv.uint64pow10", laid_internal_strconv_uint64pow10)], narrowed := true }
def FwinSummarizeUptoSaid : Prop := fwinSummarizeUptoRow.holds Tryz.pinned (OpenSpec.upto fwinSummarizeSpec)

/-- 'graticulelaw21.FwinHitcount', WHERE WHAT IT READS IS OF BULK AT MOST 1048576: true; the input reads as it did. -/
def fwinHitcountUptoRow : OpenClaim := { program := "ytgdkafbcchkplaagreatdoor", sum := "f3ff23d5e4a321cae1d6dd95b2acf385a1195583044166c8b1900f9dadcafb6c", func := "graticule/graticulelaw21.FwinHitcount", spec := "fwinHitcount", inPlace := ["internal/abi.NoEscape", "internal/bytealg.MakeNoZero"], unfollowed := true, recurses := true, named := ["internal/strconv.uint64pow10", "math/bits.deBruijn32tab", "math/bits.deBruijn64tab", "math/bits.divideError", "math/bits.overflowError"], apart := false, laid := [("math/bits.deBruijn32tab", laid_math_bits_deBruijn32tab), ("math/bits.deBruijn64tab", laid_math_bits_deBruijn64tab), ("internal/strconv.uint64pow10", laid_internal_strconv_uint64pow10)], narrowed := true }
def FwinHitcountUptoSaid : Prop := fwinHitcountUptoRow.holds Tryz.pinned (OpenSpec.upto fwinHitcountSpec)

/-- 'graticulelaw21.FwinOthers', WHERE WHAT IT READS IS OF BULK AT MOST 1048576: true; the input reads as it did. -/
def fwinOthersUptoRow : OpenClaim := { program := "ytgdkafbcchkplaagreatdoor", sum := "f3ff23d5e4a321cae1d6dd95b2acf385a1195583044166c8b1900f9dadcafb6c", func := "graticule/graticulelaw21.FwinOthers", spec := "fwinOthers", inPlace := ["internal/abi.NoEscape", "internal/bytealg.MakeNoZero"], unfollowed := true, recurses := true, named := ["math/bits.divideError", "math/bits.overflowError", "internal/strconv.uint64pow10", "math/bits.deBruijn32tab", "math/bits.deBruijn64tab"], apart := false, laid := [("math/bits.deBruijn32tab", laid_math_bits_deBruijn32tab), ("math/bits.deBruijn64tab", laid_math_bits_deBruijn64tab), ("internal/strconv.uint64pow10", laid_internal_strconv_uint64pow10)], narrowed := true }
def FwinOthersUptoSaid : Prop := fwinOthersUptoRow.holds Tryz.pinned (OpenSpec.upto fwinOthersSpec)

end Rows
end Go.Proofs.YtgdkafbcchkplaaGreatDoor
