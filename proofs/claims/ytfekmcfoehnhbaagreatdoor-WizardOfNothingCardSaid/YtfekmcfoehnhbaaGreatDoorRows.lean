/-
  NARROWER THAN 'FOR EVERY INPUT', by the rows' own cells (each row's printed sentence says how): RecalcReach: laid · RecalcTurns: laid · WizardMeans: laid · WizardPages: laid · WizardPlays: laid · WizardOfNothing: laid.
  DERIVED. THE GIVEN ROWS OF THIS SEAT. 6 by the template 'for every input the law returns true; each argument reads behind the call as it read before'; 0 by the template 'total and deterministic' (their statements: YtfekmcfoehnhbaaGreatDoorTotals.lean).
  GIVEN WITH THE SEED: the statements are not yours to turn. If you find one false, say at which input.
  Laid BY PROGRAM, IN A SANDBOX (cutbox-rows.mjs): the forced cells as the released guide's own fill.sh prints them over the translation 4ee678675a29b822… (all of the seat's roots in one cut). By AI agents, Wed Nov 11 2026. No macro, syntax, notation, axiom, sorry.
-/
import Derived.Test.YtfekmcfoehnhbaaGreatDoorChecked
import GoSem.Claim
import GoSem.ClaimJoined
import GoSem.ClaimMapViews
import Derived.JoinedTies
import Derived.KernelRfl
namespace Go.Proofs.YtfekmcfoehnhbaaGreatDoor
/- THE CELL 'sum', in the pinned program and in every row, IS THE sha256 OF THE DUMP (.gsa) THAT YtfekmcfoehnhbaaGreatDoorProg.lean LOADS. Nothing in Lean hashes anything: it is a label: what it is worth is what the hold of that sum in a sandbox is worth. -/
noncomputable def Tryz.pinned : Pinned := { name := "ytfekmcfoehnhbaagreatdoor", sum := "4ee678675a29b8223beba5668d04078ca93621cc06ce6e03daf5cdba4cac71f9", checked := Tryz.checked }
namespace Rows
def none {H : Type} : Left H := { results := [], args := [] }

/- WHAT THE LISTED PACKAGE-LEVEL VARIABLES READ AS WHEN THE CALL BEGINS. Each datum BY PROGRAM (the guide's laid-datum.mjs) off the statement by which the dump's own 'gosem.cut.vars' lays the variable. In a bare row this is a premise. The card (YtfekmcfoehnhbaaGreatDoorCards.lean) ties it to the program's text. -/
def laid_math_bits_deBruijn32tab {H : Type} : DataW H := .agg [.lit (.int .u8 0), .lit (.int .u8 1), .lit (.int .u8 28), .lit (.int .u8 2), .lit (.int .u8 29), .lit (.int .u8 14), .lit (.int .u8 24), .lit (.int .u8 3), .lit (.int .u8 30), .lit (.int .u8 22), .lit (.int .u8 20), .lit (.int .u8 15), .lit (.int .u8 25), .lit (.int .u8 17), .lit (.int .u8 4), .lit (.int .u8 8), .lit (.int .u8 31), .lit (.int .u8 27), .lit (.int .u8 13), .lit (.int .u8 23), .lit (.int .u8 21), .lit (.int .u8 19), .lit (.int .u8 16), .lit (.int .u8 7), .lit (.int .u8 26), .lit (.int .u8 12), .lit (.int .u8 18), .lit (.int .u8 6), .lit (.int .u8 11), .lit (.int .u8 5), .lit (.int .u8 10), .lit (.int .u8 9)]
def laid_math_bits_deBruijn64tab {H : Type} : DataW H := .agg [.lit (.int .u8 0), .lit (.int .u8 1), .lit (.int .u8 56), .lit (.int .u8 2), .lit (.int .u8 57), .lit (.int .u8 49), .lit (.int .u8 28), .lit (.int .u8 3), .lit (.int .u8 61), .lit (.int .u8 58), .lit (.int .u8 42), .lit (.int .u8 50), .lit (.int .u8 38), .lit (.int .u8 29), .lit (.int .u8 17), .lit (.int .u8 4), .lit (.int .u8 62), .lit (.int .u8 47), .lit (.int .u8 59), .lit (.int .u8 36), .lit (.int .u8 45), .lit (.int .u8 43), .lit (.int .u8 51), .lit (.int .u8 22), .lit (.int .u8 53), .lit (.int .u8 39), .lit (.int .u8 33), .lit (.int .u8 30), .lit (.int .u8 24), .lit (.int .u8 18), .lit (.int .u8 12), .lit (.int .u8 5), .lit (.int .u8 63), .lit (.int .u8 55), .lit (.int .u8 48), .lit (.int .u8 27), .lit (.int .u8 60), .lit (.int .u8 41), .lit (.int .u8 37), .lit (.int .u8 16), .lit (.int .u8 46), .lit (.int .u8 35), .lit (.int .u8 44), .lit (.int .u8 21), .lit (.int .u8 52), .lit (.int .u8 32), .lit (.int .u8 23), .lit (.int .u8 11), .lit (.int .u8 54), .lit (.int .u8 26), .lit (.int .u8 40), .lit (.int .u8 15), .lit (.int .u8 34), .lit (.int .u8 20), .lit (.int .u8 31), .lit (.int .u8 10), .lit (.int .u8 25), .lit (.int .u8 14), .lit (.int .u8 19), .lit (.int .u8 9), .lit (.int .u8 13), .lit (.int .u8 8), .lit (.int .u8 7), .lit (.int .u8 6)]
def laid_internal_strconv_uint64pow10 {H : Type} : DataW H := .agg [.lit (.int .u64 1), .lit (.int .u64 10), .lit (.int .u64 100), .lit (.int .u64 1000), .lit (.int .u64 10000), .lit (.int .u64 100000), .lit (.int .u64 1000000), .lit (.int .u64 10000000), .lit (.int .u64 100000000), .lit (.int .u64 1000000000), .lit (.int .u64 10000000000), .lit (.int .u64 100000000000), .lit (.int .u64 1000000000000), .lit (.int .u64 10000000000000), .lit (.int .u64 100000000000000), .lit (.int .u64 1000000000000000), .lit (.int .u64 10000000000000000), .lit (.int .u64 100000000000000000), .lit (.int .u64 1000000000000000000), .lit (.int .u64 10000000000000000000)]
def laid_strconv_ErrRange {H : Type} : DataW H := .iface "*errors.errorString" (.ptr (.agg [.lit (.string [118, 97, 108, 117, 101, 32, 111, 117, 116, 32, 111, 102, 32, 114, 97, 110, 103, 101])]))
def laid_strconv_ErrSyntax {H : Type} : DataW H := .iface "*errors.errorString" (.ptr (.agg [.lit (.string [105, 110, 118, 97, 108, 105, 100, 32, 115, 121, 110, 116, 97, 120])]))

/-- 'formularylaw12.RecalcReach': WHATEVER THE INPUT: true; the input reads as it did. -/
def recalcReachSpec : ChangeSpec := { name := "recalcReach", fn := fun _ => fun
  | [d1, d2] => { results := [.lit (.bool true)], args := [d1, d2] }
  | _ => none }
def recalcReachRow : OpenClaim := { program := "ytfekmcfoehnhbaagreatdoor", sum := "4ee678675a29b8223beba5668d04078ca93621cc06ce6e03daf5cdba4cac71f9", func := "formulary/formularylaw12.RecalcReach", spec := "recalcReach", inPlace := ["math.Float64frombits", "math.Float64bits", "internal/bytealg.IndexByteString", "internal/bytealg.IndexString", "math.archTrunc", "internal/abi.NoEscape", "internal/bytealg.MakeNoZero", "math.archFloor"], unfollowed := true, recurses := true, named := ["strconv.ErrSyntax", "strconv.ErrRange", "internal/strconv.uint64pow10", "math/bits.deBruijn32tab", "math/bits.deBruijn64tab", "internal/bytealg.MaxLen"], apart := false, laid := [("math/bits.deBruijn32tab", laid_math_bits_deBruijn32tab), ("math/bits.deBruijn64tab", laid_math_bits_deBruijn64tab), ("internal/strconv.uint64pow10", laid_internal_strconv_uint64pow10), ("strconv.ErrRange", laid_strconv_ErrRange), ("strconv.ErrSyntax", laid_strconv_ErrSyntax)] }
def RecalcReachSaid : Prop := recalcReachRow.holds Tryz.pinned (OpenSpec.ofChange recalcReachSpec)

/-- ITS FALSE NEIGHBOUR: 'it returns false'. Refute it at one input. -/
def recalcReachWrong : ChangeSpec := { name := "recalcReach", fn := fun _ => fun
  | [d1, d2] => { results := [.lit (.bool false)], args := [d1, d2] }
  | _ => none }
def RecalcReachWrongFalsely : Prop := recalcReachRow.holds Tryz.pinned (OpenSpec.ofChange recalcReachWrong)

/-- 'formularylaw12.RecalcTurns': WHATEVER THE INPUT: true; the input reads as it did. -/
def recalcTurnsSpec : ChangeSpec := { name := "recalcTurns", fn := fun _ => fun
  | [d1, d2] => { results := [.lit (.bool true)], args := [d1, d2] }
  | _ => none }
def recalcTurnsRow : OpenClaim := { program := "ytfekmcfoehnhbaagreatdoor", sum := "4ee678675a29b8223beba5668d04078ca93621cc06ce6e03daf5cdba4cac71f9", func := "formulary/formularylaw12.RecalcTurns", spec := "recalcTurns", inPlace := ["math.Float64frombits", "math.Float64bits", "internal/bytealg.IndexByteString", "internal/bytealg.IndexString", "math.archTrunc", "internal/abi.NoEscape", "internal/bytealg.MakeNoZero", "math.archFloor"], unfollowed := true, recurses := true, named := ["strconv.ErrSyntax", "strconv.ErrRange", "internal/strconv.uint64pow10", "math/bits.deBruijn32tab", "math/bits.deBruijn64tab", "internal/bytealg.MaxLen"], apart := false, laid := [("math/bits.deBruijn32tab", laid_math_bits_deBruijn32tab), ("math/bits.deBruijn64tab", laid_math_bits_deBruijn64tab), ("internal/strconv.uint64pow10", laid_internal_strconv_uint64pow10), ("strconv.ErrRange", laid_strconv_ErrRange), ("strconv.ErrSyntax", laid_strconv_ErrSyntax)] }
def RecalcTurnsSaid : Prop := recalcTurnsRow.holds Tryz.pinned (OpenSpec.ofChange recalcTurnsSpec)

/-- ITS FALSE NEIGHBOUR: 'it returns false'. Refute it at one input. -/
def recalcTurnsWrong : ChangeSpec := { name := "recalcTurns", fn := fun _ => fun
  | [d1, d2] => { results := [.lit (.bool false)], args := [d1, d2] }
  | _ => none }
def RecalcTurnsWrongFalsely : Prop := recalcTurnsRow.holds Tryz.pinned (OpenSpec.ofChange recalcTurnsWrong)

/-- 'formularylaw13.WizardMeans': WHATEVER THE INPUT: true; the input reads as it did. -/
def wizardMeansSpec : ChangeSpec := { name := "wizardMeans", fn := fun _ => fun
  | [d1, d2] => { results := [.lit (.bool true)], args := [d1, d2] }
  | _ => none }
def wizardMeansRow : OpenClaim := { program := "ytfekmcfoehnhbaagreatdoor", sum := "4ee678675a29b8223beba5668d04078ca93621cc06ce6e03daf5cdba4cac71f9", func := "formulary/formularylaw13.WizardMeans", spec := "wizardMeans", inPlace := ["math.Float64frombits", "math.Float64bits", "internal/bytealg.IndexByteString", "internal/bytealg.IndexString", "math.archTrunc", "internal/abi.NoEscape", "internal/bytealg.MakeNoZero", "math.archFloor", "slices.overlaps[formulary/api.Payload]"], unfollowed := true, recurses := true, named := ["strconv.ErrSyntax", "strconv.ErrRange", "internal/strconv.uint64pow10", "math/bits.deBruijn32tab", "math/bits.deBruijn64tab", "internal/bytealg.MaxLen"], apart := false, laid := [("math/bits.deBruijn32tab", laid_math_bits_deBruijn32tab), ("math/bits.deBruijn64tab", laid_math_bits_deBruijn64tab), ("internal/strconv.uint64pow10", laid_internal_strconv_uint64pow10), ("strconv.ErrRange", laid_strconv_ErrRange), ("strconv.ErrSyntax", laid_strconv_ErrSyntax)] }
def WizardMeansSaid : Prop := wizardMeansRow.holds Tryz.pinned (OpenSpec.ofChange wizardMeansSpec)

/-- ITS FALSE NEIGHBOUR: 'it returns false'. Refute it at one input. -/
def wizardMeansWrong : ChangeSpec := { name := "wizardMeans", fn := fun _ => fun
  | [d1, d2] => { results := [.lit (.bool false)], args := [d1, d2] }
  | _ => none }
def WizardMeansWrongFalsely : Prop := wizardMeansRow.holds Tryz.pinned (OpenSpec.ofChange wizardMeansWrong)

/-- 'formularylaw13.WizardPages': WHATEVER THE INPUT: true; the input reads as it did. -/
def wizardPagesSpec : ChangeSpec := { name := "wizardPages", fn := fun _ => fun
  | [d1, d2] => { results := [.lit (.bool true)], args := [d1, d2] }
  | _ => none }
def wizardPagesRow : OpenClaim := { program := "ytfekmcfoehnhbaagreatdoor", sum := "4ee678675a29b8223beba5668d04078ca93621cc06ce6e03daf5cdba4cac71f9", func := "formulary/formularylaw13.WizardPages", spec := "wizardPages", inPlace := ["math.Float64frombits", "math.Float64bits", "internal/bytealg.IndexByteString", "internal/bytealg.IndexString", "math.archTrunc", "internal/abi.NoEscape", "internal/bytealg.MakeNoZero", "math.archFloor", "slices.overlaps[formulary/api.Payload]"], unfollowed := true, recurses := true, named := ["strconv.ErrSyntax", "strconv.ErrRange", "internal/strconv.uint64pow10", "math/bits.deBruijn32tab", "math/bits.deBruijn64tab", "internal/bytealg.MaxLen"], apart := false, laid := [("math/bits.deBruijn32tab", laid_math_bits_deBruijn32tab), ("math/bits.deBruijn64tab", laid_math_bits_deBruijn64tab), ("internal/strconv.uint64pow10", laid_internal_strconv_uint64pow10), ("strconv.ErrRange", laid_strconv_ErrRange), ("strconv.ErrSyntax", laid_strconv_ErrSyntax)] }
def WizardPagesSaid : Prop := wizardPagesRow.holds Tryz.pinned (OpenSpec.ofChange wizardPagesSpec)

/-- ITS FALSE NEIGHBOUR: 'it returns false'. Refute it at one input. -/
def wizardPagesWrong : ChangeSpec := { name := "wizardPages", fn := fun _ => fun
  | [d1, d2] => { results := [.lit (.bool false)], args := [d1, d2] }
  | _ => none }
def WizardPagesWrongFalsely : Prop := wizardPagesRow.holds Tryz.pinned (OpenSpec.ofChange wizardPagesWrong)

/-- 'formularylaw13.WizardPlays': WHATEVER THE INPUT: true; the input reads as it did. -/
def wizardPlaysSpec : ChangeSpec := { name := "wizardPlays", fn := fun _ => fun
  | [d1, d2] => { results := [.lit (.bool true)], args := [d1, d2] }
  | _ => none }
def wizardPlaysRow : OpenClaim := { program := "ytfekmcfoehnhbaagreatdoor", sum := "4ee678675a29b8223beba5668d04078ca93621cc06ce6e03daf5cdba4cac71f9", func := "formulary/formularylaw13.WizardPlays", spec := "wizardPlays", inPlace := ["math.Float64frombits", "math.Float64bits", "internal/bytealg.IndexByteString", "internal/bytealg.IndexString", "math.archTrunc", "internal/abi.NoEscape", "internal/bytealg.MakeNoZero", "math.archFloor", "slices.overlaps[formulary/api.Payload]"], unfollowed := true, recurses := true, named := ["strconv.ErrSyntax", "strconv.ErrRange", "internal/strconv.uint64pow10", "math/bits.deBruijn32tab", "math/bits.deBruijn64tab", "internal/bytealg.MaxLen"], apart := false, laid := [("math/bits.deBruijn32tab", laid_math_bits_deBruijn32tab), ("math/bits.deBruijn64tab", laid_math_bits_deBruijn64tab), ("internal/strconv.uint64pow10", laid_internal_strconv_uint64pow10), ("strconv.ErrRange", laid_strconv_ErrRange), ("strconv.ErrSyntax", laid_strconv_ErrSyntax)] }
def WizardPlaysSaid : Prop := wizardPlaysRow.holds Tryz.pinned (OpenSpec.ofChange wizardPlaysSpec)

/-- ITS FALSE NEIGHBOUR: 'it returns false'. Refute it at one input. -/
def wizardPlaysWrong : ChangeSpec := { name := "wizardPlays", fn := fun _ => fun
  | [d1, d2] => { results := [.lit (.bool false)], args := [d1, d2] }
  | _ => none }
def WizardPlaysWrongFalsely : Prop := wizardPlaysRow.holds Tryz.pinned (OpenSpec.ofChange wizardPlaysWrong)

/-- 'formularylaw13.WizardOfNothing': WHATEVER THE INPUT: true; the input reads as it did. -/
def wizardOfNothingSpec : ChangeSpec := { name := "wizardOfNothing", fn := fun _ => fun
  | [d] => { results := [.lit (.bool true)], args := [d] }
  | _ => none }
def wizardOfNothingRow : OpenClaim := { program := "ytfekmcfoehnhbaagreatdoor", sum := "4ee678675a29b8223beba5668d04078ca93621cc06ce6e03daf5cdba4cac71f9", func := "formulary/formularylaw13.WizardOfNothing", spec := "wizardOfNothing", inPlace := ["math.Float64frombits", "math.Float64bits", "math.archTrunc", "internal/abi.NoEscape", "internal/bytealg.MakeNoZero", "internal/bytealg.IndexByteString", "internal/bytealg.IndexString", "math.archFloor", "slices.overlaps[formulary/api.Payload]"], unfollowed := true, recurses := true, named := ["internal/strconv.uint64pow10", "math/bits.deBruijn32tab", "math/bits.deBruijn64tab", "strconv.ErrSyntax", "strconv.ErrRange", "internal/bytealg.MaxLen"], apart := false, laid := [("math/bits.deBruijn32tab", laid_math_bits_deBruijn32tab), ("math/bits.deBruijn64tab", laid_math_bits_deBruijn64tab), ("internal/strconv.uint64pow10", laid_internal_strconv_uint64pow10), ("strconv.ErrRange", laid_strconv_ErrRange), ("strconv.ErrSyntax", laid_strconv_ErrSyntax)] }
def WizardOfNothingSaid : Prop := wizardOfNothingRow.holds Tryz.pinned (OpenSpec.ofChange wizardOfNothingSpec)

/-- ITS FALSE NEIGHBOUR: 'it returns false'. Refute it at one input. -/
def wizardOfNothingWrong : ChangeSpec := { name := "wizardOfNothing", fn := fun _ => fun
  | [d] => { results := [.lit (.bool false)], args := [d] }
  | _ => none }
def WizardOfNothingWrongFalsely : Prop := wizardOfNothingRow.holds Tryz.pinned (OpenSpec.ofChange wizardOfNothingWrong)

/- THE SECOND FORM. 'bulk': how many values and letters a reading holds, each counted each time it is reached (what is shared counts as often as it is met; a slice's spare places count too). A statement '..UptoSaid' is the law's where the arguments, and the package variables that the reading takes, are together of bulk at most 1048576: NARROWER than '..Said'. Prove '..Said' where nothing that the law and all that it calls make is longer than what came in: it says more and counts as full. Else prove '..UptoSaid'. A law counts once. -/
mutual
def uptoBulk {H : Type} : DataW H → Nat
  | .lit (.string bytes) => bytes.length + 1
  | .lit _ => 1
  | .nil => 1
  | .ptr d => uptoBulk d + 1
  | .slice elems spare => uptoBulkAll elems + uptoBulkAll spare + 1
  | .agg parts => uptoBulkAll parts + 1
  | .iface _ d => uptoBulk d + 1
  | .map entries => uptoBulkEntries entries + 1
  | .held _ => 1
def uptoBulkAll {H : Type} : List (DataW H) → Nat
  | [] => 0
  | d :: r => uptoBulk d + uptoBulkAll r
def uptoBulkEntries {H : Type} : List (Lit × DataW H) → Nat
  | [] => 0
  | x :: r => uptoBulkEntry x + uptoBulkEntries r
def uptoBulkEntry {H : Type} : Lit × DataW H → Nat
  | (.string bytes, d) => bytes.length + uptoBulk d + 1
  | (_, d) => uptoBulk d + 1
 end
def uptoSmall : (H : Type) → List (DataW H) → Bool := fun _ ds => decide (uptoBulkAll ds ≤ 1048576)
def OpenSpec.upto (s : _root_.Go.ChangeSpec) : _root_.Go.OpenSpec := { _root_.Go.OpenSpec.ofChange s with cond := some uptoSmall }

/-- 'formularylaw12.RecalcReach', WHERE WHAT IT READS IS OF BULK AT MOST 1048576: true; the input reads as it did. -/
def recalcReachUptoRow : OpenClaim := { program := "ytfekmcfoehnhbaagreatdoor", sum := "4ee678675a29b8223beba5668d04078ca93621cc06ce6e03daf5cdba4cac71f9", func := "formulary/formularylaw12.RecalcReach", spec := "recalcReach", inPlace := ["math.Float64frombits", "math.Float64bits", "internal/bytealg.IndexByteString", "internal/bytealg.IndexString", "math.archTrunc", "internal/abi.NoEscape", "internal/bytealg.MakeNoZero", "math.archFloor"], unfollowed := true, recurses := true, named := ["strconv.ErrSyntax", "strconv.ErrRange", "internal/strconv.uint64pow10", "math/bits.deBruijn32tab", "math/bits.deBruijn64tab", "internal/bytealg.MaxLen"], apart := false, laid := [("math/bits.deBruijn32tab", laid_math_bits_deBruijn32tab), ("math/bits.deBruijn64tab", laid_math_bits_deBruijn64tab), ("internal/strconv.uint64pow10", laid_internal_strconv_uint64pow10), ("strconv.ErrRange", laid_strconv_ErrRange), ("strconv.ErrSyntax", laid_strconv_ErrSyntax)], narrowed := true }
def RecalcReachUptoSaid : Prop := recalcReachUptoRow.holds Tryz.pinned (OpenSpec.upto recalcReachSpec)

/-- 'formularylaw12.RecalcTurns', WHERE WHAT IT READS IS OF BULK AT MOST 1048576: true; the input reads as it did. -/
def recalcTurnsUptoRow : OpenClaim := { program := "ytfekmcfoehnhbaagreatdoor", sum := "4ee678675a29b8223beba5668d04078ca93621cc06ce6e03daf5cdba4cac71f9", func := "formulary/formularylaw12.RecalcTurns", spec := "recalcTurns", inPlace := ["math.Float64frombits", "math.Float64bits", "internal/bytealg.IndexByteString", "internal/bytealg.IndexString", "math.archTrunc", "internal/abi.NoEscape", "internal/bytealg.MakeNoZero", "math.archFloor"], unfollowed := true, recurses := true, named := ["strconv.ErrSyntax", "strconv.ErrRange", "internal/strconv.uint64pow10", "math/bits.deBruijn32tab", "math/bits.deBruijn64tab", "internal/bytealg.MaxLen"], apart := false, laid := [("math/bits.deBruijn32tab", laid_math_bits_deBruijn32tab), ("math/bits.deBruijn64tab", laid_math_bits_deBruijn64tab), ("internal/strconv.uint64pow10", laid_internal_strconv_uint64pow10), ("strconv.ErrRange", laid_strconv_ErrRange), ("strconv.ErrSyntax", laid_strconv_ErrSyntax)], narrowed := true }
def RecalcTurnsUptoSaid : Prop := recalcTurnsUptoRow.holds Tryz.pinned (OpenSpec.upto recalcTurnsSpec)

/-- 'formularylaw13.WizardMeans', WHERE WHAT IT READS IS OF BULK AT MOST 1048576: true; the input reads as it did. -/
def wizardMeansUptoRow : OpenClaim := { program := "ytfekmcfoehnhbaagreatdoor", sum := "4ee678675a29b8223beba5668d04078ca93621cc06ce6e03daf5cdba4cac71f9", func := "formulary/formularylaw13.WizardMeans", spec := "wizardMeans", inPlace := ["math.Float64frombits", "math.Float64bits", "internal/bytealg.IndexByteString", "internal/bytealg.IndexString", "math.archTrunc", "internal/abi.NoEscape", "internal/bytealg.MakeNoZero", "math.archFloor", "slices.overlaps[formulary/api.Payload]"], unfollowed := true, recurses := true, named := ["strconv.ErrSyntax", "strconv.ErrRange", "internal/strconv.uint64pow10", "math/bits.deBruijn32tab", "math/bits.deBruijn64tab", "internal/bytealg.MaxLen"], apart := false, laid := [("math/bits.deBruijn32tab", laid_math_bits_deBruijn32tab), ("math/bits.deBruijn64tab", laid_math_bits_deBruijn64tab), ("internal/strconv.uint64pow10", laid_internal_strconv_uint64pow10), ("strconv.ErrRange", laid_strconv_ErrRange), ("strconv.ErrSyntax", laid_strconv_ErrSyntax)], narrowed := true }
def WizardMeansUptoSaid : Prop := wizardMeansUptoRow.holds Tryz.pinned (OpenSpec.upto wizardMeansSpec)

/-- 'formularylaw13.WizardPages', WHERE WHAT IT READS IS OF BULK AT MOST 1048576: true; the input reads as it did. -/
def wizardPagesUptoRow : OpenClaim := { program := "ytfekmcfoehnhbaagreatdoor", sum := "4ee678675a29b8223beba5668d04078ca93621cc06ce6e03daf5cdba4cac71f9", func := "formulary/formularylaw13.WizardPages", spec := "wizardPages", inPlace := ["math.Float64frombits", "math.Float64bits", "internal/bytealg.IndexByteString", "internal/bytealg.IndexString", "math.archTrunc", "internal/abi.NoEscape", "internal/bytealg.MakeNoZero", "math.archFloor", "slices.overlaps[formulary/api.Payload]"], unfollowed := true, recurses := true, named := ["strconv.ErrSyntax", "strconv.ErrRange", "internal/strconv.uint64pow10", "math/bits.deBruijn32tab", "math/bits.deBruijn64tab", "internal/bytealg.MaxLen"], apart := false, laid := [("math/bits.deBruijn32tab", laid_math_bits_deBruijn32tab), ("math/bits.deBruijn64tab", laid_math_bits_deBruijn64tab), ("internal/strconv.uint64pow10", laid_internal_strconv_uint64pow10), ("strconv.ErrRange", laid_strconv_ErrRange), ("strconv.ErrSyntax", laid_strconv_ErrSyntax)], narrowed := true }
def WizardPagesUptoSaid : Prop := wizardPagesUptoRow.holds Tryz.pinned (OpenSpec.upto wizardPagesSpec)

/-- 'formularylaw13.WizardPlays', WHERE WHAT IT READS IS OF BULK AT MOST 1048576: true; the input reads as it did. -/
def wizardPlaysUptoRow : OpenClaim := { program := "ytfekmcfoehnhbaagreatdoor", sum := "4ee678675a29b8223beba5668d04078ca93621cc06ce6e03daf5cdba4cac71f9", func := "formulary/formularylaw13.WizardPlays", spec := "wizardPlays", inPlace := ["math.Float64frombits", "math.Float64bits", "internal/bytealg.IndexByteString", "internal/bytealg.IndexString", "math.archTrunc", "internal/abi.NoEscape", "internal/bytealg.MakeNoZero", "math.archFloor", "slices.overlaps[formulary/api.Payload]"], unfollowed := true, recurses := true, named := ["strconv.ErrSyntax", "strconv.ErrRange", "internal/strconv.uint64pow10", "math/bits.deBruijn32tab", "math/bits.deBruijn64tab", "internal/bytealg.MaxLen"], apart := false, laid := [("math/bits.deBruijn32tab", laid_math_bits_deBruijn32tab), ("math/bits.deBruijn64tab", laid_math_bits_deBruijn64tab), ("internal/strconv.uint64pow10", laid_internal_strconv_uint64pow10), ("strconv.ErrRange", laid_strconv_ErrRange), ("strconv.ErrSyntax", laid_strconv_ErrSyntax)], narrowed := true }
def WizardPlaysUptoSaid : Prop := wizardPlaysUptoRow.holds Tryz.pinned (OpenSpec.upto wizardPlaysSpec)

/-- 'formularylaw13.WizardOfNothing', WHERE WHAT IT READS IS OF BULK AT MOST 1048576: true; the input reads as it did. -/
def wizardOfNothingUptoRow : OpenClaim := { program := "ytfekmcfoehnhbaagreatdoor", sum := "4ee678675a29b8223beba5668d04078ca93621cc06ce6e03daf5cdba4cac71f9", func := "formulary/formularylaw13.WizardOfNothing", spec := "wizardOfNothing", inPlace := ["math.Float64frombits", "math.Float64bits", "math.archTrunc", "internal/abi.NoEscape", "internal/bytealg.MakeNoZero", "internal/bytealg.IndexByteString", "internal/bytealg.IndexString", "math.archFloor", "slices.overlaps[formulary/api.Payload]"], unfollowed := true, recurses := true, named := ["internal/strconv.uint64pow10", "math/bits.deBruijn32tab", "math/bits.deBruijn64tab", "strconv.ErrSyntax", "strconv.ErrRange", "internal/bytealg.MaxLen"], apart := false, laid := [("math/bits.deBruijn32tab", laid_math_bits_deBruijn32tab), ("math/bits.deBruijn64tab", laid_math_bits_deBruijn64tab), ("internal/strconv.uint64pow10", laid_internal_strconv_uint64pow10), ("strconv.ErrRange", laid_strconv_ErrRange), ("strconv.ErrSyntax", laid_strconv_ErrSyntax)], narrowed := true }
def WizardOfNothingUptoSaid : Prop := wizardOfNothingUptoRow.holds Tryz.pinned (OpenSpec.upto wizardOfNothingSpec)

end Rows
end Go.Proofs.YtfekmcfoehnhbaaGreatDoor
