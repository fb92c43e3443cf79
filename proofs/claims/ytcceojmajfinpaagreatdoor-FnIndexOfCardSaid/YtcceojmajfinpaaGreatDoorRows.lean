/-
  NARROWER THAN 'FOR EVERY INPUT', by the rows' own cells (each row's printed sentence says how): FnExactAskSum: laid · FnAskFind: laid · FnAskMore: laid · FnAskCols: laid · FnAskIds: laid · FnExactAskIds: laid · FnExactAskCols: laid · FnIndexRow: laid · FnIndexKeep: laid · FnExactIndexOf: laid · FnIndexOf: laid · FnExactAskOrder: laid.
  DERIVED. THE GIVEN ROWS OF THIS SEAT. 12 by the template 'for every input the law returns true; each argument reads behind the call as it read before'; 0 by the template 'total and deterministic' (their statements: YtcceojmajfinpaaGreatDoorTotals.lean).
  GIVEN WITH THE SEED: the statements are not yours to turn. If you find one false, say at which input.
  Laid BY PROGRAM, IN A SANDBOX (cutbox-rows.mjs): the forced cells as the released guide's own fill.sh prints them over the translation d7b41b46e8ff8f91… (all of the seat's roots in one cut). By AI agents, Wed Nov 11 2026. No macro, syntax, notation, axiom, sorry.
-/
import Derived.Test.YtcceojmajfinpaaGreatDoorChecked
import GoSem.Claim
import GoSem.ClaimJoined
import GoSem.ClaimMapViews
import Derived.JoinedTies
import Derived.KernelRfl
namespace Go.Proofs.YtcceojmajfinpaaGreatDoor
/- THE CELL 'sum', in the pinned program and in every row, IS THE sha256 OF THE DUMP (.gsa) THAT YtcceojmajfinpaaGreatDoorProg.lean LOADS. Nothing in Lean hashes anything: it is a label: what it is worth is what the hold of that sum in a sandbox is worth. -/
noncomputable def Tryz.pinned : Pinned := { name := "ytcceojmajfinpaagreatdoor", sum := "d7b41b46e8ff8f910d936ca02c8ccc36d00ec97bf53e73172292c6d7834755ed", checked := Tryz.checked }
namespace Rows
def none {H : Type} : Left H := { results := [], args := [] }

/- WHAT THE LISTED PACKAGE-LEVEL VARIABLES READ AS WHEN THE CALL BEGINS. Each datum BY PROGRAM (the guide's laid-datum.mjs) off the statement by which the dump's own 'gosem.cut.vars' lays the variable. In a bare row this is a premise. The card (YtcceojmajfinpaaGreatDoorCards.lean) ties it to the program's text. -/
def laid_math_bits_deBruijn32tab {H : Type} : DataW H := .agg [.lit (.int .u8 0), .lit (.int .u8 1), .lit (.int .u8 28), .lit (.int .u8 2), .lit (.int .u8 29), .lit (.int .u8 14), .lit (.int .u8 24), .lit (.int .u8 3), .lit (.int .u8 30), .lit (.int .u8 22), .lit (.int .u8 20), .lit (.int .u8 15), .lit (.int .u8 25), .lit (.int .u8 17), .lit (.int .u8 4), .lit (.int .u8 8), .lit (.int .u8 31), .lit (.int .u8 27), .lit (.int .u8 13), .lit (.int .u8 23), .lit (.int .u8 21), .lit (.int .u8 19), .lit (.int .u8 16), .lit (.int .u8 7), .lit (.int .u8 26), .lit (.int .u8 12), .lit (.int .u8 18), .lit (.int .u8 6), .lit (.int .u8 11), .lit (.int .u8 5), .lit (.int .u8 10), .lit (.int .u8 9)]
def laid_math_bits_deBruijn64tab {H : Type} : DataW H := .agg [.lit (.int .u8 0), .lit (.int .u8 1), .lit (.int .u8 56), .lit (.int .u8 2), .lit (.int .u8 57), .lit (.int .u8 49), .lit (.int .u8 28), .lit (.int .u8 3), .lit (.int .u8 61), .lit (.int .u8 58), .lit (.int .u8 42), .lit (.int .u8 50), .lit (.int .u8 38), .lit (.int .u8 29), .lit (.int .u8 17), .lit (.int .u8 4), .lit (.int .u8 62), .lit (.int .u8 47), .lit (.int .u8 59), .lit (.int .u8 36), .lit (.int .u8 45), .lit (.int .u8 43), .lit (.int .u8 51), .lit (.int .u8 22), .lit (.int .u8 53), .lit (.int .u8 39), .lit (.int .u8 33), .lit (.int .u8 30), .lit (.int .u8 24), .lit (.int .u8 18), .lit (.int .u8 12), .lit (.int .u8 5), .lit (.int .u8 63), .lit (.int .u8 55), .lit (.int .u8 48), .lit (.int .u8 27), .lit (.int .u8 60), .lit (.int .u8 41), .lit (.int .u8 37), .lit (.int .u8 16), .lit (.int .u8 46), .lit (.int .u8 35), .lit (.int .u8 44), .lit (.int .u8 21), .lit (.int .u8 52), .lit (.int .u8 32), .lit (.int .u8 23), .lit (.int .u8 11), .lit (.int .u8 54), .lit (.int .u8 26), .lit (.int .u8 40), .lit (.int .u8 15), .lit (.int .u8 34), .lit (.int .u8 20), .lit (.int .u8 31), .lit (.int .u8 10), .lit (.int .u8 25), .lit (.int .u8 14), .lit (.int .u8 19), .lit (.int .u8 9), .lit (.int .u8 13), .lit (.int .u8 8), .lit (.int .u8 7), .lit (.int .u8 6)]
def laid_internal_strconv_uint64pow10 {H : Type} : DataW H := .agg [.lit (.int .u64 1), .lit (.int .u64 10), .lit (.int .u64 100), .lit (.int .u64 1000), .lit (.int .u64 10000), .lit (.int .u64 100000), .lit (.int .u64 1000000), .lit (.int .u64 10000000), .lit (.int .u64 100000000), .lit (.int .u64 1000000000), .lit (.int .u64 10000000000), .lit (.int .u64 100000000000), .lit (.int .u64 1000000000000), .lit (.int .u64 10000000000000), .lit (.int .u64 100000000000000), .lit (.int .u64 1000000000000000), .lit (.int .u64 10000000000000000), .lit (.int .u64 100000000000000000), .lit (.int .u64 1000000000000000000), .lit (.int .u64 10000000000000000000)]
def laid_strconv_ErrRange {H : Type} : DataW H := .iface "*errors.errorString" (.ptr (.agg [.lit (.string [118, 97, 108, 117, 101, 32, 111, 117, 116, 32, 111, 102, 32, 114, 97, 110, 103, 101])]))
def laid_strconv_ErrSyntax {H : Type} : DataW H := .iface "*errors.errorString" (.ptr (.agg [.lit (.string [105, 110, 118, 97, 108, 105, 100, 32, 115, 121, 110, 116, 97, 120])]))

/-- 'laws.FnExactAskSum': WHATEVER THE INPUT: true; the input reads as it did. -/
def fnExactAskSumSpec : ChangeSpec := { name := "fnExactAskSum", fn := fun _ => fun
  | [d1, d2, d3] => { results := [.lit (.bool true)], args := [d1, d2, d3] }
  | _ => none }
def fnExactAskSumRow : OpenClaim := { program := "ytcceojmajfinpaagreatdoor", sum := "d7b41b46e8ff8f910d936ca02c8ccc36d00ec97bf53e73172292c6d7834755ed", func := "loop.example/custumal/laws.FnExactAskSum", spec := "fnExactAskSum", unfollowed := true, recurses := true, named := ["internal/strconv.uint64pow10", "math/bits.deBruijn32tab", "math/bits.deBruijn64tab", "strconv.ErrSyntax", "strconv.ErrRange"], plainKeys := false, apart := false, laid := [("math/bits.deBruijn32tab", laid_math_bits_deBruijn32tab), ("math/bits.deBruijn64tab", laid_math_bits_deBruijn64tab), ("internal/strconv.uint64pow10", laid_internal_strconv_uint64pow10), ("strconv.ErrRange", laid_strconv_ErrRange), ("strconv.ErrSyntax", laid_strconv_ErrSyntax)] }
def FnExactAskSumSaid : Prop := fnExactAskSumRow.holds Tryz.pinned (OpenSpec.ofChange fnExactAskSumSpec)

/-- ITS FALSE NEIGHBOUR: 'it returns false'. Refute it at one input. -/
def fnExactAskSumWrong : ChangeSpec := { name := "fnExactAskSum", fn := fun _ => fun
  | [d1, d2, d3] => { results := [.lit (.bool false)], args := [d1, d2, d3] }
  | _ => none }
def FnExactAskSumWrongFalsely : Prop := fnExactAskSumRow.holds Tryz.pinned (OpenSpec.ofChange fnExactAskSumWrong)

/-- 'laws.FnAskFind': WHATEVER THE INPUT: true; the input reads as it did. -/
def fnAskFindSpec : ChangeSpec := { name := "fnAskFind", fn := fun _ => fun
  | [d] => { results := [.lit (.bool true)], args := [d] }
  | _ => none }
def fnAskFindRow : OpenClaim := { program := "ytcceojmajfinpaagreatdoor", sum := "d7b41b46e8ff8f910d936ca02c8ccc36d00ec97bf53e73172292c6d7834755ed", func := "loop.example/custumal/laws.FnAskFind", spec := "fnAskFind", unfollowed := true, recurses := true, named := ["internal/strconv.uint64pow10", "math/bits.deBruijn32tab", "math/bits.deBruijn64tab", "strconv.ErrSyntax", "strconv.ErrRange"], plainKeys := false, apart := false, laid := [("math/bits.deBruijn32tab", laid_math_bits_deBruijn32tab), ("math/bits.deBruijn64tab", laid_math_bits_deBruijn64tab), ("internal/strconv.uint64pow10", laid_internal_strconv_uint64pow10), ("strconv.ErrRange", laid_strconv_ErrRange), ("strconv.ErrSyntax", laid_strconv_ErrSyntax)] }
def FnAskFindSaid : Prop := fnAskFindRow.holds Tryz.pinned (OpenSpec.ofChange fnAskFindSpec)

/-- ITS FALSE NEIGHBOUR: 'it returns false'. Refute it at one input. -/
def fnAskFindWrong : ChangeSpec := { name := "fnAskFind", fn := fun _ => fun
  | [d] => { results := [.lit (.bool false)], args := [d] }
  | _ => none }
def FnAskFindWrongFalsely : Prop := fnAskFindRow.holds Tryz.pinned (OpenSpec.ofChange fnAskFindWrong)

/-- 'laws.FnAskMore': WHATEVER THE INPUT: true; the input reads as it did. -/
def fnAskMoreSpec : ChangeSpec := { name := "fnAskMore", fn := fun _ => fun
  | [d1, d2] => { results := [.lit (.bool true)], args := [d1, d2] }
  | _ => none }
def fnAskMoreRow : OpenClaim := { program := "ytcceojmajfinpaagreatdoor", sum := "d7b41b46e8ff8f910d936ca02c8ccc36d00ec97bf53e73172292c6d7834755ed", func := "loop.example/custumal/laws.FnAskMore", spec := "fnAskMore", unfollowed := true, recurses := true, named := ["internal/strconv.uint64pow10", "math/bits.deBruijn32tab", "math/bits.deBruijn64tab", "strconv.ErrSyntax", "strconv.ErrRange"], plainKeys := false, apart := false, laid := [("math/bits.deBruijn32tab", laid_math_bits_deBruijn32tab), ("math/bits.deBruijn64tab", laid_math_bits_deBruijn64tab), ("internal/strconv.uint64pow10", laid_internal_strconv_uint64pow10), ("strconv.ErrRange", laid_strconv_ErrRange), ("strconv.ErrSyntax", laid_strconv_ErrSyntax)] }
def FnAskMoreSaid : Prop := fnAskMoreRow.holds Tryz.pinned (OpenSpec.ofChange fnAskMoreSpec)

/-- ITS FALSE NEIGHBOUR: 'it returns false'. Refute it at one input. -/
def fnAskMoreWrong : ChangeSpec := { name := "fnAskMore", fn := fun _ => fun
  | [d1, d2] => { results := [.lit (.bool false)], args := [d1, d2] }
  | _ => none }
def FnAskMoreWrongFalsely : Prop := fnAskMoreRow.holds Tryz.pinned (OpenSpec.ofChange fnAskMoreWrong)

/-- 'laws.FnAskCols': WHATEVER THE INPUT: true; the input reads as it did. -/
def fnAskColsSpec : ChangeSpec := { name := "fnAskCols", fn := fun _ => fun
  | [d] => { results := [.lit (.bool true)], args := [d] }
  | _ => none }
def fnAskColsRow : OpenClaim := { program := "ytcceojmajfinpaagreatdoor", sum := "d7b41b46e8ff8f910d936ca02c8ccc36d00ec97bf53e73172292c6d7834755ed", func := "loop.example/custumal/laws.FnAskCols", spec := "fnAskCols", unfollowed := true, recurses := true, named := ["internal/strconv.uint64pow10", "math/bits.deBruijn32tab", "math/bits.deBruijn64tab", "strconv.ErrSyntax", "strconv.ErrRange"], plainKeys := false, apart := false, laid := [("math/bits.deBruijn32tab", laid_math_bits_deBruijn32tab), ("math/bits.deBruijn64tab", laid_math_bits_deBruijn64tab), ("internal/strconv.uint64pow10", laid_internal_strconv_uint64pow10), ("strconv.ErrRange", laid_strconv_ErrRange), ("strconv.ErrSyntax", laid_strconv_ErrSyntax)] }
def FnAskColsSaid : Prop := fnAskColsRow.holds Tryz.pinned (OpenSpec.ofChange fnAskColsSpec)

/-- ITS FALSE NEIGHBOUR: 'it returns false'. Refute it at one input. -/
def fnAskColsWrong : ChangeSpec := { name := "fnAskCols", fn := fun _ => fun
  | [d] => { results := [.lit (.bool false)], args := [d] }
  | _ => none }
def FnAskColsWrongFalsely : Prop := fnAskColsRow.holds Tryz.pinned (OpenSpec.ofChange fnAskColsWrong)

/-- 'laws.FnAskIds': WHATEVER THE INPUT: true; the input reads as it did. -/
def fnAskIdsSpec : ChangeSpec := { name := "fnAskIds", fn := fun _ => fun
  | [d] => { results := [.lit (.bool true)], args := [d] }
  | _ => none }
def fnAskIdsRow : OpenClaim := { program := "ytcceojmajfinpaagreatdoor", sum := "d7b41b46e8ff8f910d936ca02c8ccc36d00ec97bf53e73172292c6d7834755ed", func := "loop.example/custumal/laws.FnAskIds", spec := "fnAskIds", unfollowed := true, recurses := true, named := ["internal/strconv.uint64pow10", "math/bits.deBruijn32tab", "math/bits.deBruijn64tab", "strconv.ErrSyntax", "strconv.ErrRange"], plainKeys := false, apart := false, laid := [("math/bits.deBruijn32tab", laid_math_bits_deBruijn32tab), ("math/bits.deBruijn64tab", laid_math_bits_deBruijn64tab), ("internal/strconv.uint64pow10", laid_internal_strconv_uint64pow10), ("strconv.ErrRange", laid_strconv_ErrRange), ("strconv.ErrSyntax", laid_strconv_ErrSyntax)] }
def FnAskIdsSaid : Prop := fnAskIdsRow.holds Tryz.pinned (OpenSpec.ofChange fnAskIdsSpec)

/-- ITS FALSE NEIGHBOUR: 'it returns false'. Refute it at one input. -/
def fnAskIdsWrong : ChangeSpec := { name := "fnAskIds", fn := fun _ => fun
  | [d] => { results := [.lit (.bool false)], args := [d] }
  | _ => none }
def FnAskIdsWrongFalsely : Prop := fnAskIdsRow.holds Tryz.pinned (OpenSpec.ofChange fnAskIdsWrong)

/-- 'laws.FnExactAskIds': WHATEVER THE INPUT: true; the input reads as it did. -/
def fnExactAskIdsSpec : ChangeSpec := { name := "fnExactAskIds", fn := fun _ => fun
  | [d1, d2] => { results := [.lit (.bool true)], args := [d1, d2] }
  | _ => none }
def fnExactAskIdsRow : OpenClaim := { program := "ytcceojmajfinpaagreatdoor", sum := "d7b41b46e8ff8f910d936ca02c8ccc36d00ec97bf53e73172292c6d7834755ed", func := "loop.example/custumal/laws.FnExactAskIds", spec := "fnExactAskIds", unfollowed := true, recurses := true, named := ["internal/strconv.uint64pow10", "math/bits.deBruijn32tab", "math/bits.deBruijn64tab", "strconv.ErrSyntax", "strconv.ErrRange"], plainKeys := false, apart := false, laid := [("math/bits.deBruijn32tab", laid_math_bits_deBruijn32tab), ("math/bits.deBruijn64tab", laid_math_bits_deBruijn64tab), ("internal/strconv.uint64pow10", laid_internal_strconv_uint64pow10), ("strconv.ErrRange", laid_strconv_ErrRange), ("strconv.ErrSyntax", laid_strconv_ErrSyntax)] }
def FnExactAskIdsSaid : Prop := fnExactAskIdsRow.holds Tryz.pinned (OpenSpec.ofChange fnExactAskIdsSpec)

/-- ITS FALSE NEIGHBOUR: 'it returns false'. Refute it at one input. -/
def fnExactAskIdsWrong : ChangeSpec := { name := "fnExactAskIds", fn := fun _ => fun
  | [d1, d2] => { results := [.lit (.bool false)], args := [d1, d2] }
  | _ => none }
def FnExactAskIdsWrongFalsely : Prop := fnExactAskIdsRow.holds Tryz.pinned (OpenSpec.ofChange fnExactAskIdsWrong)

/-- 'laws.FnExactAskCols': WHATEVER THE INPUT: true; the input reads as it did. -/
def fnExactAskColsSpec : ChangeSpec := { name := "fnExactAskCols", fn := fun _ => fun
  | [d1, d2, d3] => { results := [.lit (.bool true)], args := [d1, d2, d3] }
  | _ => none }
def fnExactAskColsRow : OpenClaim := { program := "ytcceojmajfinpaagreatdoor", sum := "d7b41b46e8ff8f910d936ca02c8ccc36d00ec97bf53e73172292c6d7834755ed", func := "loop.example/custumal/laws.FnExactAskCols", spec := "fnExactAskCols", unfollowed := true, recurses := true, named := ["internal/strconv.uint64pow10", "math/bits.deBruijn32tab", "math/bits.deBruijn64tab", "strconv.ErrSyntax", "strconv.ErrRange"], plainKeys := false, apart := false, laid := [("math/bits.deBruijn32tab", laid_math_bits_deBruijn32tab), ("math/bits.deBruijn64tab", laid_math_bits_deBruijn64tab), ("internal/strconv.uint64pow10", laid_internal_strconv_uint64pow10), ("strconv.ErrRange", laid_strconv_ErrRange), ("strconv.ErrSyntax", laid_strconv_ErrSyntax)] }
def FnExactAskColsSaid : Prop := fnExactAskColsRow.holds Tryz.pinned (OpenSpec.ofChange fnExactAskColsSpec)

/-- ITS FALSE NEIGHBOUR: 'it returns false'. Refute it at one input. -/
def fnExactAskColsWrong : ChangeSpec := { name := "fnExactAskCols", fn := fun _ => fun
  | [d1, d2, d3] => { results := [.lit (.bool false)], args := [d1, d2, d3] }
  | _ => none }
def FnExactAskColsWrongFalsely : Prop := fnExactAskColsRow.holds Tryz.pinned (OpenSpec.ofChange fnExactAskColsWrong)

/-- 'laws.FnIndexRow': WHATEVER THE INPUT: true; the input reads as it did. -/
def fnIndexRowSpec : ChangeSpec := { name := "fnIndexRow", fn := fun _ => fun
  | [d] => { results := [.lit (.bool true)], args := [d] }
  | _ => none }
def fnIndexRowRow : OpenClaim := { program := "ytcceojmajfinpaagreatdoor", sum := "d7b41b46e8ff8f910d936ca02c8ccc36d00ec97bf53e73172292c6d7834755ed", func := "loop.example/custumal/laws.FnIndexRow", spec := "fnIndexRow", inPlace := ["slices.overlaps[loop.example/custumal/impl.Entry]"], unfollowed := true, recurses := true, named := ["internal/strconv.uint64pow10", "math/bits.deBruijn32tab", "math/bits.deBruijn64tab", "strconv.ErrSyntax", "strconv.ErrRange"], plainKeys := false, apart := false, laid := [("math/bits.deBruijn32tab", laid_math_bits_deBruijn32tab), ("math/bits.deBruijn64tab", laid_math_bits_deBruijn64tab), ("internal/strconv.uint64pow10", laid_internal_strconv_uint64pow10), ("strconv.ErrRange", laid_strconv_ErrRange), ("strconv.ErrSyntax", laid_strconv_ErrSyntax)] }
def FnIndexRowSaid : Prop := fnIndexRowRow.holds Tryz.pinned (OpenSpec.ofChange fnIndexRowSpec)

/-- ITS FALSE NEIGHBOUR: 'it returns false'. Refute it at one input. -/
def fnIndexRowWrong : ChangeSpec := { name := "fnIndexRow", fn := fun _ => fun
  | [d] => { results := [.lit (.bool false)], args := [d] }
  | _ => none }
def FnIndexRowWrongFalsely : Prop := fnIndexRowRow.holds Tryz.pinned (OpenSpec.ofChange fnIndexRowWrong)

/-- 'laws.FnIndexKeep': WHATEVER THE INPUT: true; the input reads as it did. -/
def fnIndexKeepSpec : ChangeSpec := { name := "fnIndexKeep", fn := fun _ => fun
  | [d] => { results := [.lit (.bool true)], args := [d] }
  | _ => none }
def fnIndexKeepRow : OpenClaim := { program := "ytcceojmajfinpaagreatdoor", sum := "d7b41b46e8ff8f910d936ca02c8ccc36d00ec97bf53e73172292c6d7834755ed", func := "loop.example/custumal/laws.FnIndexKeep", spec := "fnIndexKeep", inPlace := ["slices.overlaps[loop.example/custumal/impl.Entry]"], unfollowed := true, recurses := true, named := ["internal/strconv.uint64pow10", "math/bits.deBruijn32tab", "math/bits.deBruijn64tab", "strconv.ErrSyntax", "strconv.ErrRange"], plainKeys := false, apart := false, laid := [("math/bits.deBruijn32tab", laid_math_bits_deBruijn32tab), ("math/bits.deBruijn64tab", laid_math_bits_deBruijn64tab), ("internal/strconv.uint64pow10", laid_internal_strconv_uint64pow10), ("strconv.ErrRange", laid_strconv_ErrRange), ("strconv.ErrSyntax", laid_strconv_ErrSyntax)] }
def FnIndexKeepSaid : Prop := fnIndexKeepRow.holds Tryz.pinned (OpenSpec.ofChange fnIndexKeepSpec)

/-- ITS FALSE NEIGHBOUR: 'it returns false'. Refute it at one input. -/
def fnIndexKeepWrong : ChangeSpec := { name := "fnIndexKeep", fn := fun _ => fun
  | [d] => { results := [.lit (.bool false)], args := [d] }
  | _ => none }
def FnIndexKeepWrongFalsely : Prop := fnIndexKeepRow.holds Tryz.pinned (OpenSpec.ofChange fnIndexKeepWrong)

/-- 'laws.FnExactIndexOf': WHATEVER THE INPUT: true; the input reads as it did. -/
def fnExactIndexOfSpec : ChangeSpec := { name := "fnExactIndexOf", fn := fun _ => fun
  | [d1, d2] => { results := [.lit (.bool true)], args := [d1, d2] }
  | _ => none }
def fnExactIndexOfRow : OpenClaim := { program := "ytcceojmajfinpaagreatdoor", sum := "d7b41b46e8ff8f910d936ca02c8ccc36d00ec97bf53e73172292c6d7834755ed", func := "loop.example/custumal/laws.FnExactIndexOf", spec := "fnExactIndexOf", inPlace := ["slices.overlaps[loop.example/custumal/impl.Entry]"], unfollowed := true, recurses := true, named := ["internal/strconv.uint64pow10", "math/bits.deBruijn32tab", "math/bits.deBruijn64tab", "strconv.ErrSyntax", "strconv.ErrRange"], plainKeys := false, apart := false, laid := [("math/bits.deBruijn32tab", laid_math_bits_deBruijn32tab), ("math/bits.deBruijn64tab", laid_math_bits_deBruijn64tab), ("internal/strconv.uint64pow10", laid_internal_strconv_uint64pow10), ("strconv.ErrRange", laid_strconv_ErrRange), ("strconv.ErrSyntax", laid_strconv_ErrSyntax)] }
def FnExactIndexOfSaid : Prop := fnExactIndexOfRow.holds Tryz.pinned (OpenSpec.ofChange fnExactIndexOfSpec)

/-- ITS FALSE NEIGHBOUR: 'it returns false'. Refute it at one input. -/
def fnExactIndexOfWrong : ChangeSpec := { name := "fnExactIndexOf", fn := fun _ => fun
  | [d1, d2] => { results := [.lit (.bool false)], args := [d1, d2] }
  | _ => none }
def FnExactIndexOfWrongFalsely : Prop := fnExactIndexOfRow.holds Tryz.pinned (OpenSpec.ofChange fnExactIndexOfWrong)

/-- 'laws.FnIndexOf': WHATEVER THE INPUT: true; the input reads as it did. -/
def fnIndexOfSpec : ChangeSpec := { name := "fnIndexOf", fn := fun _ => fun
  | [d] => { results := [.lit (.bool true)], args := [d] }
  | _ => none }
def fnIndexOfRow : OpenClaim := { program := "ytcceojmajfinpaagreatdoor", sum := "d7b41b46e8ff8f910d936ca02c8ccc36d00ec97bf53e73172292c6d7834755ed", func := "loop.example/custumal/laws.FnIndexOf", spec := "fnIndexOf", inPlace := ["slices.overlaps[loop.example/custumal/impl.Entry]"], unfollowed := true, recurses := true, named := ["internal/strconv.uint64pow10", "math/bits.deBruijn32tab", "math/bits.deBruijn64tab", "strconv.ErrSyntax", "strconv.ErrRange"], plainKeys := false, apart := false, laid := [("math/bits.deBruijn32tab", laid_math_bits_deBruijn32tab), ("math/bits.deBruijn64tab", laid_math_bits_deBruijn64tab), ("internal/strconv.uint64pow10", laid_internal_strconv_uint64pow10), ("strconv.ErrRange", laid_strconv_ErrRange), ("strconv.ErrSyntax", laid_strconv_ErrSyntax)] }
def FnIndexOfSaid : Prop := fnIndexOfRow.holds Tryz.pinned (OpenSpec.ofChange fnIndexOfSpec)

/-- ITS FALSE NEIGHBOUR: 'it returns false'. Refute it at one input. -/
def fnIndexOfWrong : ChangeSpec := { name := "fnIndexOf", fn := fun _ => fun
  | [d] => { results := [.lit (.bool false)], args := [d] }
  | _ => none }
def FnIndexOfWrongFalsely : Prop := fnIndexOfRow.holds Tryz.pinned (OpenSpec.ofChange fnIndexOfWrong)

/-- 'laws.FnExactAskOrder': WHATEVER THE INPUT: true; the input reads as it did. -/
def fnExactAskOrderSpec : ChangeSpec := { name := "fnExactAskOrder", fn := fun _ => fun
  | [d1, d2, d3, d4] => { results := [.lit (.bool true)], args := [d1, d2, d3, d4] }
  | _ => none }
def fnExactAskOrderRow : OpenClaim := { program := "ytcceojmajfinpaagreatdoor", sum := "d7b41b46e8ff8f910d936ca02c8ccc36d00ec97bf53e73172292c6d7834755ed", func := "loop.example/custumal/laws.FnExactAskOrder", spec := "fnExactAskOrder", unfollowed := true, recurses := true, named := ["internal/strconv.uint64pow10", "math/bits.deBruijn32tab", "math/bits.deBruijn64tab", "strconv.ErrSyntax", "strconv.ErrRange"], plainKeys := false, apart := false, laid := [("math/bits.deBruijn32tab", laid_math_bits_deBruijn32tab), ("math/bits.deBruijn64tab", laid_math_bits_deBruijn64tab), ("internal/strconv.uint64pow10", laid_internal_strconv_uint64pow10), ("strconv.ErrRange", laid_strconv_ErrRange), ("strconv.ErrSyntax", laid_strconv_ErrSyntax)] }
def FnExactAskOrderSaid : Prop := fnExactAskOrderRow.holds Tryz.pinned (OpenSpec.ofChange fnExactAskOrderSpec)

/-- ITS FALSE NEIGHBOUR: 'it returns false'. Refute it at one input. -/
def fnExactAskOrderWrong : ChangeSpec := { name := "fnExactAskOrder", fn := fun _ => fun
  | [d1, d2, d3, d4] => { results := [.lit (.bool false)], args := [d1, d2, d3, d4] }
  | _ => none }
def FnExactAskOrderWrongFalsely : Prop := fnExactAskOrderRow.holds Tryz.pinned (OpenSpec.ofChange fnExactAskOrderWrong)

/- THE SECOND FORM. 'bulk': how many values and letters a reading holds, each counted each time it is reached (what is shared counts as often as it is met; a slice's spare places count too). A statement '..UptoSaid' is the law's where the arguments, and the package variables that the reading takes, are together of bulk at most 1048576: NARROWER than '..Said'. Prove '..Said' where nothing that the law and all that it calls make is longer than what came in: it says more and counts as full. Else prove '..UptoSaid'. A law counts once. -/
mutual
def uptoBulk {H : Type} : DataW H → Nat
  | .lit (.string bytes) => bytes.length + 1
  | .lit _ => 1
  | .nil => 1
  | .ptr d => uptoBulk d + 1
  | .slice elems spare => uptoBulkAll elems + uptoBulkAll spare + 1
  | .agg parts => uptoBulkAll parts + 1
  | .iface _ d => uptoBulk d + 1
  | .map entries => uptoBulkEntries entries + 1
  | .held _ => 1
def uptoBulkAll {H : Type} : List (DataW H) → Nat
  | [] => 0
  | d :: r => uptoBulk d + uptoBulkAll r
def uptoBulkEntries {H : Type} : List (Lit × DataW H) → Nat
  | [] => 0
  | x :: r => uptoBulkEntry x + uptoBulkEntries r
def uptoBulkEntry {H : Type} : Lit × DataW H → Nat
  | (.string bytes, d) => bytes.length + uptoBulk d + 1
  | (_, d) => uptoBulk d + 1
 end
def uptoSmall : (H : Type) → List (DataW H) → Bool := fun _ ds => decide (uptoBulkAll ds ≤ 1048576)
def OpenSpec.upto (s : _root_.Go.ChangeSpec) : _root_.Go.OpenSpec := { _root_.Go.OpenSpec.ofChange s with cond := some uptoSmall }

/-- 'laws.FnExactAskSum', WHERE WHAT IT READS IS OF BULK AT MOST 1048576: true; the input reads as it did. -/
def fnExactAskSumUptoRow : OpenClaim := { program := "ytcceojmajfinpaagreatdoor", sum := "d7b41b46e8ff8f910d936ca02c8ccc36d00ec97bf53e73172292c6d7834755ed", func := "loop.example/custumal/laws.FnExactAskSum", spec := "fnExactAskSum", unfollowed := true, recurses := true, named := ["internal/strconv.uint64pow10", "math/bits.deBruijn32tab", "math/bits.deBruijn64tab", "strconv.ErrSyntax", "strconv.ErrRange"], plainKeys := false, apart := false, laid := [("math/bits.deBruijn32tab", laid_math_bits_deBruijn32tab), ("math/bits.deBruijn64tab", laid_math_bits_deBruijn64tab), ("internal/strconv.uint64pow10", laid_internal_strconv_uint64pow10), ("strconv.ErrRange", laid_strconv_ErrRange), ("strconv.ErrSyntax", laid_strconv_ErrSyntax)], narrowed := true }
def FnExactAskSumUptoSaid : Prop := fnExactAskSumUptoRow.holds Tryz.pinned (OpenSpec.upto fnExactAskSumSpec)

/-- 'laws.FnAskFind', WHERE WHAT IT READS IS OF BULK AT MOST 1048576: true; the input reads as it did. -/
def fnAskFindUptoRow : OpenClaim := { program := "ytcceojmajfinpaagreatdoor", sum := "d7b41b46e8ff8f910d936ca02c8ccc36d00ec97bf53e73172292c6d7834755ed", func := "loop.example/custumal/laws.FnAskFind", spec := "fnAskFind", unfollowed := true, recurses := true, named := ["internal/strconv.uint64pow10", "math/bits.deBruijn32tab", "math/bits.deBruijn64tab", "strconv.ErrSyntax", "strconv.ErrRange"], plainKeys := false, apart := false, laid := [("math/bits.deBruijn32tab", laid_math_bits_deBruijn32tab), ("math/bits.deBruijn64tab", laid_math_bits_deBruijn64tab), ("internal/strconv.uint64pow10", laid_internal_strconv_uint64pow10), ("strconv.ErrRange", laid_strconv_ErrRange), ("strconv.ErrSyntax", laid_strconv_ErrSyntax)], narrowed := true }
def FnAskFindUptoSaid : Prop := fnAskFindUptoRow.holds Tryz.pinned (OpenSpec.upto fnAskFindSpec)

/-- 'laws.FnAskMore', WHERE WHAT IT READS IS OF BULK AT MOST 1048576: true; the input reads as it did. -/
def fnAskMoreUptoRow : OpenClaim := { program := "ytcceojmajfinpaagreatdoor", sum := "d7b41b46e8ff8f910d936ca02c8ccc36d00ec97bf53e73172292c6d7834755ed", func := "loop.example/custumal/laws.FnAskMore", spec := "fnAskMore", unfollowed := true, recurses := true, named := ["internal/strconv.uint64pow10", "math/bits.deBruijn32tab", "math/bits.deBruijn64tab", "strconv.ErrSyntax", "strconv.ErrRange"], plainKeys := false, apart := false, laid := [("math/bits.deBruijn32tab", laid_math_bits_deBruijn32tab), ("math/bits.deBruijn64tab", laid_math_bits_deBruijn64tab), ("internal/strconv.uint64pow10", laid_internal_strconv_uint64pow10), ("strconv.ErrRange", laid_strconv_ErrRange), ("strconv.ErrSyntax", laid_strconv_ErrSyntax)], narrowed := true }
def FnAskMoreUptoSaid : Prop := fnAskMoreUptoRow.holds Tryz.pinned (OpenSpec.upto fnAskMoreSpec)

/-- 'laws.FnAskCols', WHERE WHAT IT READS IS OF BULK AT MOST 1048576: true; the input reads as it did. -/
def fnAskColsUptoRow : OpenClaim := { program := "ytcceojmajfinpaagreatdoor", sum := "d7b41b46e8ff8f910d936ca02c8ccc36d00ec97bf53e73172292c6d7834755ed", func := "loop.example/custumal/laws.FnAskCols", spec := "fnAskCols", unfollowed := true, recurses := true, named := ["internal/strconv.uint64pow10", "math/bits.deBruijn32tab", "math/bits.deBruijn64tab", "strconv.ErrSyntax", "strconv.ErrRange"], plainKeys := false, apart := false, laid := [("math/bits.deBruijn32tab", laid_math_bits_deBruijn32tab), ("math/bits.deBruijn64tab", laid_math_bits_deBruijn64tab), ("internal/strconv.uint64pow10", laid_internal_strconv_uint64pow10), ("strconv.ErrRange", laid_strconv_ErrRange), ("strconv.ErrSyntax", laid_strconv_ErrSyntax)], narrowed := true }
def FnAskColsUptoSaid : Prop := fnAskColsUptoRow.holds Tryz.pinned (OpenSpec.upto fnAskColsSpec)

/-- 'laws.FnAskIds', WHERE WHAT IT READS IS OF BULK AT MOST 1048576: true; the input reads as it did. -/
def fnAskIdsUptoRow : OpenClaim := { program := "ytcceojmajfinpaagreatdoor", sum := "d7b41b46e8ff8f910d936ca02c8ccc36d00ec97bf53e73172292c6d7834755ed", func := "loop.example/custumal/laws.FnAskIds", spec := "fnAskIds", unfollowed := true, recurses := true, named := ["internal/strconv.uint64pow10", "math/bits.deBruijn32tab", "math/bits.deBruijn64tab", "strconv.ErrSyntax", "strconv.ErrRange"], plainKeys := false, apart := false, laid := [("math/bits.deBruijn32tab", laid_math_bits_deBruijn32tab), ("math/bits.deBruijn64tab", laid_math_bits_deBruijn64tab), ("internal/strconv.uint64pow10", laid_internal_strconv_uint64pow10), ("strconv.ErrRange", laid_strconv_ErrRange), ("strconv.ErrSyntax", laid_strconv_ErrSyntax)], narrowed := true }
def FnAskIdsUptoSaid : Prop := fnAskIdsUptoRow.holds Tryz.pinned (OpenSpec.upto fnAskIdsSpec)

/-- 'laws.FnExactAskIds', WHERE WHAT IT READS IS OF BULK AT MOST 1048576: true; the input reads as it did. -/
def fnExactAskIdsUptoRow : OpenClaim := { program := "ytcceojmajfinpaagreatdoor", sum := "d7b41b46e8ff8f910d936ca02c8ccc36d00ec97bf53e73172292c6d7834755ed", func := "loop.example/custumal/laws.FnExactAskIds", spec := "fnExactAskIds", unfollowed := true, recurses := true, named := ["internal/strconv.uint64pow10", "math/bits.deBruijn32tab", "math/bits.deBruijn64tab", "strconv.ErrSyntax", "strconv.ErrRange"], plainKeys := false, apart := false, laid := [("math/bits.deBruijn32tab", laid_math_bits_deBruijn32tab), ("math/bits.deBruijn64tab", laid_math_bits_deBruijn64tab), ("internal/strconv.uint64pow10", laid_internal_strconv_uint64pow10), ("strconv.ErrRange", laid_strconv_ErrRange), ("strconv.ErrSyntax", laid_strconv_ErrSyntax)], narrowed := true }
def FnExactAskIdsUptoSaid : Prop := fnExactAskIdsUptoRow.holds Tryz.pinned (OpenSpec.upto fnExactAskIdsSpec)

/-- 'laws.FnExactAskCols', WHERE WHAT IT READS IS OF BULK AT MOST 1048576: true; the input reads as it did. -/
def fnExactAskColsUptoRow : OpenClaim := { program := "ytcceojmajfinpaagreatdoor", sum := "d7b41b46e8ff8f910d936ca02c8ccc36d00ec97bf53e73172292c6d7834755ed", func := "loop.example/custumal/laws.FnExactAskCols", spec := "fnExactAskCols", unfollowed := true, recurses := true, named := ["internal/strconv.uint64pow10", "math/bits.deBruijn32tab", "math/bits.deBruijn64tab", "strconv.ErrSyntax", "strconv.ErrRange"], plainKeys := false, apart := false, laid := [("math/bits.deBruijn32tab", laid_math_bits_deBruijn32tab), ("math/bits.deBruijn64tab", laid_math_bits_deBruijn64tab), ("internal/strconv.uint64pow10", laid_internal_strconv_uint64pow10), ("strconv.ErrRange", laid_strconv_ErrRange), ("strconv.ErrSyntax", laid_strconv_ErrSyntax)], narrowed := true }
def FnExactAskColsUptoSaid : Prop := fnExactAskColsUptoRow.holds Tryz.pinned (OpenSpec.upto fnExactAskColsSpec)

/-- 'laws.FnIndexRow', WHERE WHAT IT READS IS OF BULK AT MOST 1048576: true; the input reads as it did. -/
def fnIndexRowUptoRow : OpenClaim := { program := "ytcceojmajfinpaagreatdoor", sum := "d7b41b46e8ff8f910d936ca02c8ccc36d00ec97bf53e73172292c6d7834755ed", func := "loop.example/custumal/laws.FnIndexRow", spec := "fnIndexRow", inPlace := ["slices.overlaps[loop.example/custumal/impl.Entry]"], unfollowed := true, recurses := true, named := ["internal/strconv.uint64pow10", "math/bits.deBruijn32tab", "math/bits.deBruijn64tab", "strconv.ErrSyntax", "strconv.ErrRange"], plainKeys := false, apart := false, laid := [("math/bits.deBruijn32tab", laid_math_bits_deBruijn32tab), ("math/bits.deBruijn64tab", laid_math_bits_deBruijn64tab), ("internal/strconv.uint64pow10", laid_internal_strconv_uint64pow10), ("strconv.ErrRange", laid_strconv_ErrRange), ("strconv.ErrSyntax", laid_strconv_ErrSyntax)], narrowed := true }
def FnIndexRowUptoSaid : Prop := fnIndexRowUptoRow.holds Tryz.pinned (OpenSpec.upto fnIndexRowSpec)

/-- 'laws.FnIndexKeep', WHERE WHAT IT READS IS OF BULK AT MOST 1048576: true; the input reads as it did. -/
def fnIndexKeepUptoRow : OpenClaim := { program := "ytcceojmajfinpaagreatdoor", sum := "d7b41b46e8ff8f910d936ca02c8ccc36d00ec97bf53e73172292c6d7834755ed", func := "loop.example/custumal/laws.FnIndexKeep", spec := "fnIndexKeep", inPlace := ["slices.overlaps[loop.example/custumal/impl.Entry]"], unfollowed := true, recurses := true, named := ["internal/strconv.uint64pow10", "math/bits.deBruijn32tab", "math/bits.deBruijn64tab", "strconv.ErrSyntax", "strconv.ErrRange"], plainKeys := false, apart := false, laid := [("math/bits.deBruijn32tab", laid_math_bits_deBruijn32tab), ("math/bits.deBruijn64tab", laid_math_bits_deBruijn64tab), ("internal/strconv.uint64pow10", laid_internal_strconv_uint64pow10), ("strconv.ErrRange", laid_strconv_ErrRange), ("strconv.ErrSyntax", laid_strconv_ErrSyntax)], narrowed := true }
def FnIndexKeepUptoSaid : Prop := fnIndexKeepUptoRow.holds Tryz.pinned (OpenSpec.upto fnIndexKeepSpec)

/-- 'laws.FnExactIndexOf', WHERE WHAT IT READS IS OF BULK AT MOST 1048576: true; the input reads as it did. -/
def fnExactIndexOfUptoRow : OpenClaim := { program := "ytcceojmajfinpaagreatdoor", sum := "d7b41b46e8ff8f910d936ca02c8ccc36d00ec97bf53e73172292c6d7834755ed", func := "loop.example/custumal/laws.FnExactIndexOf", spec := "fnExactIndexOf", inPlace := ["slices.overlaps[loop.example/custumal/impl.Entry]"], unfollowed := true, recurses := true, named := ["internal/strconv.uint64pow10", "math/bits.deBruijn32tab", "math/bits.deBruijn64tab", "strconv.ErrSyntax", "strconv.ErrRange"], plainKeys := false, apart := false, laid := [("math/bits.deBruijn32tab", laid_math_bits_deBruijn32tab), ("math/bits.deBruijn64tab", laid_math_bits_deBruijn64tab), ("internal/strconv.uint64pow10", laid_internal_strconv_uint64pow10), ("strconv.ErrRange", laid_strconv_ErrRange), ("strconv.ErrSyntax", laid_strconv_ErrSyntax)], narrowed := true }
def FnExactIndexOfUptoSaid : Prop := fnExactIndexOfUptoRow.holds Tryz.pinned (OpenSpec.upto fnExactIndexOfSpec)

/-- 'laws.FnIndexOf', WHERE WHAT IT READS IS OF BULK AT MOST 1048576: true; the input reads as it did. -/
def fnIndexOfUptoRow : OpenClaim := { program := "ytcceojmajfinpaagreatdoor", sum := "d7b41b46e8ff8f910d936ca02c8ccc36d00ec97bf53e73172292c6d7834755ed", func := "loop.example/custumal/laws.FnIndexOf", spec := "fnIndexOf", inPlace := ["slices.overlaps[loop.example/custumal/impl.Entry]"], unfollowed := true, recurses := true, named := ["internal/strconv.uint64pow10", "math/bits.deBruijn32tab", "math/bits.deBruijn64tab", "strconv.ErrSyntax", "strconv.ErrRange"], plainKeys := false, apart := false, laid := [("math/bits.deBruijn32tab", laid_math_bits_deBruijn32tab), ("math/bits.deBruijn64tab", laid_math_bits_deBruijn64tab), ("internal/strconv.uint64pow10", laid_internal_strconv_uint64pow10), ("strconv.ErrRange", laid_strconv_ErrRange), ("strconv.ErrSyntax", laid_strconv_ErrSyntax)], narrowed := true }
def FnIndexOfUptoSaid : Prop := fnIndexOfUptoRow.holds Tryz.pinned (OpenSpec.upto fnIndexOfSpec)

/-- 'laws.FnExactAskOrder', WHERE WHAT IT READS IS OF BULK AT MOST 1048576: true; the input reads as it did. -/
def fnExactAskOrderUptoRow : OpenClaim := { program := "ytcceojmajfinpaagreatdoor", sum := "d7b41b46e8ff8f910d936ca02c8ccc36d00ec97bf53e73172292c6d7834755ed", func := "loop.example/custumal/laws.FnExactAskOrder", spec := "fnExactAskOrder", unfollowed := true, recurses := true, named := ["internal/strconv.uint64pow10", "math/bits.deBruijn32tab", "math/bits.deBruijn64tab", "strconv.ErrSyntax", "strconv.ErrRange"], plainKeys := false, apart := false, laid := [("math/bits.deBruijn32tab", laid_math_bits_deBruijn32tab), ("math/bits.deBruijn64tab", laid_math_bits_deBruijn64tab), ("internal/strconv.uint64pow10", laid_internal_strconv_uint64pow10), ("strconv.ErrRange", laid_strconv_ErrRange), ("strconv.ErrSyntax", laid_strconv_ErrSyntax)], narrowed := true }
def FnExactAskOrderUptoSaid : Prop := fnExactAskOrderUptoRow.holds Tryz.pinned (OpenSpec.upto fnExactAskOrderSpec)

end Rows
end Go.Proofs.YtcceojmajfinpaaGreatDoor
