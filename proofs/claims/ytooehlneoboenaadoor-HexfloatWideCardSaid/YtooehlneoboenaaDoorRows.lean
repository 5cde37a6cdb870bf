/-
  NARROWER THAN 'FOR EVERY INPUT', by the rows' own cells (each row's printed sentence says how): HexfloatBack: laid · HexfloatPoint: laid · HexfloatSigns: laid · HexfloatOrder: laid · HexfloatStrange: laid · HexfloatJoins: laid · HexfloatWide: laid.
  DERIVED. THE GIVEN ROWS OF THIS SEAT. 7 by the template 'for every input the law returns true; each argument reads behind the call as it read before'; 0 by the template 'total and deterministic' (their statements: YtooehlneoboenaaDoorTotals.lean).
  GIVEN WITH THE SEED: the statements are not yours to turn. If you find one false, say at which input.
  Laid BY PROGRAM, IN A SANDBOX (cutbox-rows.mjs): the forced cells as the released guide's own fill.sh prints them over the translation b5a31a8ba7c2e38f… (all of the seat's roots in one cut). By AI agents, Wed Nov 11 2026. No macro, syntax, notation, axiom, sorry.
-/
import Derived.Test.YtooehlneoboenaaDoorChecked
import GoSem.Claim
import GoSem.ClaimJoined
import GoSem.ClaimMapViews
import Derived.JoinedTies
import Derived.KernelRfl
namespace Go.Proofs.YtooehlneoboenaaDoor
/- THE CELL 'sum', in the pinned program and in every row, IS THE sha256 OF THE DUMP (.gsa) THAT YtooehlneoboenaaDoorProg.lean LOADS. Nothing in Lean hashes anything: it is a label: what it is worth is what the hold of that sum in a sandbox is worth. -/
noncomputable def Tryd.pinned : Pinned := { name := "ytooehlneoboenaadoor", sum := "b5a31a8ba7c2e38fe6d97bc709bc48077bb452c2acd37e07a4df510680f58c31", checked := Tryd.checked }
namespace Rows
def none {H : Type} : Left H := { results := [], args := [] }

/- WHAT THE LISTED PACKAGE-LEVEL VARIABLES READ AS WHEN THE CALL BEGINS. Each datum BY PROGRAM (the guide's laid-datum.mjs) off the statement by which the dump's own 'gosem.cut.vars' lays the variable. In a bare row this is a premise. The card (YtooehlneoboenaaDoorCards.lean) ties it to the program's text. -/
def laid_math_bits_deBruijn32tab {H : Type} : DataW H := .agg [.lit (.int .u8 0), .lit (.int .u8 1), .lit (.int .u8 28), .lit (.int .u8 2), .lit (.int .u8 29), .lit (.int .u8 14), .lit (.int .u8 24), .lit (.int .u8 3), .lit (.int .u8 30), .lit (.int .u8 22), .lit (.int .u8 20), .lit (.int .u8 15), .lit (.int .u8 25), .lit (.int .u8 17), .lit (.int .u8 4), .lit (.int .u8 8), .lit (.int .u8 31), .lit (.int .u8 27), .lit (.int .u8 13), .lit (.int .u8 23), .lit (.int .u8 21), .lit (.int .u8 19), .lit (.int .u8 16), .lit (.int .u8 7), .lit (.int .u8 26), .lit (.int .u8 12), .lit (.int .u8 18), .lit (.int .u8 6), .lit (.int .u8 11), .lit (.int .u8 5), .lit (.int .u8 10), .lit (.int .u8 9)]
def laid_math_bits_deBruijn64tab {H : Type} : DataW H := .agg [.lit (.int .u8 0), .lit (.int .u8 1), .lit (.int .u8 56), .lit (.int .u8 2), .lit (.int .u8 57), .lit (.int .u8 49), .lit (.int .u8 28), .lit (.int .u8 3), .lit (.int .u8 61), .lit (.int .u8 58), .lit (.int .u8 42), .lit (.int .u8 50), .lit (.int .u8 38), .lit (.int .u8 29), .lit (.int .u8 17), .lit (.int .u8 4), .lit (.int .u8 62), .lit (.int .u8 47), .lit (.int .u8 59), .lit (.int .u8 36), .lit (.int .u8 45), .lit (.int .u8 43), .lit (.int .u8 51), .lit (.int .u8 22), .lit (.int .u8 53), .lit (.int .u8 39), .lit (.int .u8 33), .lit (.int .u8 30), .lit (.int .u8 24), .lit (.int .u8 18), .lit (.int .u8 12), .lit (.int .u8 5), .lit (.int .u8 63), .lit (.int .u8 55), .lit (.int .u8 48), .lit (.int .u8 27), .lit (.int .u8 60), .lit (.int .u8 41), .lit (.int .u8 37), .lit (.int .u8 16), .lit (.int .u8 46), .lit (.int .u8 35), .lit (.int .u8 44), .lit (.int .u8 21), .lit (.int .u8 52), .lit (.int .u8 32), .lit (.int .u8 23), .lit (.int .u8 11), .lit (.int .u8 54), .lit (.int .u8 26), .lit (.int .u8 40), .lit (.int .u8 15), .lit (.int .u8 34), .lit (.int .u8 20), .lit (.int .u8 31), .lit (.int .u8 10), .lit (.int .u8 25), .lit (.int .u8 14), .lit (.int .u8 19), .lit (.int .u8 9), .lit (.int .u8 13), .lit (.int .u8 8), .lit (.int .u8 7), .lit (.int .u8 6)]
def laid_internal_strconv_uint64pow10 {H : Type} : DataW H := .agg [.lit (.int .u64 1), .lit (.int .u64 10), .lit (.int .u64 100), .lit (.int .u64 1000), .lit (.int .u64 10000), .lit (.int .u64 100000), .lit (.int .u64 1000000), .lit (.int .u64 10000000), .lit (.int .u64 100000000), .lit (.int .u64 1000000000), .lit (.int .u64 10000000000), .lit (.int .u64 100000000000), .lit (.int .u64 1000000000000), .lit (.int .u64 10000000000000), .lit (.int .u64 100000000000000), .lit (.int .u64 1000000000000000), .lit (.int .u64 10000000000000000), .lit (.int .u64 100000000000000000), .lit (.int .u64 1000000000000000000), .lit (.int .u64 10000000000000000000)]

/-- 'gnomonlaw10.HexfloatBack': WHATEVER THE INPUT: true; the input reads as it did. -/
def hexfloatBackSpec : ChangeSpec := { name := "hexfloatBack", fn := fun _ => fun
  | [d1, d2] => { results := [.lit (.bool true)], args := [d1, d2] }
  | _ => none }
def hexfloatBackRow : OpenClaim := { program := "ytooehlneoboenaadoor", sum := "b5a31a8ba7c2e38fe6d97bc709bc48077bb452c2acd37e07a4df510680f58c31", func := "gnomon/gnomonlaw10.HexfloatBack", spec := "hexfloatBack", inPlace := ["internal/bytealg.IndexByteString", "math/bits.Add64"], unfollowed := true, recurses := true, named := ["math/bits.deBruijn64tab", "internal/strconv.uint64pow10", "math/bits.deBruijn32tab"], apart := false, laid := [("math/bits.deBruijn32tab", laid_math_bits_deBruijn32tab), ("math/bits.deBruijn64tab", laid_math_bits_deBruijn64tab), ("internal/strconv.uint64pow10", laid_internal_strconv_uint64pow10)] }
def HexfloatBackSaid : Prop := hexfloatBackRow.holds Tryd.pinned (OpenSpec.ofChange hexfloatBackSpec)

/-- ITS FALSE NEIGHBOUR: 'it returns false'. Refute it at one input. -/
def hexfloatBackWrong : ChangeSpec := { name := "hexfloatBack", fn := fun _ => fun
  | [d1, d2] => { results := [.lit (.bool false)], args := [d1, d2] }
  | _ => none }
def HexfloatBackWrongFalsely : Prop := hexfloatBackRow.holds Tryd.pinned (OpenSpec.ofChange hexfloatBackWrong)

/-- 'gnomonlaw10.HexfloatPoint': WHATEVER THE INPUT: true; the input reads as it did. -/
def hexfloatPointSpec : ChangeSpec := { name := "hexfloatPoint", fn := fun _ => fun
  | [d1, d2, d3, d4] => { results := [.lit (.bool true)], args := [d1, d2, d3, d4] }
  | _ => none }
def hexfloatPointRow : OpenClaim := { program := "ytooehlneoboenaadoor", sum := "b5a31a8ba7c2e38fe6d97bc709bc48077bb452c2acd37e07a4df510680f58c31", func := "gnomon/gnomonlaw10.HexfloatPoint", spec := "hexfloatPoint", inPlace := ["internal/bytealg.IndexByteString", "math/bits.Add64"], unfollowed := true, recurses := true, named := ["math/bits.deBruijn64tab", "internal/strconv.uint64pow10", "math/bits.deBruijn32tab"], apart := false, laid := [("math/bits.deBruijn32tab", laid_math_bits_deBruijn32tab), ("math/bits.deBruijn64tab", laid_math_bits_deBruijn64tab), ("internal/strconv.uint64pow10", laid_internal_strconv_uint64pow10)] }
def HexfloatPointSaid : Prop := hexfloatPointRow.holds Tryd.pinned (OpenSpec.ofChange hexfloatPointSpec)

/-- ITS FALSE NEIGHBOUR: 'it returns false'. Refute it at one input. -/
def hexfloatPointWrong : ChangeSpec := { name := "hexfloatPoint", fn := fun _ => fun
  | [d1, d2, d3, d4] => { results := [.lit (.bool false)], args := [d1, d2, d3, d4] }
  | _ => none }
def HexfloatPointWrongFalsely : Prop := hexfloatPointRow.holds Tryd.pinned (OpenSpec.ofChange hexfloatPointWrong)

/-- 'gnomonlaw10.HexfloatSigns': WHATEVER THE INPUT: true; the input reads as it did. -/
def hexfloatSignsSpec : ChangeSpec := { name := "hexfloatSigns", fn := fun _ => fun
  | [d1, d2] => { results := [.lit (.bool true)], args := [d1, d2] }
  | _ => none }
def hexfloatSignsRow : OpenClaim := { program := "ytooehlneoboenaadoor", sum := "b5a31a8ba7c2e38fe6d97bc709bc48077bb452c2acd37e07a4df510680f58c31", func := "gnomon/gnomonlaw10.HexfloatSigns", spec := "hexfloatSigns", inPlace := ["internal/bytealg.IndexByteString", "math/bits.Add64"], unfollowed := true, recurses := true, named := ["math/bits.deBruijn64tab", "internal/strconv.uint64pow10", "math/bits.deBruijn32tab"], apart := false, laid := [("math/bits.deBruijn32tab", laid_math_bits_deBruijn32tab), ("math/bits.deBruijn64tab", laid_math_bits_deBruijn64tab), ("internal/strconv.uint64pow10", laid_internal_strconv_uint64pow10)] }
def HexfloatSignsSaid : Prop := hexfloatSignsRow.holds Tryd.pinned (OpenSpec.ofChange hexfloatSignsSpec)

/-- ITS FALSE NEIGHBOUR: 'it returns false'. Refute it at one input. -/
def hexfloatSignsWrong : ChangeSpec := { name := "hexfloatSigns", fn := fun _ => fun
  | [d1, d2] => { results := [.lit (.bool false)], args := [d1, d2] }
  | _ => none }
def HexfloatSignsWrongFalsely : Prop := hexfloatSignsRow.holds Tryd.pinned (OpenSpec.ofChange hexfloatSignsWrong)

/-- 'gnomonlaw10.HexfloatOrder': WHATEVER THE INPUT: true; the input reads as it did. -/
def hexfloatOrderSpec : ChangeSpec := { name := "hexfloatOrder", fn := fun _ => fun
  | [d1, d2, d3, d4, d5] => { results := [.lit (.bool true)], args := [d1, d2, d3, d4, d5] }
  | _ => none }
def hexfloatOrderRow : OpenClaim := { program := "ytooehlneoboenaadoor", sum := "b5a31a8ba7c2e38fe6d97bc709bc48077bb452c2acd37e07a4df510680f58c31", func := "gnomon/gnomonlaw10.HexfloatOrder", spec := "hexfloatOrder", inPlace := ["internal/bytealg.IndexByteString", "math/bits.Add64"], unfollowed := true, recurses := true, named := ["math/bits.deBruijn64tab", "internal/strconv.uint64pow10", "math/bits.deBruijn32tab"], apart := false, laid := [("math/bits.deBruijn32tab", laid_math_bits_deBruijn32tab), ("math/bits.deBruijn64tab", laid_math_bits_deBruijn64tab), ("internal/strconv.uint64pow10", laid_internal_strconv_uint64pow10)] }
def HexfloatOrderSaid : Prop := hexfloatOrderRow.holds Tryd.pinned (OpenSpec.ofChange hexfloatOrderSpec)

/-- ITS FALSE NEIGHBOUR: 'it returns false'. Refute it at one input. -/
def hexfloatOrderWrong : ChangeSpec := { name := "hexfloatOrder", fn := fun _ => fun
  | [d1, d2, d3, d4, d5] => { results := [.lit (.bool false)], args := [d1, d2, d3, d4, d5] }
  | _ => none }
def HexfloatOrderWrongFalsely : Prop := hexfloatOrderRow.holds Tryd.pinned (OpenSpec.ofChange hexfloatOrderWrong)

/-- 'gnomonlaw10.HexfloatStrange': WHATEVER THE INPUT: true; the input reads as it did. -/
def hexfloatStrangeSpec : ChangeSpec := { name := "hexfloatStrange", fn := fun _ => fun
  | [d1, d2, d3, d4] => { results := [.lit (.bool true)], args := [d1, d2, d3, d4] }
  | _ => none }
def hexfloatStrangeRow : OpenClaim := { program := "ytooehlneoboenaadoor", sum := "b5a31a8ba7c2e38fe6d97bc709bc48077bb452c2acd37e07a4df510680f58c31", func := "gnomon/gnomonlaw10.HexfloatStrange", spec := "hexfloatStrange", inPlace := ["internal/bytealg.IndexByteString", "math/bits.Add64"], unfollowed := true, recurses := true, named := ["math/bits.deBruijn64tab", "internal/strconv.uint64pow10", "math/bits.deBruijn32tab"], apart := false, laid := [("math/bits.deBruijn32tab", laid_math_bits_deBruijn32tab), ("math/bits.deBruijn64tab", laid_math_bits_deBruijn64tab), ("internal/strconv.uint64pow10", laid_internal_strconv_uint64pow10)] }
def HexfloatStrangeSaid : Prop := hexfloatStrangeRow.holds Tryd.pinned (OpenSpec.ofChange hexfloatStrangeSpec)

/-- ITS FALSE NEIGHBOUR: 'it returns false'. Refute it at one input. -/
def hexfloatStrangeWrong : ChangeSpec := { name := "hexfloatStrange", fn := fun _ => fun
  | [d1, d2, d3, d4] => { results := [.lit (.bool false)], args := [d1, d2, d3, d4] }
  | _ => none }
def HexfloatStrangeWrongFalsely : Prop := hexfloatStrangeRow.holds Tryd.pinned (OpenSpec.ofChange hexfloatStrangeWrong)

/-- 'gnomonlaw10.HexfloatJoins': WHATEVER THE INPUT: true; the input reads as it did. -/
def hexfloatJoinsSpec : ChangeSpec := { name := "hexfloatJoins", fn := fun _ => fun
  | [d1, d2, d3, d4] => { results := [.lit (.bool true)], args := [d1, d2, d3, d4] }
  | _ => none }
def hexfloatJoinsRow : OpenClaim := { program := "ytooehlneoboenaadoor", sum := "b5a31a8ba7c2e38fe6d97bc709bc48077bb452c2acd37e07a4df510680f58c31", func := "gnomon/gnomonlaw10.HexfloatJoins", spec := "hexfloatJoins", inPlace := ["internal/bytealg.IndexByteString", "math/bits.Add64"], unfollowed := true, recurses := true, named := ["math/bits.deBruijn64tab", "internal/strconv.uint64pow10", "math/bits.deBruijn32tab"], apart := false, laid := [("math/bits.deBruijn32tab", laid_math_bits_deBruijn32tab), ("math/bits.deBruijn64tab", laid_math_bits_deBruijn64tab), ("internal/strconv.uint64pow10", laid_internal_strconv_uint64pow10)] }
def HexfloatJoinsSaid : Prop := hexfloatJoinsRow.holds Tryd.pinned (OpenSpec.ofChange hexfloatJoinsSpec)

/-- ITS FALSE NEIGHBOUR: 'it returns false'. Refute it at one input. -/
def hexfloatJoinsWrong : ChangeSpec := { name := "hexfloatJoins", fn := fun _ => fun
  | [d1, d2, d3, d4] => { results := [.lit (.bool false)], args := [d1, d2, d3, d4] }
  | _ => none }
def HexfloatJoinsWrongFalsely : Prop := hexfloatJoinsRow.holds Tryd.pinned (OpenSpec.ofChange hexfloatJoinsWrong)

/-- 'gnomonlaw10.HexfloatWide': WHATEVER THE INPUT: true; the input reads as it did. -/
def hexfloatWideSpec : ChangeSpec := { name := "hexfloatWide", fn := fun _ => fun
  | [d1, d2] => { results := [.lit (.bool true)], args := [d1, d2] }
  | _ => none }
def hexfloatWideRow : OpenClaim := { program := "ytooehlneoboenaadoor", sum := "b5a31a8ba7c2e38fe6d97bc709bc48077bb452c2acd37e07a4df510680f58c31", func := "gnomon/gnomonlaw10.HexfloatWide", spec := "hexfloatWide", inPlace := ["internal/bytealg.IndexByteString", "math/bits.Add64"], unfollowed := true, recurses := true, named := ["math/bits.deBruijn64tab", "internal/strconv.uint64pow10", "math/bits.deBruijn32tab"], apart := false, laid := [("math/bits.deBruijn32tab", laid_math_bits_deBruijn32tab), ("math/bits.deBruijn64tab", laid_math_bits_deBruijn64tab), ("internal/strconv.uint64pow10", laid_internal_strconv_uint64pow10)] }
def HexfloatWideSaid : Prop := hexfloatWideRow.holds Tryd.pinned (OpenSpec.ofChange hexfloatWideSpec)

/-- ITS FALSE NEIGHBOUR: 'it returns false'. Refute it at one input. -/
def hexfloatWideWrong : ChangeSpec := { name := "hexfloatWide", fn := fun _ => fun
  | [d1, d2] => { results := [.lit (.bool false)], args := [d1, d2] }
  | _ => none }
def HexfloatWideWrongFalsely : Prop := hexfloatWideRow.holds Tryd.pinned (OpenSpec.ofChange hexfloatWideWrong)

/- THE SECOND FORM. 'bulk': how many values and letters a reading holds, each counted each time it is reached (what is shared counts as often as it is met; a slice's spare places count too). A statement '..UptoSaid' is the law's where the arguments, and the package variables that the reading takes, are together of bulk at most 1048576: NARROWER than '..Said'. Prove '..Said' where nothing that the law and all that it calls make is longer than what came in: it says more and counts as full. Else prove '..UptoSaid'. A law counts once. -/
mutual
def uptoBulk {H : Type} : DataW H → Nat
  | .lit (.string bytes) => bytes.length + 1
  | .lit _ => 1
  | .nil => 1
  | .ptr d => uptoBulk d + 1
  | .slice elems spare => uptoBulkAll elems + uptoBulkAll spare + 1
  | .agg parts => uptoBulkAll parts + 1
  | .iface _ d => uptoBulk d + 1
  | .map entries => uptoBulkEntries entries + 1
  | .held _ => 1
def uptoBulkAll {H : Type} : List (DataW H) → Nat
  | [] => 0
  | d :: r => uptoBulk d + uptoBulkAll r
def uptoBulkEntries {H : Type} : List (Lit × DataW H) → Nat
  | [] => 0
  | x :: r => uptoBulkEntry x + uptoBulkEntries r
def uptoBulkEntry {H : Type} : Lit × DataW H → Nat
  | (.string bytes, d) => bytes.length + uptoBulk d + 1
  | (_, d) => uptoBulk d + 1
 end
def uptoSmall : (H : Type) → List (DataW H) → Bool := fun _ ds => decide (uptoBulkAll ds ≤ 1048576)
def OpenSpec.upto (s : _root_.Go.ChangeSpec) : _root_.Go.OpenSpec := { _root_.Go.OpenSpec.ofChange s with cond := some uptoSmall }

/-- 'gnomonlaw10.HexfloatBack', WHERE WHAT IT READS IS OF BULK AT MOST 1048576: true; the input reads as it did. -/
def hexfloatBackUptoRow : OpenClaim := { program := "ytooehlneoboenaadoor", sum := "b5a31a8ba7c2e38fe6d97bc709bc48077bb452c2acd37e07a4df510680f58c31", func := "gnomon/gnomonlaw10.HexfloatBack", spec := "hexfloatBack", inPlace := ["internal/bytealg.IndexByteString", "math/bits.Add64"], unfollowed := true, recurses := true, named := ["math/bits.deBruijn64tab", "internal/strconv.uint64pow10", "math/bits.deBruijn32tab"], apart := false, laid := [("math/bits.deBruijn32tab", laid_math_bits_deBruijn32tab), ("math/bits.deBruijn64tab", laid_math_bits_deBruijn64tab), ("internal/strconv.uint64pow10", laid_internal_strconv_uint64pow10)], narrowed := true }
def HexfloatBackUptoSaid : Prop := hexfloatBackUptoRow.holds Tryd.pinned (OpenSpec.upto hexfloatBackSpec)

/-- 'gnomonlaw10.HexfloatPoint', WHERE WHAT IT READS IS OF BULK AT MOST 1048576: true; the input reads as it did. -/
def hexfloatPointUptoRow : OpenClaim := { program := "ytooehlneoboenaadoor", sum := "b5a31a8ba7c2e38fe6d97bc709bc48077bb452c2acd37e07a4df510680f58c31", func := "gnomon/gnomonlaw10.HexfloatPoint", spec := "hexfloatPoint", inPlace := ["internal/bytealg.IndexByteString", "math/bits.Add64"], unfollowed := true, recurses := true, named := ["math/bits.deBruijn64tab", "internal/strconv.uint64pow10", "math/bits.deBruijn32tab"], apart := false, laid := [("math/bits.deBruijn32tab", laid_math_bits_deBruijn32tab), ("math/bits.deBruijn64tab", laid_math_bits_deBruijn64tab), ("internal/strconv.uint64pow10", laid_internal_strconv_uint64pow10)], narrowed := true }
def HexfloatPointUptoSaid : Prop := hexfloatPointUptoRow.holds Tryd.pinned (OpenSpec.upto hexfloatPointSpec)

/-- 'gnomonlaw10.HexfloatSigns', WHERE WHAT IT READS IS OF BULK AT MOST 1048576: true; the input reads as it did. -/
def hexfloatSignsUptoRow : OpenClaim := { program := "ytooehlneoboenaadoor", sum := "b5a31a8ba7c2e38fe6d97bc709bc48077bb452c2acd37e07a4df510680f58c31", func := "gnomon/gnomonlaw10.HexfloatSigns", spec := "hexfloatSigns", inPlace := ["internal/bytealg.IndexByteString", "math/bits.Add64"], unfollowed := true, recurses := true, named := ["math/bits.deBruijn64tab", "internal/strconv.uint64pow10", "math/bits.deBruijn32tab"], apart := false, laid := [("math/bits.deBruijn32tab", laid_math_bits_deBruijn32tab), ("math/bits.deBruijn64tab", laid_math_bits_deBruijn64tab), ("internal/strconv.uint64pow10", laid_internal_strconv_uint64pow10)], narrowed := true }
def HexfloatSignsUptoSaid : Prop := hexfloatSignsUptoRow.holds Tryd.pinned (OpenSpec.upto hexfloatSignsSpec)

/-- 'gnomonlaw10.HexfloatOrder', WHERE WHAT IT READS IS OF BULK AT MOST 1048576: true; the input reads as it did. -/
def hexfloatOrderUptoRow : OpenClaim := { program := "ytooehlneoboenaadoor", sum := "b5a31a8ba7c2e38fe6d97bc709bc48077bb452c2acd37e07a4df510680f58c31", func := "gnomon/gnomonlaw10.HexfloatOrder", spec := "hexfloatOrder", inPlace := ["internal/bytealg.IndexByteString", "math/bits.Add64"], unfollowed := true, recurses := true, named := ["math/bits.deBruijn64tab", "internal/strconv.uint64pow10", "math/bits.deBruijn32tab"], apart := false, laid := [("math/bits.deBruijn32tab", laid_math_bits_deBruijn32tab), ("math/bits.deBruijn64tab", laid_math_bits_deBruijn64tab), ("internal/strconv.uint64pow10", laid_internal_strconv_uint64pow10)], narrowed := true }
def HexfloatOrderUptoSaid : Prop := hexfloatOrderUptoRow.holds Tryd.pinned (OpenSpec.upto hexfloatOrderSpec)

/-- 'gnomonlaw10.HexfloatStrange', WHERE WHAT IT READS IS OF BULK AT MOST 1048576: true; the input reads as it did. -/
def hexfloatStrangeUptoRow : OpenClaim := { program := "ytooehlneoboenaadoor", sum := "b5a31a8ba7c2e38fe6d97bc709bc48077bb452c2acd37e07a4df510680f58c31", func := "gnomon/gnomonlaw10.HexfloatStrange", spec := "hexfloatStrange", inPlace := ["internal/bytealg.IndexByteString", "math/bits.Add64"], unfollowed := true, recurses := true, named := ["math/bits.deBruijn64tab", "internal/strconv.uint64pow10", "math/bits.deBruijn32tab"], apart := false, laid := [("math/bits.deBruijn32tab", laid_math_bits_deBruijn32tab), ("math/bits.deBruijn64tab", laid_math_bits_deBruijn64tab), ("internal/strconv.uint64pow10", laid_internal_strconv_uint64pow10)], narrowed := true }
def HexfloatStrangeUptoSaid : Prop := hexfloatStrangeUptoRow.holds Tryd.pinned (OpenSpec.upto hexfloatStrangeSpec)

/-- 'gnomonlaw10.HexfloatJoins', WHERE WHAT IT READS IS OF BULK AT MOST 1048576: true; the input reads as it did. -/
def hexfloatJoinsUptoRow : OpenClaim := { program := "ytooehlneoboenaadoor", sum := "b5a31a8ba7c2e38fe6d97bc709bc48077bb452c2acd37e07a4df510680f58c31", func := "gnomon/gnomonlaw10.HexfloatJoins", spec := "hexfloatJoins", inPlace := ["internal/bytealg.IndexByteString", "math/bits.Add64"], unfollowed := true, recurses := true, named := ["math/bits.deBruijn64tab", "internal/strconv.uint64pow10", "math/bits.deBruijn32tab"], apart := false, laid := [("math/bits.deBruijn32tab", laid_math_bits_deBruijn32tab), ("math/bits.deBruijn64tab", laid_math_bits_deBruijn64tab), ("internal/strconv.uint64pow10", laid_internal_strconv_uint64pow10)], narrowed := true }
def HexfloatJoinsUptoSaid : Prop := hexfloatJoinsUptoRow.holds Tryd.pinned (OpenSpec.upto hexfloatJoinsSpec)

/-- 'gnomonlaw10.HexfloatWide', WHERE WHAT IT READS IS OF BULK AT MOST 1048576: true; the input reads as it did. -/
def hexfloatWideUptoRow : OpenClaim := { program := "ytooehlneoboenaadoor", sum := "b5a31a8ba7c2e38fe6d97bc709bc48077bb452c2acd37e07a4df510680f58c31", func := "gnomon/gnomonlaw10.HexfloatWide", spec := "hexfloatWide", inPlace := ["internal/bytealg.IndexByteString", "math/bits.Add64"], unfollowed := true, recurses := true, named := ["math/bits.deBruijn64tab", "internal/strconv.uint64pow10", "math/bits.deBruijn32tab"], apart := false, laid := [("math/bits.deBruijn32tab", laid_math_bits_deBruijn32tab), ("math/bits.deBruijn64tab", laid_math_bits_deBruijn64tab), ("internal/strconv.uint64pow10", laid_internal_strconv_uint64pow10)], narrowed := true }
def HexfloatWideUptoSaid : Prop := hexfloatWideUptoRow.holds Tryd.pinned (OpenSpec.upto hexfloatWideSpec)

end Rows
end Go.Proofs.YtooehlneoboenaaDoor
