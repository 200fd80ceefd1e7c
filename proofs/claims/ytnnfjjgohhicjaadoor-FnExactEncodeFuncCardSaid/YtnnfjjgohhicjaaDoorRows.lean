/-
  NARROWER THAN 'FOR EVERY INPUT', by the rows' own cells (each row's printed sentence says how): FnExactValidMach: laid · FnExactValidFunc: laid · FnExactEncodeMach: laid · FnExactRunMach: laid · FnExactEncodeFunc: laid · FnExactRunFunc: laid.
  DERIVED. THE GIVEN ROWS OF THIS SEAT. 6 by the template 'for every input the law returns true; each argument reads behind the call as it read before'; 0 by the template 'total and deterministic' (their statements: YtnnfjjgohhicjaaDoorTotals.lean).
  GIVEN WITH THE SEED: the statements are not yours to turn. If you find one false, say at which input.
  Laid BY PROGRAM, IN A SANDBOX (cutbox-rows.mjs): the forced cells as the released guide's own fill.sh prints them over the translation 6629f49ba11c7105… (all of the seat's roots in one cut). By AI agents, Wed Nov 11 2026. No macro, syntax, notation, axiom, sorry.
-/
import Derived.Test.YtnnfjjgohhicjaaDoorChecked
import GoSem.Claim
import GoSem.ClaimJoined
import GoSem.ClaimMapViews
import Derived.JoinedTies
import Derived.KernelRfl
namespace Go.Proofs.YtnnfjjgohhicjaaDoor
/- THE CELL 'sum', in the pinned program and in every row, IS THE sha256 OF THE DUMP (.gsa) THAT YtnnfjjgohhicjaaDoorProg.lean LOADS. Nothing in Lean hashes anything: it is a label: what it is worth is what the hold of that sum in a sandbox is worth. -/
noncomputable def Tryd.pinned : Pinned := { name := "ytnnfjjgohhicjaadoor", sum := "6629f49ba11c7105ce875d7942c6328bda29480278a577c520872ae95de1823d", checked := Tryd.checked }
namespace Rows
def none {H : Type} : Left H := { results := [], args := [] }

/- WHAT THE LISTED PACKAGE-LEVEL VARIABLES READ AS WHEN THE CALL BEGINS. Each datum BY PROGRAM (the guide's laid-datum.mjs) off the statement by which the dump's own 'gosem.cut.vars' lays the variable. In a bare row this is a premise. The card (YtnnfjjgohhicjaaDoorCards.lean) ties it to the program's text. -/
def laid_loop_example_s0031_impl_shapes {H : Type} : DataW H := .agg [.agg [.lit (.bool false), .lit (.bool false), .lit (.bool false), .lit (.bool false)], .agg [.lit (.bool true), .lit (.bool false), .lit (.bool false), .lit (.bool true)], .agg [.lit (.bool true), .lit (.bool false), .lit (.bool false), .lit (.bool true)], .agg [.lit (.bool true), .lit (.bool true), .lit (.bool true), .lit (.bool false)], .agg [.lit (.bool true), .lit (.bool true), .lit (.bool true), .lit (.bool false)], .agg [.lit (.bool true), .lit (.bool true), .lit (.bool true), .lit (.bool false)], .agg [.lit (.bool true), .lit (.bool true), .lit (.bool true), .lit (.bool false)], .agg [.lit (.bool true), .lit (.bool true), .lit (.bool true), .lit (.bool false)], .agg [.lit (.bool true), .lit (.bool true), .lit (.bool false), .lit (.bool false)], .agg [.lit (.bool false), .lit (.bool true), .lit (.bool true), .lit (.bool false)], .agg [.lit (.bool false), .lit (.bool true), .lit (.bool false), .lit (.bool false)], .agg [.lit (.bool true), .lit (.bool true), .lit (.bool false), .lit (.bool false)], .agg [.lit (.bool false), .lit (.bool true), .lit (.bool false), .lit (.bool false)], .agg [.lit (.bool true), .lit (.bool false), .lit (.bool false), .lit (.bool false)]]
def laid_math_bits_deBruijn32tab {H : Type} : DataW H := .agg [.lit (.int .u8 0), .lit (.int .u8 1), .lit (.int .u8 28), .lit (.int .u8 2), .lit (.int .u8 29), .lit (.int .u8 14), .lit (.int .u8 24), .lit (.int .u8 3), .lit (.int .u8 30), .lit (.int .u8 22), .lit (.int .u8 20), .lit (.int .u8 15), .lit (.int .u8 25), .lit (.int .u8 17), .lit (.int .u8 4), .lit (.int .u8 8), .lit (.int .u8 31), .lit (.int .u8 27), .lit (.int .u8 13), .lit (.int .u8 23), .lit (.int .u8 21), .lit (.int .u8 19), .lit (.int .u8 16), .lit (.int .u8 7), .lit (.int .u8 26), .lit (.int .u8 12), .lit (.int .u8 18), .lit (.int .u8 6), .lit (.int .u8 11), .lit (.int .u8 5), .lit (.int .u8 10), .lit (.int .u8 9)]
def laid_math_bits_deBruijn64tab {H : Type} : DataW H := .agg [.lit (.int .u8 0), .lit (.int .u8 1), .lit (.int .u8 56), .lit (.int .u8 2), .lit (.int .u8 57), .lit (.int .u8 49), .lit (.int .u8 28), .lit (.int .u8 3), .lit (.int .u8 61), .lit (.int .u8 58), .lit (.int .u8 42), .lit (.int .u8 50), .lit (.int .u8 38), .lit (.int .u8 29), .lit (.int .u8 17), .lit (.int .u8 4), .lit (.int .u8 62), .lit (.int .u8 47), .lit (.int .u8 59), .lit (.int .u8 36), .lit (.int .u8 45), .lit (.int .u8 43), .lit (.int .u8 51), .lit (.int .u8 22), .lit (.int .u8 53), .lit (.int .u8 39), .lit (.int .u8 33), .lit (.int .u8 30), .lit (.int .u8 24), .lit (.int .u8 18), .lit (.int .u8 12), .lit (.int .u8 5), .lit (.int .u8 63), .lit (.int .u8 55), .lit (.int .u8 48), .lit (.int .u8 27), .lit (.int .u8 60), .lit (.int .u8 41), .lit (.int .u8 37), .lit (.int .u8 16), .lit (.int .u8 46), .lit (.int .u8 35), .lit (.int .u8 44), .lit (.int .u8 21), .lit (.int .u8 52), .lit (.int .u8 32), .lit (.int .u8 23), .lit (.int .u8 11), .lit (.int .u8 54), .lit (.int .u8 26), .lit (.int .u8 40), .lit (.int .u8 15), .lit (.int .u8 34), .lit (.int .u8 20), .lit (.int .u8 31), .lit (.int .u8 10), .lit (.int .u8 25), .lit (.int .u8 14), .lit (.int .u8 19), .lit (.int .u8 9), .lit (.int .u8 13), .lit (.int .u8 8), .lit (.int .u8 7), .lit (.int .u8 6)]
def laid_internal_strconv_uint64pow10 {H : Type} : DataW H := .agg [.lit (.int .u64 1), .lit (.int .u64 10), .lit (.int .u64 100), .lit (.int .u64 1000), .lit (.int .u64 10000), .lit (.int .u64 100000), .lit (.int .u64 1000000), .lit (.int .u64 10000000), .lit (.int .u64 100000000), .lit (.int .u64 1000000000), .lit (.int .u64 10000000000), .lit (.int .u64 100000000000), .lit (.int .u64 1000000000000), .lit (.int .u64 10000000000000), .lit (.int .u64 100000000000000), .lit (.int .u64 1000000000000000), .lit (.int .u64 10000000000000000), .lit (.int .u64 100000000000000000), .lit (.int .u64 1000000000000000000), .lit (.int .u64 10000000000000000000)]
def laid_loop_example_s0031_impl_opNames {H : Type} : DataW H := .agg [.lit (.string []), .lit (.string [99, 111, 110, 115, 116]), .lit (.string [97, 114, 103]), .lit (.string [97, 100, 100]), .lit (.string [115, 117, 98]), .lit (.string [109, 117, 108]), .lit (.string [100, 105, 118]), .lit (.string [108, 101, 115, 115]), .lit (.string [108, 111, 97, 100]), .lit (.string [115, 116, 111, 114, 101]), .lit (.string [111, 117, 116]), .lit (.string [109, 111, 118, 101]), .lit (.string [112, 117, 116]), .lit (.string [103, 101, 116])]

/-- 'laws.FnExactValidMach': WHATEVER THE INPUT: true; the input reads as it did. -/
def fnExactValidMachSpec : ChangeSpec := { name := "fnExactValidMach", vars := ["loop.example/s0031/impl.shapes"], fn := fun _ => fun
  | [d, g1] => { results := [.lit (.bool true)], args := [d], vars := [g1] }
  | _ => none }
def fnExactValidMachRow : OpenClaim := { program := "ytnnfjjgohhicjaadoor", sum := "6629f49ba11c7105ce875d7942c6328bda29480278a577c520872ae95de1823d", func := "loop.example/s0031/laws.FnExactValidMach", spec := "fnExactValidMach", named := ["loop.example/s0031/impl.shapes"], apart := false, laid := [("loop.example/s0031/impl.shapes", laid_loop_example_s0031_impl_shapes)] }
def FnExactValidMachSaid : Prop := fnExactValidMachRow.holds Tryd.pinned (OpenSpec.ofChange fnExactValidMachSpec)

/-- ITS FALSE NEIGHBOUR: 'it returns false'. Refute it at one input. -/
def fnExactValidMachWrong : ChangeSpec := { name := "fnExactValidMach", vars := ["loop.example/s0031/impl.shapes"], fn := fun _ => fun
  | [d, g1] => { results := [.lit (.bool false)], args := [d], vars := [g1] }
  | _ => none }
def FnExactValidMachWrongFalsely : Prop := fnExactValidMachRow.holds Tryd.pinned (OpenSpec.ofChange fnExactValidMachWrong)

/-- 'laws.FnExactValidFunc': WHATEVER THE INPUT: true; the input reads as it did. -/
def fnExactValidFuncSpec : ChangeSpec := { name := "fnExactValidFunc", vars := ["loop.example/s0031/impl.shapes"], fn := fun _ => fun
  | [d, g1] => { results := [.lit (.bool true)], args := [d], vars := [g1] }
  | _ => none }
def fnExactValidFuncRow : OpenClaim := { program := "ytnnfjjgohhicjaadoor", sum := "6629f49ba11c7105ce875d7942c6328bda29480278a577c520872ae95de1823d", func := "loop.example/s0031/laws.FnExactValidFunc", spec := "fnExactValidFunc", named := ["loop.example/s0031/impl.shapes"], apart := false, laid := [("loop.example/s0031/impl.shapes", laid_loop_example_s0031_impl_shapes)] }
def FnExactValidFuncSaid : Prop := fnExactValidFuncRow.holds Tryd.pinned (OpenSpec.ofChange fnExactValidFuncSpec)

/-- ITS FALSE NEIGHBOUR: 'it returns false'. Refute it at one input. -/
def fnExactValidFuncWrong : ChangeSpec := { name := "fnExactValidFunc", vars := ["loop.example/s0031/impl.shapes"], fn := fun _ => fun
  | [d, g1] => { results := [.lit (.bool false)], args := [d], vars := [g1] }
  | _ => none }
def FnExactValidFuncWrongFalsely : Prop := fnExactValidFuncRow.holds Tryd.pinned (OpenSpec.ofChange fnExactValidFuncWrong)

/-- 'laws.FnExactEncodeMach': WHATEVER THE INPUT: true; the input reads as it did. -/
def fnExactEncodeMachSpec : ChangeSpec := { name := "fnExactEncodeMach", vars := ["loop.example/s0031/impl.shapes", "loop.example/s0031/impl.opNames"], fn := fun _ => fun
  | [d, g1, g2] => { results := [.lit (.bool true)], args := [d], vars := [g1, g2] }
  | _ => none }
def fnExactEncodeMachRow : OpenClaim := { program := "ytnnfjjgohhicjaadoor", sum := "6629f49ba11c7105ce875d7942c6328bda29480278a577c520872ae95de1823d", func := "loop.example/s0031/laws.FnExactEncodeMach", spec := "fnExactEncodeMach", inPlace := ["internal/abi.NoEscape"], recurses := true, named := ["loop.example/s0031/impl.shapes", "internal/strconv.uint64pow10", "math/bits.deBruijn32tab", "math/bits.deBruijn64tab", "loop.example/s0031/impl.opNames"], apart := false, laid := [("math/bits.deBruijn32tab", laid_math_bits_deBruijn32tab), ("math/bits.deBruijn64tab", laid_math_bits_deBruijn64tab), ("internal/strconv.uint64pow10", laid_internal_strconv_uint64pow10), ("loop.example/s0031/impl.shapes", laid_loop_example_s0031_impl_shapes), ("loop.example/s0031/impl.opNames", laid_loop_example_s0031_impl_opNames)] }
def FnExactEncodeMachSaid : Prop := fnExactEncodeMachRow.holds Tryd.pinned (OpenSpec.ofChange fnExactEncodeMachSpec)

/-- ITS FALSE NEIGHBOUR: 'it returns false'. Refute it at one input. -/
def fnExactEncodeMachWrong : ChangeSpec := { name := "fnExactEncodeMach", vars := ["loop.example/s0031/impl.shapes", "loop.example/s0031/impl.opNames"], fn := fun _ => fun
  | [d, g1, g2] => { results := [.lit (.bool false)], args := [d], vars := [g1, g2] }
  | _ => none }
def FnExactEncodeMachWrongFalsely : Prop := fnExactEncodeMachRow.holds Tryd.pinned (OpenSpec.ofChange fnExactEncodeMachWrong)

/-- 'laws.FnExactRunMach': WHATEVER THE INPUT: true; the input reads as it did. -/
def fnExactRunMachSpec : ChangeSpec := { name := "fnExactRunMach", vars := ["loop.example/s0031/impl.shapes"], fn := fun _ => fun
  | [d1, d2, d3, d4, g1] => { results := [.lit (.bool true)], args := [d1, d2, d3, d4], vars := [g1] }
  | _ => none }
def fnExactRunMachRow : OpenClaim := { program := "ytnnfjjgohhicjaadoor", sum := "6629f49ba11c7105ce875d7942c6328bda29480278a577c520872ae95de1823d", func := "loop.example/s0031/laws.FnExactRunMach", spec := "fnExactRunMach", unfollowed := true, recurses := true, named := ["loop.example/s0031/impl.shapes"], apart := false, laid := [("loop.example/s0031/impl.shapes", laid_loop_example_s0031_impl_shapes)] }
def FnExactRunMachSaid : Prop := fnExactRunMachRow.holds Tryd.pinned (OpenSpec.ofChange fnExactRunMachSpec)

/-- ITS FALSE NEIGHBOUR: 'it returns false'. Refute it at one input. -/
def fnExactRunMachWrong : ChangeSpec := { name := "fnExactRunMach", vars := ["loop.example/s0031/impl.shapes"], fn := fun _ => fun
  | [d1, d2, d3, d4, g1] => { results := [.lit (.bool false)], args := [d1, d2, d3, d4], vars := [g1] }
  | _ => none }
def FnExactRunMachWrongFalsely : Prop := fnExactRunMachRow.holds Tryd.pinned (OpenSpec.ofChange fnExactRunMachWrong)

/-- 'laws.FnExactEncodeFunc': WHATEVER THE INPUT: true; the input reads as it did. -/
def fnExactEncodeFuncSpec : ChangeSpec := { name := "fnExactEncodeFunc", vars := ["loop.example/s0031/impl.shapes", "loop.example/s0031/impl.opNames"], fn := fun _ => fun
  | [d, g1, g2] => { results := [.lit (.bool true)], args := [d], vars := [g1, g2] }
  | _ => none }
def fnExactEncodeFuncRow : OpenClaim := { program := "ytnnfjjgohhicjaadoor", sum := "6629f49ba11c7105ce875d7942c6328bda29480278a577c520872ae95de1823d", func := "loop.example/s0031/laws.FnExactEncodeFunc", spec := "fnExactEncodeFunc", inPlace := ["internal/abi.NoEscape"], recurses := true, named := ["loop.example/s0031/impl.shapes", "internal/strconv.uint64pow10", "math/bits.deBruijn32tab", "math/bits.deBruijn64tab", "loop.example/s0031/impl.opNames"], apart := false, laid := [("math/bits.deBruijn32tab", laid_math_bits_deBruijn32tab), ("math/bits.deBruijn64tab", laid_math_bits_deBruijn64tab), ("internal/strconv.uint64pow10", laid_internal_strconv_uint64pow10), ("loop.example/s0031/impl.shapes", laid_loop_example_s0031_impl_shapes), ("loop.example/s0031/impl.opNames", laid_loop_example_s0031_impl_opNames)] }
def FnExactEncodeFuncSaid : Prop := fnExactEncodeFuncRow.holds Tryd.pinned (OpenSpec.ofChange fnExactEncodeFuncSpec)

/-- ITS FALSE NEIGHBOUR: 'it returns false'. Refute it at one input. -/
def fnExactEncodeFuncWrong : ChangeSpec := { name := "fnExactEncodeFunc", vars := ["loop.example/s0031/impl.shapes", "loop.example/s0031/impl.opNames"], fn := fun _ => fun
  | [d, g1, g2] => { results := [.lit (.bool false)], args := [d], vars := [g1, g2] }
  | _ => none }
def FnExactEncodeFuncWrongFalsely : Prop := fnExactEncodeFuncRow.holds Tryd.pinned (OpenSpec.ofChange fnExactEncodeFuncWrong)

/-- 'laws.FnExactRunFunc': WHATEVER THE INPUT: true; the input reads as it did. -/
def fnExactRunFuncSpec : ChangeSpec := { name := "fnExactRunFunc", vars := ["loop.example/s0031/impl.shapes"], fn := fun _ => fun
  | [d1, d2, d3, d4, g1] => { results := [.lit (.bool true)], args := [d1, d2, d3, d4], vars := [g1] }
  | _ => none }
def fnExactRunFuncRow : OpenClaim := { program := "ytnnfjjgohhicjaadoor", sum := "6629f49ba11c7105ce875d7942c6328bda29480278a577c520872ae95de1823d", func := "loop.example/s0031/laws.FnExactRunFunc", spec := "fnExactRunFunc", unfollowed := true, recurses := true, named := ["loop.example/s0031/impl.shapes"], apart := false, laid := [("loop.example/s0031/impl.shapes", laid_loop_example_s0031_impl_shapes)] }
def FnExactRunFuncSaid : Prop := fnExactRunFuncRow.holds Tryd.pinned (OpenSpec.ofChange fnExactRunFuncSpec)

/-- ITS FALSE NEIGHBOUR: 'it returns false'. Refute it at one input. -/
def fnExactRunFuncWrong : ChangeSpec := { name := "fnExactRunFunc", vars := ["loop.example/s0031/impl.shapes"], fn := fun _ => fun
  | [d1, d2, d3, d4, g1] => { results := [.lit (.bool false)], args := [d1, d2, d3, d4], vars := [g1] }
  | _ => none }
def FnExactRunFuncWrongFalsely : Prop := fnExactRunFuncRow.holds Tryd.pinned (OpenSpec.ofChange fnExactRunFuncWrong)

/- THE SECOND FORM. 'bulk': how many values and letters a reading holds, each counted each time it is reached (what is shared counts as often as it is met; a slice's spare places count too). A statement '..UptoSaid' is the law's where the arguments, and the package variables that the reading takes, are together of bulk at most 1048576: NARROWER than '..Said'. Prove '..Said' where nothing that the law and all that it calls make is longer than what came in: it says more and counts as full. Else prove '..UptoSaid'. A law counts once. -/
mutual
def uptoBulk {H : Type} : DataW H → Nat
  | .lit (.string bytes) => bytes.length + 1
  | .lit _ => 1
  | .nil => 1
  | .ptr d => uptoBulk d + 1
  | .slice elems spare => uptoBulkAll elems + uptoBulkAll spare + 1
  | .agg parts => uptoBulkAll parts + 1
  | .iface _ d => uptoBulk d + 1
  | .map entries => uptoBulkEntries entries + 1
  | .held _ => 1
def uptoBulkAll {H : Type} : List (DataW H) → Nat
  | [] => 0
  | d :: r => uptoBulk d + uptoBulkAll r
def uptoBulkEntries {H : Type} : List (Lit × DataW H) → Nat
  | [] => 0
  | x :: r => uptoBulkEntry x + uptoBulkEntries r
def uptoBulkEntry {H : Type} : Lit × DataW H → Nat
  | (.string bytes, d) => bytes.length + uptoBulk d + 1
  | (_, d) => uptoBulk d + 1
 end
def uptoSmall : (H : Type) → List (DataW H) → Bool := fun _ ds => decide (uptoBulkAll ds ≤ 1048576)
def OpenSpec.upto (s : _root_.Go.ChangeSpec) : _root_.Go.OpenSpec := { _root_.Go.OpenSpec.ofChange s with cond := some uptoSmall }

/-- 'laws.FnExactValidMach', WHERE WHAT IT READS IS OF BULK AT MOST 1048576: true; the input reads as it did. -/
def fnExactValidMachUptoRow : OpenClaim := { program := "ytnnfjjgohhicjaadoor", sum := "6629f49ba11c7105ce875d7942c6328bda29480278a577c520872ae95de1823d", func := "loop.example/s0031/laws.FnExactValidMach", spec := "fnExactValidMach", named := ["loop.example/s0031/impl.shapes"], apart := false, laid := [("loop.example/s0031/impl.shapes", laid_loop_example_s0031_impl_shapes)], narrowed := true }
def FnExactValidMachUptoSaid : Prop := fnExactValidMachUptoRow.holds Tryd.pinned (OpenSpec.upto fnExactValidMachSpec)

/-- 'laws.FnExactValidFunc', WHERE WHAT IT READS IS OF BULK AT MOST 1048576: true; the input reads as it did. -/
def fnExactValidFuncUptoRow : OpenClaim := { program := "ytnnfjjgohhicjaadoor", sum := "6629f49ba11c7105ce875d7942c6328bda29480278a577c520872ae95de1823d", func := "loop.example/s0031/laws.FnExactValidFunc", spec := "fnExactValidFunc", named := ["loop.example/s0031/impl.shapes"], apart := false, laid := [("loop.example/s0031/impl.shapes", laid_loop_example_s0031_impl_shapes)], narrowed := true }
def FnExactValidFuncUptoSaid : Prop := fnExactValidFuncUptoRow.holds Tryd.pinned (OpenSpec.upto fnExactValidFuncSpec)

/-- 'laws.FnExactEncodeMach', WHERE WHAT IT READS IS OF BULK AT MOST 1048576: true; the input reads as it did. -/
def fnExactEncodeMachUptoRow : OpenClaim := { program := "ytnnfjjgohhicjaadoor", sum := "6629f49ba11c7105ce875d7942c6328bda29480278a577c520872ae95de1823d", func := "loop.example/s0031/laws.FnExactEncodeMach", spec := "fnExactEncodeMach", inPlace := ["internal/abi.NoEscape"], recurses := true, named := ["loop.example/s0031/impl.shapes", "internal/strconv.uint64pow10", "math/bits.deBruijn32tab", "math/bits.deBruijn64tab", "loop.example/s0031/impl.opNames"], apart := false, laid := [("math/bits.deBruijn32tab", laid_math_bits_deBruijn32tab), ("math/bits.deBruijn64tab", laid_math_bits_deBruijn64tab), ("internal/strconv.uint64pow10", laid_internal_strconv_uint64pow10), ("loop.example/s0031/impl.shapes", laid_loop_example_s0031_impl_shapes), ("loop.example/s0031/impl.opNames", laid_loop_example_s0031_impl_opNames)], narrowed := true }
def FnExactEncodeMachUptoSaid : Prop := fnExactEncodeMachUptoRow.holds Tryd.pinned (OpenSpec.upto fnExactEncodeMachSpec)

/-- 'laws.FnExactRunMach', WHERE WHAT IT READS IS OF BULK AT MOST 1048576: true; the input reads as it did. -/
def fnExactRunMachUptoRow : OpenClaim := { program := "ytnnfjjgohhicjaadoor", sum := "6629f49ba11c7105ce875d7942c6328bda29480278a577c520872ae95de1823d", func := "loop.example/s0031/laws.FnExactRunMach", spec := "fnExactRunMach", unfollowed := true, recurses := true, named := ["loop.example/s0031/impl.shapes"], apart := false, laid := [("loop.example/s0031/impl.shapes", laid_loop_example_s0031_impl_shapes)], narrowed := true }
def FnExactRunMachUptoSaid : Prop := fnExactRunMachUptoRow.holds Tryd.pinned (OpenSpec.upto fnExactRunMachSpec)

/-- 'laws.FnExactEncodeFunc', WHERE WHAT IT READS IS OF BULK AT MOST 1048576: true; the input reads as it did. -/
def fnExactEncodeFuncUptoRow : OpenClaim := { program := "ytnnfjjgohhicjaadoor", sum := "6629f49ba11c7105ce875d7942c6328bda29480278a577c520872ae95de1823d", func := "loop.example/s0031/laws.FnExactEncodeFunc", spec := "fnExactEncodeFunc", inPlace := ["internal/abi.NoEscape"], recurses := true, named := ["loop.example/s0031/impl.shapes", "internal/strconv.uint64pow10", "math/bits.deBruijn32tab", "math/bits.deBruijn64tab", "loop.example/s0031/impl.opNames"], apart := false, laid := [("math/bits.deBruijn32tab", laid_math_bits_deBruijn32tab), ("math/bits.deBruijn64tab", laid_math_bits_deBruijn64tab), ("internal/strconv.uint64pow10", laid_internal_strconv_uint64pow10), ("loop.example/s0031/impl.shapes", laid_loop_example_s0031_impl_shapes), ("loop.example/s0031/impl.opNames", laid_loop_example_s0031_impl_opNames)], narrowed := true }
def FnExactEncodeFuncUptoSaid : Prop := fnExactEncodeFuncUptoRow.holds Tryd.pinned (OpenSpec.upto fnExactEncodeFuncSpec)

/-- 'laws.FnExactRunFunc', WHERE WHAT IT READS IS OF BULK AT MOST 1048576: true; the input reads as it did. -/
def fnExactRunFuncUptoRow : OpenClaim := { program := "ytnnfjjgohhicjaadoor", sum := "6629f49ba11c7105ce875d7942c6328bda29480278a577c520872ae95de1823d", func := "loop.example/s0031/laws.FnExactRunFunc", spec := "fnExactRunFunc", unfollowed := true, recurses := true, named := ["loop.example/s0031/impl.shapes"], apart := false, laid := [("loop.example/s0031/impl.shapes", laid_loop_example_s0031_impl_shapes)], narrowed := true }
def FnExactRunFuncUptoSaid : Prop := fnExactRunFuncUptoRow.holds Tryd.pinned (OpenSpec.upto fnExactRunFuncSpec)

end Rows
end Go.Proofs.YtnnfjjgohhicjaaDoor
