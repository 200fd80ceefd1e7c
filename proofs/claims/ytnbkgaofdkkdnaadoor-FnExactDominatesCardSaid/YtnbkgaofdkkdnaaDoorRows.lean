/-
  NARROWER THAN 'FOR EVERY INPUT', by the rows' own cells (each row's printed sentence says how): FnExactDominates: laid · FnExactAnalyze: laid · FnExactVerdict: laid · FnExactLiveness: laid.
  DERIVED. THE GIVEN ROWS OF THIS SEAT. 4 by the template 'for every input the law returns true; each argument reads behind the call as it read before'; 0 by the template 'total and deterministic' (their statements: YtnbkgaofdkkdnaaDoorTotals.lean).
  GIVEN WITH THE SEED: the statements are not yours to turn. If you find one false, say at which input.
  Laid BY PROGRAM, IN A SANDBOX (cutbox-rows.mjs): the forced cells as the released guide's own fill.sh prints them over the translation e1d4c2fb98d77b4e… (all of the seat's roots in one cut). By AI agents, Wed Nov 11 2026. No macro, syntax, notation, axiom, sorry.
-/
import Derived.Test.YtnbkgaofdkkdnaaDoorChecked
import GoSem.Claim
import GoSem.ClaimJoined
import GoSem.ClaimMapViews
import Derived.JoinedTies
import Derived.KernelRfl
namespace Go.Proofs.YtnbkgaofdkkdnaaDoor
/- THE CELL 'sum', in the pinned program and in every row, IS THE sha256 OF THE DUMP (.gsa) THAT YtnbkgaofdkkdnaaDoorProg.lean LOADS. Nothing in Lean hashes anything: it is a label: what it is worth is what the hold of that sum in a sandbox is worth. -/
noncomputable def Tryd.pinned : Pinned := { name := "ytnbkgaofdkkdnaadoor", sum := "e1d4c2fb98d77b4e88d949e68d668f7b0af52cbf62b8b956fd0a94773cd22f6f", checked := Tryd.checked }
namespace Rows
def none {H : Type} : Left H := { results := [], args := [] }

/- WHAT THE LISTED PACKAGE-LEVEL VARIABLES READ AS WHEN THE CALL BEGINS. Each datum BY PROGRAM (the guide's laid-datum.mjs) off the statement by which the dump's own 'gosem.cut.vars' lays the variable. In a bare row this is a premise. The card (YtnbkgaofdkkdnaaDoorCards.lean) ties it to the program's text. -/
def laid_loop_example_s0031_impl_shapes {H : Type} : DataW H := .agg [.agg [.lit (.bool false), .lit (.bool false), .lit (.bool false), .lit (.bool false)], .agg [.lit (.bool true), .lit (.bool false), .lit (.bool false), .lit (.bool true)], .agg [.lit (.bool true), .lit (.bool false), .lit (.bool false), .lit (.bool true)], .agg [.lit (.bool true), .lit (.bool true), .lit (.bool true), .lit (.bool false)], .agg [.lit (.bool true), .lit (.bool true), .lit (.bool true), .lit (.bool false)], .agg [.lit (.bool true), .lit (.bool true), .lit (.bool true), .lit (.bool false)], .agg [.lit (.bool true), .lit (.bool true), .lit (.bool true), .lit (.bool false)], .agg [.lit (.bool true), .lit (.bool true), .lit (.bool true), .lit (.bool false)], .agg [.lit (.bool true), .lit (.bool true), .lit (.bool false), .lit (.bool false)], .agg [.lit (.bool false), .lit (.bool true), .lit (.bool true), .lit (.bool false)], .agg [.lit (.bool false), .lit (.bool true), .lit (.bool false), .lit (.bool false)], .agg [.lit (.bool true), .lit (.bool true), .lit (.bool false), .lit (.bool false)], .agg [.lit (.bool false), .lit (.bool true), .lit (.bool false), .lit (.bool false)], .agg [.lit (.bool true), .lit (.bool false), .lit (.bool false), .lit (.bool false)]]

/-- 'laws.FnExactDominates': WHATEVER THE INPUT: true; the input reads as it did. -/
def fnExactDominatesSpec : ChangeSpec := { name := "fnExactDominates", vars := ["loop.example/s0031/impl.shapes"], fn := fun _ => fun
  | [d1, d2, d3, g1] => { results := [.lit (.bool true)], args := [d1, d2, d3], vars := [g1] }
  | _ => none }
def fnExactDominatesRow : OpenClaim := { program := "ytnbkgaofdkkdnaadoor", sum := "e1d4c2fb98d77b4e88d949e68d668f7b0af52cbf62b8b956fd0a94773cd22f6f", func := "loop.example/s0031/laws.FnExactDominates", spec := "fnExactDominates", unfollowed := true, recurses := true, named := ["loop.example/s0031/impl.shapes"], apart := false, laid := [("loop.example/s0031/impl.shapes", laid_loop_example_s0031_impl_shapes)] }
def FnExactDominatesSaid : Prop := fnExactDominatesRow.holds Tryd.pinned (OpenSpec.ofChange fnExactDominatesSpec)

/-- ITS FALSE NEIGHBOUR: 'it returns false'. Refute it at one input. -/
def fnExactDominatesWrong : ChangeSpec := { name := "fnExactDominates", vars := ["loop.example/s0031/impl.shapes"], fn := fun _ => fun
  | [d1, d2, d3, g1] => { results := [.lit (.bool false)], args := [d1, d2, d3], vars := [g1] }
  | _ => none }
def FnExactDominatesWrongFalsely : Prop := fnExactDominatesRow.holds Tryd.pinned (OpenSpec.ofChange fnExactDominatesWrong)

/-- 'laws.FnExactAnalyze': WHATEVER THE INPUT: true; the input reads as it did. -/
def fnExactAnalyzeSpec : ChangeSpec := { name := "fnExactAnalyze", vars := ["loop.example/s0031/impl.shapes"], fn := fun _ => fun
  | [d, g1] => { results := [.lit (.bool true)], args := [d], vars := [g1] }
  | _ => none }
def fnExactAnalyzeRow : OpenClaim := { program := "ytnbkgaofdkkdnaadoor", sum := "e1d4c2fb98d77b4e88d949e68d668f7b0af52cbf62b8b956fd0a94773cd22f6f", func := "loop.example/s0031/laws.FnExactAnalyze", spec := "fnExactAnalyze", unfollowed := true, recurses := true, named := ["loop.example/s0031/impl.shapes"], apart := false, laid := [("loop.example/s0031/impl.shapes", laid_loop_example_s0031_impl_shapes)] }
def FnExactAnalyzeSaid : Prop := fnExactAnalyzeRow.holds Tryd.pinned (OpenSpec.ofChange fnExactAnalyzeSpec)

/-- ITS FALSE NEIGHBOUR: 'it returns false'. Refute it at one input. -/
def fnExactAnalyzeWrong : ChangeSpec := { name := "fnExactAnalyze", vars := ["loop.example/s0031/impl.shapes"], fn := fun _ => fun
  | [d, g1] => { results := [.lit (.bool false)], args := [d], vars := [g1] }
  | _ => none }
def FnExactAnalyzeWrongFalsely : Prop := fnExactAnalyzeRow.holds Tryd.pinned (OpenSpec.ofChange fnExactAnalyzeWrong)

/-- 'laws.FnExactVerdict': WHATEVER THE INPUT: true; the input reads as it did. -/
def fnExactVerdictSpec : ChangeSpec := { name := "fnExactVerdict", vars := ["loop.example/s0031/impl.shapes"], fn := fun _ => fun
  | [d, g1] => { results := [.lit (.bool true)], args := [d], vars := [g1] }
  | _ => none }
def fnExactVerdictRow : OpenClaim := { program := "ytnbkgaofdkkdnaadoor", sum := "e1d4c2fb98d77b4e88d949e68d668f7b0af52cbf62b8b956fd0a94773cd22f6f", func := "loop.example/s0031/laws.FnExactVerdict", spec := "fnExactVerdict", unfollowed := true, recurses := true, named := ["loop.example/s0031/impl.shapes"], apart := false, laid := [("loop.example/s0031/impl.shapes", laid_loop_example_s0031_impl_shapes)] }
def FnExactVerdictSaid : Prop := fnExactVerdictRow.holds Tryd.pinned (OpenSpec.ofChange fnExactVerdictSpec)

/-- ITS FALSE NEIGHBOUR: 'it returns false'. Refute it at one input. -/
def fnExactVerdictWrong : ChangeSpec := { name := "fnExactVerdict", vars := ["loop.example/s0031/impl.shapes"], fn := fun _ => fun
  | [d, g1] => { results := [.lit (.bool false)], args := [d], vars := [g1] }
  | _ => none }
def FnExactVerdictWrongFalsely : Prop := fnExactVerdictRow.holds Tryd.pinned (OpenSpec.ofChange fnExactVerdictWrong)

/-- 'laws.FnExactLiveness': WHATEVER THE INPUT: true; the input reads as it did. -/
def fnExactLivenessSpec : ChangeSpec := { name := "fnExactLiveness", vars := ["loop.example/s0031/impl.shapes"], fn := fun _ => fun
  | [d, g1] => { results := [.lit (.bool true)], args := [d], vars := [g1] }
  | _ => none }
def fnExactLivenessRow : OpenClaim := { program := "ytnbkgaofdkkdnaadoor", sum := "e1d4c2fb98d77b4e88d949e68d668f7b0af52cbf62b8b956fd0a94773cd22f6f", func := "loop.example/s0031/laws.FnExactLiveness", spec := "fnExactLiveness", unfollowed := true, recurses := true, named := ["loop.example/s0031/impl.shapes"], apart := false, laid := [("loop.example/s0031/impl.shapes", laid_loop_example_s0031_impl_shapes)] }
def FnExactLivenessSaid : Prop := fnExactLivenessRow.holds Tryd.pinned (OpenSpec.ofChange fnExactLivenessSpec)

/-- ITS FALSE NEIGHBOUR: 'it returns false'. Refute it at one input. -/
def fnExactLivenessWrong : ChangeSpec := { name := "fnExactLiveness", vars := ["loop.example/s0031/impl.shapes"], fn := fun _ => fun
  | [d, g1] => { results := [.lit (.bool false)], args := [d], vars := [g1] }
  | _ => none }
def FnExactLivenessWrongFalsely : Prop := fnExactLivenessRow.holds Tryd.pinned (OpenSpec.ofChange fnExactLivenessWrong)

/- THE SECOND FORM. 'bulk': how many values and letters a reading holds, each counted each time it is reached (what is shared counts as often as it is met; a slice's spare places count too). A statement '..UptoSaid' is the law's where the arguments, and the package variables that the reading takes, are together of bulk at most 1048576: NARROWER than '..Said'. Prove '..Said' where nothing that the law and all that it calls make is longer than what came in: it says more and counts as full. Else prove '..UptoSaid'. A law counts once. -/
mutual
def uptoBulk {H : Type} : DataW H → Nat
  | .lit (.string bytes) => bytes.length + 1
  | .lit _ => 1
  | .nil => 1
  | .ptr d => uptoBulk d + 1
  | .slice elems spare => uptoBulkAll elems + uptoBulkAll spare + 1
  | .agg parts => uptoBulkAll parts + 1
  | .iface _ d => uptoBulk d + 1
  | .map entries => uptoBulkEntries entries + 1
  | .held _ => 1
def uptoBulkAll {H : Type} : List (DataW H) → Nat
  | [] => 0
  | d :: r => uptoBulk d + uptoBulkAll r
def uptoBulkEntries {H : Type} : List (Lit × DataW H) → Nat
  | [] => 0
  | x :: r => uptoBulkEntry x + uptoBulkEntries r
def uptoBulkEntry {H : Type} : Lit × DataW H → Nat
  | (.string bytes, d) => bytes.length + uptoBulk d + 1
  | (_, d) => uptoBulk d + 1
 end
def uptoSmall : (H : Type) → List (DataW H) → Bool := fun _ ds => decide (uptoBulkAll ds ≤ 1048576)
def OpenSpec.upto (s : _root_.Go.ChangeSpec) : _root_.Go.OpenSpec := { _root_.Go.OpenSpec.ofChange s with cond := some uptoSmall }

/-- 'laws.FnExactDominates', WHERE WHAT IT READS IS OF BULK AT MOST 1048576: true; the input reads as it did. -/
def fnExactDominatesUptoRow : OpenClaim := { program := "ytnbkgaofdkkdnaadoor", sum := "e1d4c2fb98d77b4e88d949e68d668f7b0af52cbf62b8b956fd0a94773cd22f6f", func := "loop.example/s0031/laws.FnExactDominates", spec := "fnExactDominates", unfollowed := true, recurses := true, named := ["loop.example/s0031/impl.shapes"], apart := false, laid := [("loop.example/s0031/impl.shapes", laid_loop_example_s0031_impl_shapes)], narrowed := true }
def FnExactDominatesUptoSaid : Prop := fnExactDominatesUptoRow.holds Tryd.pinned (OpenSpec.upto fnExactDominatesSpec)

/-- 'laws.FnExactAnalyze', WHERE WHAT IT READS IS OF BULK AT MOST 1048576: true; the input reads as it did. -/
def fnExactAnalyzeUptoRow : OpenClaim := { program := "ytnbkgaofdkkdnaadoor", sum := "e1d4c2fb98d77b4e88d949e68d668f7b0af52cbf62b8b956fd0a94773cd22f6f", func := "loop.example/s0031/laws.FnExactAnalyze", spec := "fnExactAnalyze", unfollowed := true, recurses := true, named := ["loop.example/s0031/impl.shapes"], apart := false, laid := [("loop.example/s0031/impl.shapes", laid_loop_example_s0031_impl_shapes)], narrowed := true }
def FnExactAnalyzeUptoSaid : Prop := fnExactAnalyzeUptoRow.holds Tryd.pinned (OpenSpec.upto fnExactAnalyzeSpec)

/-- 'laws.FnExactVerdict', WHERE WHAT IT READS IS OF BULK AT MOST 1048576: true; the input reads as it did. -/
def fnExactVerdictUptoRow : OpenClaim := { program := "ytnbkgaofdkkdnaadoor", sum := "e1d4c2fb98d77b4e88d949e68d668f7b0af52cbf62b8b956fd0a94773cd22f6f", func := "loop.example/s0031/laws.FnExactVerdict", spec := "fnExactVerdict", unfollowed := true, recurses := true, named := ["loop.example/s0031/impl.shapes"], apart := false, laid := [("loop.example/s0031/impl.shapes", laid_loop_example_s0031_impl_shapes)], narrowed := true }
def FnExactVerdictUptoSaid : Prop := fnExactVerdictUptoRow.holds Tryd.pinned (OpenSpec.upto fnExactVerdictSpec)

/-- 'laws.FnExactLiveness', WHERE WHAT IT READS IS OF BULK AT MOST 1048576: true; the input reads as it did. -/
def fnExactLivenessUptoRow : OpenClaim := { program := "ytnbkgaofdkkdnaadoor", sum := "e1d4c2fb98d77b4e88d949e68d668f7b0af52cbf62b8b956fd0a94773cd22f6f", func := "loop.example/s0031/laws.FnExactLiveness", spec := "fnExactLiveness", unfollowed := true, recurses := true, named := ["loop.example/s0031/impl.shapes"], apart := false, laid := [("loop.example/s0031/impl.shapes", laid_loop_example_s0031_impl_shapes)], narrowed := true }
def FnExactLivenessUptoSaid : Prop := fnExactLivenessUptoRow.holds Tryd.pinned (OpenSpec.upto fnExactLivenessSpec)

end Rows
end Go.Proofs.YtnbkgaofdkkdnaaDoor
