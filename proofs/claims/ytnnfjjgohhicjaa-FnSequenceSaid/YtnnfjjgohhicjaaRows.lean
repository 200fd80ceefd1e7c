/-
  No cell of these rows narrows 'for every input' (looked for: loops, veiled, ifaces, maps, wideKeys, modest, calm, conditions, laid).
  DERIVED. THE GIVEN ROWS OF THIS SEAT. 3 by the template 'for every input the law returns true; each argument reads behind the call as it read before'; 0 by the template 'total and deterministic' (their statements: YtnnfjjgohhicjaaTotals.lean).
  GIVEN WITH THE SEED: the statements are not yours to turn. If you find one false, say at which input.
  Laid BY PROGRAM, IN A SANDBOX (cutbox-rows.mjs): the forced cells as the released guide's own fill.sh prints them over the translation db0eb49a7ed2af64… (all of the seat's roots in one cut). By AI agents, Wed Nov 11 2026. No macro, syntax, notation, axiom, sorry.
-/
import Derived.Test.YtnnfjjgohhicjaaChecked
import GoSem.Claim
import GoSem.ClaimJoined
import GoSem.ClaimMapViews
import Derived.JoinedTies
import Derived.KernelRfl
namespace Go.Proofs.Ytnnfjjgohhicjaa
/- THE CELL 'sum', in the pinned program and in every row, IS THE sha256 OF THE DUMP (.gsa) THAT YtnnfjjgohhicjaaProg.lean LOADS. Nothing in Lean hashes anything: it is a label: what it is worth is what the hold of that sum in a sandbox is worth. -/
noncomputable def Try.pinned : Pinned := { name := "ytnnfjjgohhicjaa", sum := "db0eb49a7ed2af6495a54808c51b99b18072f787b26a15a3946c72b10e0c70d6", checked := Try.checked }
namespace Rows
def none {H : Type} : Left H := { results := [], args := [] }

/-- 'laws.FnExactConstants': WHATEVER THE INPUT: true; the input reads as it did. -/
def fnExactConstantsSpec : ChangeSpec := { name := "fnExactConstants", fn := fun _ => fun
  | [] => { results := [.lit (.bool true)], args := [] }
  | _ => none }
def fnExactConstantsRow : OpenClaim := { program := "ytnnfjjgohhicjaa", sum := "db0eb49a7ed2af6495a54808c51b99b18072f787b26a15a3946c72b10e0c70d6", func := "loop.example/s0031/laws.FnExactConstants", spec := "fnExactConstants", apart := false }
def FnExactConstantsSaid : Prop := fnExactConstantsRow.holds Try.pinned (OpenSpec.ofChange fnExactConstantsSpec)

/-- ITS FALSE NEIGHBOUR: 'it returns false'. Refute it at one input. -/
def fnExactConstantsWrong : ChangeSpec := { name := "fnExactConstants", fn := fun _ => fun
  | [] => { results := [.lit (.bool false)], args := [] }
  | _ => none }
def FnExactConstantsWrongFalsely : Prop := fnExactConstantsRow.holds Try.pinned (OpenSpec.ofChange fnExactConstantsWrong)

/-- 'laws.FnExactSequence': WHATEVER THE INPUT: true; the input reads as it did. -/
def fnExactSequenceSpec : ChangeSpec := { name := "fnExactSequence", fn := fun _ => fun
  | [d] => { results := [.lit (.bool true)], args := [d] }
  | _ => none }
def fnExactSequenceRow : OpenClaim := { program := "ytnnfjjgohhicjaa", sum := "db0eb49a7ed2af6495a54808c51b99b18072f787b26a15a3946c72b10e0c70d6", func := "loop.example/s0031/laws.FnExactSequence", spec := "fnExactSequence", recurses := true, apart := false }
def FnExactSequenceSaid : Prop := fnExactSequenceRow.holds Try.pinned (OpenSpec.ofChange fnExactSequenceSpec)

/-- ITS FALSE NEIGHBOUR: 'it returns false'. Refute it at one input. -/
def fnExactSequenceWrong : ChangeSpec := { name := "fnExactSequence", fn := fun _ => fun
  | [d] => { results := [.lit (.bool false)], args := [d] }
  | _ => none }
def FnExactSequenceWrongFalsely : Prop := fnExactSequenceRow.holds Try.pinned (OpenSpec.ofChange fnExactSequenceWrong)

/-- 'laws.FnSequence': WHATEVER THE INPUT: true; the input reads as it did. -/
def fnSequenceSpec : ChangeSpec := { name := "fnSequence", fn := fun _ => fun
  | [d] => { results := [.lit (.bool true)], args := [d] }
  | _ => none }
def fnSequenceRow : OpenClaim := { program := "ytnnfjjgohhicjaa", sum := "db0eb49a7ed2af6495a54808c51b99b18072f787b26a15a3946c72b10e0c70d6", func := "loop.example/s0031/laws.FnSequence", spec := "fnSequence", recurses := true, apart := false }
def FnSequenceSaid : Prop := fnSequenceRow.holds Try.pinned (OpenSpec.ofChange fnSequenceSpec)

/-- ITS FALSE NEIGHBOUR: 'it returns false'. Refute it at one input. -/
def fnSequenceWrong : ChangeSpec := { name := "fnSequence", fn := fun _ => fun
  | [d] => { results := [.lit (.bool false)], args := [d] }
  | _ => none }
def FnSequenceWrongFalsely : Prop := fnSequenceRow.holds Try.pinned (OpenSpec.ofChange fnSequenceWrong)

/- THE SECOND FORM. 'bulk': how many values and letters a reading holds, each counted each time it is reached (what is shared counts as often as it is met; a slice's spare places count too). A statement '..UptoSaid' is the law's where the arguments, and the package variables that the reading takes, are together of bulk at most 1048576: NARROWER than '..Said'. Prove '..Said' where nothing that the law and all that it calls make is longer than what came in: it says more and counts as full. Else prove '..UptoSaid'. A law counts once. -/
mutual
def uptoBulk {H : Type} : DataW H → Nat
  | .lit (.string bytes) => bytes.length + 1
  | .lit _ => 1
  | .nil => 1
  | .ptr d => uptoBulk d + 1
  | .slice elems spare => uptoBulkAll elems + uptoBulkAll spare + 1
  | .agg parts => uptoBulkAll parts + 1
  | .iface _ d => uptoBulk d + 1
  | .map entries => uptoBulkEntries entries + 1
  | .held _ => 1
def uptoBulkAll {H : Type} : List (DataW H) → Nat
  | [] => 0
  | d :: r => uptoBulk d + uptoBulkAll r
def uptoBulkEntries {H : Type} : List (Lit × DataW H) → Nat
  | [] => 0
  | x :: r => uptoBulkEntry x + uptoBulkEntries r
def uptoBulkEntry {H : Type} : Lit × DataW H → Nat
  | (.string bytes, d) => bytes.length + uptoBulk d + 1
  | (_, d) => uptoBulk d + 1
 end
def uptoSmall : (H : Type) → List (DataW H) → Bool := fun _ ds => decide (uptoBulkAll ds ≤ 1048576)
def OpenSpec.upto (s : _root_.Go.ChangeSpec) : _root_.Go.OpenSpec := { _root_.Go.OpenSpec.ofChange s with cond := some uptoSmall }

/-- 'laws.FnExactConstants', WHERE WHAT IT READS IS OF BULK AT MOST 1048576: true; the input reads as it did. -/
def fnExactConstantsUptoRow : OpenClaim := { program := "ytnnfjjgohhicjaa", sum := "db0eb49a7ed2af6495a54808c51b99b18072f787b26a15a3946c72b10e0c70d6", func := "loop.example/s0031/laws.FnExactConstants", spec := "fnExactConstants", apart := false, narrowed := true }
def FnExactConstantsUptoSaid : Prop := fnExactConstantsUptoRow.holds Try.pinned (OpenSpec.upto fnExactConstantsSpec)

/-- 'laws.FnExactSequence', WHERE WHAT IT READS IS OF BULK AT MOST 1048576: true; the input reads as it did. -/
def fnExactSequenceUptoRow : OpenClaim := { program := "ytnnfjjgohhicjaa", sum := "db0eb49a7ed2af6495a54808c51b99b18072f787b26a15a3946c72b10e0c70d6", func := "loop.example/s0031/laws.FnExactSequence", spec := "fnExactSequence", recurses := true, apart := false, narrowed := true }
def FnExactSequenceUptoSaid : Prop := fnExactSequenceUptoRow.holds Try.pinned (OpenSpec.upto fnExactSequenceSpec)

/-- 'laws.FnSequence', WHERE WHAT IT READS IS OF BULK AT MOST 1048576: true; the input reads as it did. -/
def fnSequenceUptoRow : OpenClaim := { program := "ytnnfjjgohhicjaa", sum := "db0eb49a7ed2af6495a54808c51b99b18072f787b26a15a3946c72b10e0c70d6", func := "loop.example/s0031/laws.FnSequence", spec := "fnSequence", recurses := true, apart := false, narrowed := true }
def FnSequenceUptoSaid : Prop := fnSequenceUptoRow.holds Try.pinned (OpenSpec.upto fnSequenceSpec)

end Rows
end Go.Proofs.Ytnnfjjgohhicjaa
