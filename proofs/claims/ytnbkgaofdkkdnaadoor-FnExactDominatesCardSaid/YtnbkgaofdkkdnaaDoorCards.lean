/-
  DERIVED. GIVEN WITH THE SEED: THE CARDS: each row of YtnbkgaofdkkdnaaDoorRows.lean that lists a variable, with what it lists TIED to the program's text (the seventh form; the later family's looks); each row that meets fmt, with fmt's text TOLD by the authors' own Lean function (tested against real Go, not proved from fmt's source: count such statements apart). THE CARD IS WHAT COUNTS. Prove the row's statement (the work); the ties are given (YtnbkgaofdkkdnaaDoorTie.lean); close each card by the builder's one call (the guide's Derived/Test/ToyasCard.lean, 'card_holds'). Laid BY PROGRAM, IN A SANDBOX (cutbox-door.mjs). By AI agents, Wed Nov 11 2026. No macro, syntax, notation, axiom, sorry.
-/
import Derived.Test.YtnbkgaofdkkdnaaDoorRows
import GoSem.ClaimSeven
namespace Go.Proofs.YtnbkgaofdkkdnaaDoor
namespace Rows

/-- THE TIED CARD OF 'laws.FnExactDominates'. -/
def fnExactDominatesCard : Claim7 := { stood := { row := fnExactDominatesRow, standIns := [], harness := (true, "af8ba035c24488cb363a536c9983b2a1da52c823f6348b22d76765046669d103"), looks := false }, kinds := [], alts := [], laidByText := true, laidKinds := [.data], laidTests := true, laidLooks := .later }
def FnExactDominatesCardSaid : Prop := Claim7.holds Tryd.pinned (.plain (OpenSpec.ofChange fnExactDominatesSpec)) fnExactDominatesCard

/-- THE TIED CARD OF 'laws.FnExactAnalyze'. -/
def fnExactAnalyzeCard : Claim7 := { stood := { row := fnExactAnalyzeRow, standIns := [], harness := (true, "af8ba035c24488cb363a536c9983b2a1da52c823f6348b22d76765046669d103"), looks := false }, kinds := [], alts := [], laidByText := true, laidKinds := [.data], laidTests := true, laidLooks := .later }
def FnExactAnalyzeCardSaid : Prop := Claim7.holds Tryd.pinned (.plain (OpenSpec.ofChange fnExactAnalyzeSpec)) fnExactAnalyzeCard

/-- THE TIED CARD OF 'laws.FnExactVerdict'. -/
def fnExactVerdictCard : Claim7 := { stood := { row := fnExactVerdictRow, standIns := [], harness := (true, "af8ba035c24488cb363a536c9983b2a1da52c823f6348b22d76765046669d103"), looks := false }, kinds := [], alts := [], laidByText := true, laidKinds := [.data], laidTests := true, laidLooks := .later }
def FnExactVerdictCardSaid : Prop := Claim7.holds Tryd.pinned (.plain (OpenSpec.ofChange fnExactVerdictSpec)) fnExactVerdictCard

/-- THE TIED CARD OF 'laws.FnExactLiveness'. -/
def fnExactLivenessCard : Claim7 := { stood := { row := fnExactLivenessRow, standIns := [], harness := (true, "af8ba035c24488cb363a536c9983b2a1da52c823f6348b22d76765046669d103"), looks := false }, kinds := [], alts := [], laidByText := true, laidKinds := [.data], laidTests := true, laidLooks := .later }
def FnExactLivenessCardSaid : Prop := Claim7.holds Tryd.pinned (.plain (OpenSpec.ofChange fnExactLivenessSpec)) fnExactLivenessCard

/-- THE SECOND FORM's CARD OF 'laws.FnExactDominates'. -/
def fnExactDominatesUptoCard : Claim7 := { stood := { row := fnExactDominatesUptoRow, standIns := [], harness := (true, "af8ba035c24488cb363a536c9983b2a1da52c823f6348b22d76765046669d103"), looks := false }, kinds := [], alts := [], laidByText := true, laidKinds := [.data], laidTests := true, laidLooks := .later }
def FnExactDominatesUptoCardSaid : Prop := Claim7.holds Tryd.pinned (.plain (OpenSpec.upto fnExactDominatesSpec)) fnExactDominatesUptoCard

/-- THE SECOND FORM's CARD OF 'laws.FnExactAnalyze'. -/
def fnExactAnalyzeUptoCard : Claim7 := { stood := { row := fnExactAnalyzeUptoRow, standIns := [], harness := (true, "af8ba035c24488cb363a536c9983b2a1da52c823f6348b22d76765046669d103"), looks := false }, kinds := [], alts := [], laidByText := true, laidKinds := [.data], laidTests := true, laidLooks := .later }
def FnExactAnalyzeUptoCardSaid : Prop := Claim7.holds Tryd.pinned (.plain (OpenSpec.upto fnExactAnalyzeSpec)) fnExactAnalyzeUptoCard

/-- THE SECOND FORM's CARD OF 'laws.FnExactVerdict'. -/
def fnExactVerdictUptoCard : Claim7 := { stood := { row := fnExactVerdictUptoRow, standIns := [], harness := (true, "af8ba035c24488cb363a536c9983b2a1da52c823f6348b22d76765046669d103"), looks := false }, kinds := [], alts := [], laidByText := true, laidKinds := [.data], laidTests := true, laidLooks := .later }
def FnExactVerdictUptoCardSaid : Prop := Claim7.holds Tryd.pinned (.plain (OpenSpec.upto fnExactVerdictSpec)) fnExactVerdictUptoCard

/-- THE SECOND FORM's CARD OF 'laws.FnExactLiveness'. -/
def fnExactLivenessUptoCard : Claim7 := { stood := { row := fnExactLivenessUptoRow, standIns := [], harness := (true, "af8ba035c24488cb363a536c9983b2a1da52c823f6348b22d76765046669d103"), looks := false }, kinds := [], alts := [], laidByText := true, laidKinds := [.data], laidTests := true, laidLooks := .later }
def FnExactLivenessUptoCardSaid : Prop := Claim7.holds Tryd.pinned (.plain (OpenSpec.upto fnExactLivenessSpec)) fnExactLivenessUptoCard
end Rows
end Go.Proofs.YtnbkgaofdkkdnaaDoor
