/-
  DERIVED. GIVEN WITH THE SEED: THE CARDS: each row of YtnnfjjgohhicjaaDoorRows.lean that lists a variable, with what it lists TIED to the program's text (the seventh form; the later family's looks); each row that meets fmt, with fmt's text TOLD by the authors' own Lean function (tested against real Go, not proved from fmt's source: count such statements apart). THE CARD IS WHAT COUNTS. Prove the row's statement (the work); the ties are given (YtnnfjjgohhicjaaDoorTie.lean); close each card by the builder's one call (the guide's Derived/Test/ToyasCard.lean, 'card_holds'). Laid BY PROGRAM, IN A SANDBOX (cutbox-door.mjs). By AI agents, Wed Nov 11 2026. No macro, syntax, notation, axiom, sorry.
-/
import Derived.Test.YtnnfjjgohhicjaaDoorRows
import GoSem.ClaimSeven
namespace Go.Proofs.YtnnfjjgohhicjaaDoor
namespace Rows

/-- THE TIED CARD OF 'laws.FnExactValidMach'. -/
def fnExactValidMachCard : Claim7 := { stood := { row := fnExactValidMachRow, standIns := [], harness := (true, "88fe3f6bedd2f05477363a3a82784acd093014d27e2c451090e36c3faa51b2e9"), looks := true }, kinds := [], alts := [], laidByText := true, laidKinds := [.data], laidTests := true, laidLooks := .later }
def FnExactValidMachCardSaid : Prop := Claim7.holds Tryd.pinned (.plain (OpenSpec.ofChange fnExactValidMachSpec)) fnExactValidMachCard

/-- THE TIED CARD OF 'laws.FnExactValidFunc'. -/
def fnExactValidFuncCard : Claim7 := { stood := { row := fnExactValidFuncRow, standIns := [], harness := (true, "88fe3f6bedd2f05477363a3a82784acd093014d27e2c451090e36c3faa51b2e9"), looks := true }, kinds := [], alts := [], laidByText := true, laidKinds := [.data], laidTests := true, laidLooks := .later }
def FnExactValidFuncCardSaid : Prop := Claim7.holds Tryd.pinned (.plain (OpenSpec.ofChange fnExactValidFuncSpec)) fnExactValidFuncCard

/-- THE TIED CARD OF 'laws.FnExactEncodeMach'. -/
def fnExactEncodeMachCard : Claim7 := { stood := { row := fnExactEncodeMachRow, standIns := [], harness := (true, "88fe3f6bedd2f05477363a3a82784acd093014d27e2c451090e36c3faa51b2e9"), looks := true }, kinds := [], alts := [], laidByText := true, laidKinds := [.data, .data, .data, .data, .data], laidTests := true, laidLooks := .later }
def FnExactEncodeMachCardSaid : Prop := Claim7.holds Tryd.pinned (.plain (OpenSpec.ofChange fnExactEncodeMachSpec)) fnExactEncodeMachCard

/-- THE TIED CARD OF 'laws.FnExactRunMach'. -/
def fnExactRunMachCard : Claim7 := { stood := { row := fnExactRunMachRow, standIns := [], harness := (true, "88fe3f6bedd2f05477363a3a82784acd093014d27e2c451090e36c3faa51b2e9"), looks := true }, kinds := [], alts := [], laidByText := true, laidKinds := [.data], laidTests := true, laidLooks := .later }
def FnExactRunMachCardSaid : Prop := Claim7.holds Tryd.pinned (.plain (OpenSpec.ofChange fnExactRunMachSpec)) fnExactRunMachCard

/-- THE TIED CARD OF 'laws.FnExactEncodeFunc'. -/
def fnExactEncodeFuncCard : Claim7 := { stood := { row := fnExactEncodeFuncRow, standIns := [], harness := (true, "88fe3f6bedd2f05477363a3a82784acd093014d27e2c451090e36c3faa51b2e9"), looks := true }, kinds := [], alts := [], laidByText := true, laidKinds := [.data, .data, .data, .data, .data], laidTests := true, laidLooks := .later }
def FnExactEncodeFuncCardSaid : Prop := Claim7.holds Tryd.pinned (.plain (OpenSpec.ofChange fnExactEncodeFuncSpec)) fnExactEncodeFuncCard

/-- THE TIED CARD OF 'laws.FnExactRunFunc'. -/
def fnExactRunFuncCard : Claim7 := { stood := { row := fnExactRunFuncRow, standIns := [], harness := (true, "88fe3f6bedd2f05477363a3a82784acd093014d27e2c451090e36c3faa51b2e9"), looks := true }, kinds := [], alts := [], laidByText := true, laidKinds := [.data], laidTests := true, laidLooks := .later }
def FnExactRunFuncCardSaid : Prop := Claim7.holds Tryd.pinned (.plain (OpenSpec.ofChange fnExactRunFuncSpec)) fnExactRunFuncCard

/-- THE SECOND FORM's CARD OF 'laws.FnExactValidMach'. -/
def fnExactValidMachUptoCard : Claim7 := { stood := { row := fnExactValidMachUptoRow, standIns := [], harness := (true, "88fe3f6bedd2f05477363a3a82784acd093014d27e2c451090e36c3faa51b2e9"), looks := true }, kinds := [], alts := [], laidByText := true, laidKinds := [.data], laidTests := true, laidLooks := .later }
def FnExactValidMachUptoCardSaid : Prop := Claim7.holds Tryd.pinned (.plain (OpenSpec.upto fnExactValidMachSpec)) fnExactValidMachUptoCard

/-- THE SECOND FORM's CARD OF 'laws.FnExactValidFunc'. -/
def fnExactValidFuncUptoCard : Claim7 := { stood := { row := fnExactValidFuncUptoRow, standIns := [], harness := (true, "88fe3f6bedd2f05477363a3a82784acd093014d27e2c451090e36c3faa51b2e9"), looks := true }, kinds := [], alts := [], laidByText := true, laidKinds := [.data], laidTests := true, laidLooks := .later }
def FnExactValidFuncUptoCardSaid : Prop := Claim7.holds Tryd.pinned (.plain (OpenSpec.upto fnExactValidFuncSpec)) fnExactValidFuncUptoCard

/-- THE SECOND FORM's CARD OF 'laws.FnExactEncodeMach'. -/
def fnExactEncodeMachUptoCard : Claim7 := { stood := { row := fnExactEncodeMachUptoRow, standIns := [], harness := (true, "88fe3f6bedd2f05477363a3a82784acd093014d27e2c451090e36c3faa51b2e9"), looks := true }, kinds := [], alts := [], laidByText := true, laidKinds := [.data, .data, .data, .data, .data], laidTests := true, laidLooks := .later }
def FnExactEncodeMachUptoCardSaid : Prop := Claim7.holds Tryd.pinned (.plain (OpenSpec.upto fnExactEncodeMachSpec)) fnExactEncodeMachUptoCard

/-- THE SECOND FORM's CARD OF 'laws.FnExactRunMach'. -/
def fnExactRunMachUptoCard : Claim7 := { stood := { row := fnExactRunMachUptoRow, standIns := [], harness := (true, "88fe3f6bedd2f05477363a3a82784acd093014d27e2c451090e36c3faa51b2e9"), looks := true }, kinds := [], alts := [], laidByText := true, laidKinds := [.data], laidTests := true, laidLooks := .later }
def FnExactRunMachUptoCardSaid : Prop := Claim7.holds Tryd.pinned (.plain (OpenSpec.upto fnExactRunMachSpec)) fnExactRunMachUptoCard

/-- THE SECOND FORM's CARD OF 'laws.FnExactEncodeFunc'. -/
def fnExactEncodeFuncUptoCard : Claim7 := { stood := { row := fnExactEncodeFuncUptoRow, standIns := [], harness := (true, "88fe3f6bedd2f05477363a3a82784acd093014d27e2c451090e36c3faa51b2e9"), looks := true }, kinds := [], alts := [], laidByText := true, laidKinds := [.data, .data, .data, .data, .data], laidTests := true, laidLooks := .later }
def FnExactEncodeFuncUptoCardSaid : Prop := Claim7.holds Tryd.pinned (.plain (OpenSpec.upto fnExactEncodeFuncSpec)) fnExactEncodeFuncUptoCard

/-- THE SECOND FORM's CARD OF 'laws.FnExactRunFunc'. -/
def fnExactRunFuncUptoCard : Claim7 := { stood := { row := fnExactRunFuncUptoRow, standIns := [], harness := (true, "88fe3f6bedd2f05477363a3a82784acd093014d27e2c451090e36c3faa51b2e9"), looks := true }, kinds := [], alts := [], laidByText := true, laidKinds := [.data], laidTests := true, laidLooks := .later }
def FnExactRunFuncUptoCardSaid : Prop := Claim7.holds Tryd.pinned (.plain (OpenSpec.upto fnExactRunFuncSpec)) fnExactRunFuncUptoCard
end Rows
end Go.Proofs.YtnnfjjgohhicjaaDoor
