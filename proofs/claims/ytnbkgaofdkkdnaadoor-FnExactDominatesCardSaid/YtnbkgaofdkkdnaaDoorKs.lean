/- Contracts: sizes (laws.sz..). -/
import Derived.Test.YtnbkgaofdkkdnaaDoorKt
namespace Go.Proofs.YtnbkgaofdkkdnaaDoor
open Go.RowKit
set_option linter.unusedSimpArgs false
set_option linter.unusedVariables false
set_option maxRecDepth 100000

theorem szInstrS_c (A : Option Addr) (c n : Nat) (l : Int) (w : World) (hn : n ≤ 9223372036854775807) (h0 : 0 ≤ l) (h1 : l ≤ 1048576) :
    Calls Tryd.prog 92 #[.slice A n c, .int .i64 l] w fun e w' => e = .returned (.int .i64 (szN n l)) ∧ w = w' := by
  go_enter Tryd.func92, Tryd.ntmps92
  go_wp2
  all_goals go_ret
  all_goals go_light
  all_goals exact ⟨ret_int (by unfold szN; split <;> omega), rfl⟩
end Go.Proofs.YtnbkgaofdkkdnaaDoor
