/- FnExactConstants: every exported constant of the program is the document's: the law's call returns true. No condition. -/
import Derived.Test.YtnnfjjgohhicjaaPFnExactConstantsx1
namespace Go.Proofs.Ytnnfjjgohhicjaa.Pure
open Go.RowKit Go.Proofs.Ytnnfjjgohhicjaa.PFnExactConstants Go.Proofs.YtnnfjjgohhicjaaW.PrintWords Go.Proofs.YtnnfjjgohhicjaaW.PrintLast

theorem FnExactConstants : laws_FnExactConstants.Pure := by
  unfold laws_FnExactConstants.Pure laws_FnExactConstants.f
  rfl

end Go.Proofs.Ytnnfjjgohhicjaa.Pure
