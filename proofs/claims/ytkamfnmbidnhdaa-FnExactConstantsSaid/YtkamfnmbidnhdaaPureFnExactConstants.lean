/- FnExactConstants: every exported constant of the program is the document's. No condition. -/
import Derived.Test.YtkamfnmbidnhdaaPFnExactConstantsx1
namespace Go.Proofs.Ytkamfnmbidnhdaa.Pure
open Go.RowKit Go.Proofs.Ytkamfnmbidnhdaa.PFnExactConstants Go.Proofs.YtkamfnmbidnhdaaW.PrintWords Go.Proofs.YtkamfnmbidnhdaaW.PrintLast

theorem FnExactConstants : laws_FnExactConstants.Pure := rfl

end Go.Proofs.Ytkamfnmbidnhdaa.Pure
