/- The one pure statement of FnExactKeyOrder (by wip/tools/lawrow.py), and what each argument is known to be. -/
import Derived.Test.YtkamfnmbidnhdaaPf5
namespace Go.Proofs.Ytkamfnmbidnhdaa.P
open Go.RowKit Go.Proofs.YtkamfnmbidnhdaaW.PrintWords Go.Proofs.YtkamfnmbidnhdaaW.PrintLast Go.Proofs.YtkamfnmbidnhdaaW.PrintMore
def laws_FnExactKeyOrder.Pure : Prop := ∀ (a0 : Int × Int × ByteArray × Int) (a1 : Int × Int × ByteArray × Int), (Lit.int .i64 a0.1).wf = true → (Lit.int .i64 a0.2.1).wf = true → a0.2.2.1.size ≤ maxLen → (Lit.int .i64 a0.2.2.2).wf = true → (Lit.int .i64 a1.1).wf = true → (Lit.int .i64 a1.2.1).wf = true → a1.2.2.1.size ≤ maxLen → (Lit.int .i64 a1.2.2.2).wf = true → ∃ k, laws_FnExactKeyOrder.f k a0.1 a0.2.1 a0.2.2.1 a0.2.2.2 a1.1 a1.2.1 a1.2.2.1 a1.2.2.2 = some true
end Go.Proofs.Ytkamfnmbidnhdaa.P
