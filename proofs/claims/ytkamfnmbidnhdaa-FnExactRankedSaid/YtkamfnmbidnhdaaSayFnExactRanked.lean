/- The one pure statement of FnExactRanked (by wip/tools/lawrow.py), and what each argument is known to be. -/
import Derived.Test.YtkamfnmbidnhdaaPf6
namespace Go.Proofs.Ytkamfnmbidnhdaa.P
open Go.RowKit Go.Proofs.YtkamfnmbidnhdaaW.PrintWords Go.Proofs.YtkamfnmbidnhdaaW.PrintLast Go.Proofs.YtkamfnmbidnhdaaW.PrintMore
def laws_FnExactRanked.Pure : Prop := ∀ (a0 : List (List Int)), (a0.length ≤ 9223372036854775807 ∧ ∀ y67, y67 ∈ a0 → (y67.length ≤ 9223372036854775807 ∧ ∀ y3, y3 ∈ y67 → (Lit.int .i64 y3).wf = true)) → ∃ k, laws_FnExactRanked.f k a0 = some true
end Go.Proofs.Ytkamfnmbidnhdaa.P
