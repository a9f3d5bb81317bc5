/- The one pure statement of FnExactGet (by wip/tools/lawrow.py), and what each argument is known to be. -/
import Derived.Test.YtkamfnmbidnhdaaPf9
namespace Go.Proofs.Ytkamfnmbidnhdaa.P
open Go.RowKit Go.Proofs.YtkamfnmbidnhdaaW.PrintWords Go.Proofs.YtkamfnmbidnhdaaW.PrintLast Go.Proofs.YtkamfnmbidnhdaaW.PrintMore
def g26 (x : S26) : Prop := ((Lit.int .i64 x.f0).wf = true) ∧ ((Lit.int .i64 x.f1).wf = true) ∧ (x.f2.size ≤ maxLen) ∧ ((Lit.int .i64 x.f3).wf = true)
def g146 (x : S146) : Prop := (g26 x.f0) ∧ (g26 x.f1)
def g117 (x : S117) : Prop := ((x.f0.length ≤ 9223372036854775807 ∧ ∀ y146, y146 ∈ x.f0 → g146 y146))
def laws_FnExactGet.Pure : Prop := ∀ (a0 : S26 × (List S117)) (a1 : List S26), g26 a0.1 → (a0.2.length ≤ 9223372036854775807 ∧ ∀ y117, y117 ∈ a0.2 → g117 y117) → (a1.length ≤ 9223372036854775807 ∧ ∀ y26, y26 ∈ a1 → g26 y26) → ∃ k, laws_FnExactGet.f k a0.1.f0 a0.1.f1 a0.1.f2 a0.1.f3 a0.2 a1 = some true
end Go.Proofs.Ytkamfnmbidnhdaa.P
