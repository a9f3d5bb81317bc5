/- The one pure statement of FnExactGraphOk (by wip/tools/lawrow.py), and what each argument is known to be. -/
import Derived.Test.YtkamfnmbidnhdaaPf8
namespace Go.Proofs.Ytkamfnmbidnhdaa.P
open Go.RowKit Go.Proofs.YtkamfnmbidnhdaaW.PrintWords Go.Proofs.YtkamfnmbidnhdaaW.PrintLast Go.Proofs.YtkamfnmbidnhdaaW.PrintMore
def g26 (x : S26) : Prop := ((Lit.int .i64 x.f0).wf = true) ∧ ((Lit.int .i64 x.f1).wf = true) ∧ (x.f2.size ≤ maxLen) ∧ ((Lit.int .i64 x.f3).wf = true)
def g146 (x : S146) : Prop := (g26 x.f0) ∧ (g26 x.f1)
def g117 (x : S117) : Prop := ((x.f0.length ≤ 9223372036854775807 ∧ ∀ y146, y146 ∈ x.f0 → g146 y146))
def laws_FnExactGraphOk.Pure : Prop := ∀ (a0 : S26 × (List S117)), g26 a0.1 → (a0.2.length ≤ 9223372036854775807 ∧ ∀ y117, y117 ∈ a0.2 → g117 y117) → ∃ k, laws_FnExactGraphOk.f k a0.1.f0 a0.1.f1 a0.1.f2 a0.1.f3 a0.2 = some true
end Go.Proofs.Ytkamfnmbidnhdaa.P
