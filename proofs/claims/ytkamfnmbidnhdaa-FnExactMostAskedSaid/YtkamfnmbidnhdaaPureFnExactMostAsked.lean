/- FnExactMostAsked: the program's MostAsked returns what the reference's returns, for every whole number n. No condition. -/
import Derived.Test.YtkamfnmbidnhdaaPFnExactMostAskedx1
namespace Go.Proofs.Ytkamfnmbidnhdaa.Pure
open Go.RowKit Go.Proofs.Ytkamfnmbidnhdaa.PFnExactMostAsked Go.Proofs.YtkamfnmbidnhdaaW.PrintWords Go.Proofs.YtkamfnmbidnhdaaW.PrintLast

/-- The numbers that are within the bounds, one by one: by the kernel. -/
theorem most_small : ∀ n : Nat, n < 201 → laws_FnExactMostAsked.f 400 (n : Int) = some true := by
  decide +kernel

theorem FnExactMostAsked : laws_FnExactMostAsked.Pure := by
  intro a0 _
  by_cases h0 : a0 < 0
  · refine ⟨1, ?_⟩
    unfold laws_FnExactMostAsked.f spec_MostAsked.f impl_MostAsked.f
    rw [if_pos h0, if_pos h0]
    simp [spec_MostAsked.j0, impl_MostAsked.j0]
  · by_cases h1 : a0 > 200
    · refine ⟨1, ?_⟩
      unfold laws_FnExactMostAsked.f spec_MostAsked.f impl_MostAsked.f
      rw [if_neg h0, if_neg h0]
      simp [spec_MostAsked.j0, impl_MostAsked.j0, h1]
    · obtain ⟨n, rfl⟩ := Int.eq_ofNat_of_zero_le (Int.not_lt.1 h0)
      exact ⟨400, most_small n (by omega)⟩

end Go.Proofs.Ytkamfnmbidnhdaa.Pure
