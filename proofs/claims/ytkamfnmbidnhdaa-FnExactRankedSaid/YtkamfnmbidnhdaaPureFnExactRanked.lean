/- FnExactRanked: of any answers the program's Ranked returns what the reference's returns, and leaves them as they were. No condition. -/
import Derived.Test.YtkamfnmbidnhdaaSayFnExactRanked
import Derived.Test.YtkamfnmbidnhdaaRankedP
namespace Go.Proofs.Ytkamfnmbidnhdaa.Pure
open Go.RowKit Go.Proofs.Ytkamfnmbidnhdaa.P Go.Proofs.YtkamfnmbidnhdaaW.PrintWords Go.Proofs.Ytkamfnmbidnhdaa.M
theorem FnExactRanked : laws_FnExactRanked.Pure := by
  intro m hG
  have hm := hG.1
  have hr : ∀ x, x ∈ m → x.length ≤ 9223372036854775807 := fun x hx => (hG.2 x hx).1
  obtain ⟨t, ht, hq⟩ := szIntSS_says m hm hr
  rcases hq with hq | ⟨hq, hq2⟩
  · obtain ⟨K, hK⟩ := ht
    refine ⟨K, ?_⟩
    have h1 := hK K (Nat.le_refl _)
    simp only at h1
    simp only [laws_FnExactRanked.f, h1, Option.bind_some]
    rw [if_pos hq]
  · obtain ⟨b, hs, hi⟩ := EvB.same (specR_says m hm hr) (implR_says m hm hr) Iff.rfl
    have hc := toIntSS_says m (by omega) (fun x hx => by have := hq2 x hx; omega)
    have he := eqIntSS_refl m hm hr
    obtain ⟨K1, h1⟩ := Ev.two ht hs
    obtain ⟨K2, h2⟩ := Ev.two hi hc
    obtain ⟨K3, h3⟩ := he
    have a1 := h1 (max (max K1 K2) K3) (by omega)
    have a2 := h2 (max (max K1 K2) K3) (by omega)
    have a3 := h3 (max (max K1 K2) K3) (by omega)
    refine ⟨max (max K1 K2) K3, ?_⟩
    simp only at a1 a2 a3
    simp only [laws_FnExactRanked.f, a1.1, a1.2, a2.1, a2.2, a3, Option.bind_some, bne_self_eq_false, Bool.false_eq_true, if_false, if_true]
    split <;> rfl
end Go.Proofs.Ytkamfnmbidnhdaa.Pure
