/- FnExactGraphOk: of any graph the program's GraphOk says what the reference's says, and leaves the graph as it was. No condition. -/
import Derived.Test.YtkamfnmbidnhdaaSayFnExactGraphOk
import Derived.Test.YtkamfnmbidnhdaaGraphsP
namespace Go.Proofs.Ytkamfnmbidnhdaa.Pure
open Go.RowKit Go.Proofs.Ytkamfnmbidnhdaa.P Go.Proofs.YtkamfnmbidnhdaaW.PrintWords Go.Proofs.Ytkamfnmbidnhdaa.M
theorem small_v {x : LV} (h : g26 x) : smallV x := by
  have := h.2.2.1
  simpa [smallV, maxLen] using this
theorem small_p {x : LP} (h : g146 x) : smallP x := ⟨small_v h.1, small_v h.2⟩
theorem small_t {x : LT} (h : g117 x) : smallT x := ⟨h.1, fun p hp => small_p (h.2 p hp)⟩
theorem FnExactGraphOk : laws_FnExactGraphOk.Pure := by
  rintro ⟨g, T⟩ hv ⟨hT, hs⟩
  have hsm : ∀ t, t ∈ T → smallT t := fun t ht => small_t (hs t ht)
  have hz := szGraph_says g.f0 g.f1 g.f2 g.f3 (small_v hv) T hT hsm 1048576 (by omega) (by omega)
  by_cases c : cut 1048576 (g.f2.size + szts T) < 0
  · obtain ⟨K, hK⟩ := hz
    refine ⟨K, ?_⟩
    have h1 := hK K (Nat.le_refl _)
    try simp only at h1
    simp only [laws_FnExactGraphOk.f, h1, Option.bind_some]
    rw [if_pos c]
  · have hN : szts T ≤ 1048576 := by rw [cut_neg (by omega)] at c; omega
    obtain ⟨hl, hr⟩ := sz_small hN
    have hc := toGraph_says g.f0 g.f1 g.f2 g.f3 T (by omega) (fun t ht => by have := hr t ht; omega)
    have ho := specOk_says g.f0 g.f1 g.f2 g.f3 (T.map tT) (by simp; omega)
    have he := eqGraph_refl g.f0 g.f1 g.f2 g.f3 (T.map tT) (by simp; omega) (by
      intro x hx
      obtain ⟨t, ht, rfl⟩ := List.mem_map.1 hx
      have := hr t ht
      simp only [tT, List.length_map]; omega)
    obtain ⟨K1, h1⟩ := Ev.two hz hc
    obtain ⟨K2, h2⟩ := Ev.two ho he
    have a1 := h1 (max K1 K2) (by omega)
    have a2 := h2 (max K1 K2) (by omega)
    refine ⟨max K1 K2, ?_⟩
    try simp only at a1 a2
    simp only [laws_FnExactGraphOk.f, a1.1, a1.2, a2.1, a2.2, Option.bind_some, impl_GraphOk.f, bne_self_eq_false, Bool.false_eq_true, if_false, if_true]
    rw [if_neg c]
end Go.Proofs.Ytkamfnmbidnhdaa.Pure
