/- FnExactGet: of any graph and path the program's Get answers what the reference's answers, and leaves both as they were. No condition. -/
import Derived.Test.YtkamfnmbidnhdaaSayFnExactGet
import Derived.Test.YtkamfnmbidnhdaaGetP
namespace Go.Proofs.Ytkamfnmbidnhdaa.Pure
open Go.RowKit Go.Proofs.Ytkamfnmbidnhdaa.P Go.Proofs.YtkamfnmbidnhdaaW.PrintWords Go.Proofs.Ytkamfnmbidnhdaa.M
theorem small_v {x : LV} (h : g26 x) : smallV x := by
  have := h.2.2.1
  simpa [smallV, maxLen] using this
theorem small_p {x : LP} (h : g146 x) : smallP x := ⟨small_v h.1, small_v h.2⟩
theorem small_t {x : LT} (h : g117 x) : smallT x := ⟨h.1, fun p hp => small_p (h.2 p hp)⟩
theorem FnExactGet : laws_FnExactGet.Pure := by
  rintro ⟨g, T⟩ P hv ⟨hT, hs⟩ ⟨hP, hq⟩
  have hsm : ∀ t, t ∈ T → smallT t := fun t ht => small_t (hs t ht)
  have hz := szGraph_says g.f0 g.f1 g.f2 g.f3 (small_v hv) T hT hsm 1048576 (by omega) (by omega)
  by_cases c : cut 1048576 (g.f2.size + szts T) < 0
  · obtain ⟨K, hK⟩ := hz
    refine ⟨K, ?_⟩
    have h1 := hK K (Nat.le_refl _)
    try simp only at h1
    simp only [laws_FnExactGet.f, h1, Option.bind_some]
    rw [if_pos c]
  · have hN : ((g.f2.size + szts T : Nat) : Int) ≤ 1048576 := by rw [cut_neg (by omega)] at c; omega
    have hN2 : szts T ≤ 1048576 := by omega
    obtain ⟨hl, hr⟩ := sz_small hN2
    have hz2 := szValS_says P hP (fun p hp => small_v (hq p hp)) (cut 1048576 (g.f2.size + szts T)) (by omega) (by rw [cut_pos hN]; omega)
    by_cases d : cut (cut 1048576 (g.f2.size + szts T)) (szvs P) < 0
    · obtain ⟨K, hK⟩ := Ev.two hz hz2
      refine ⟨K, ?_⟩
      have h1 := hK K (Nat.le_refl _)
      try simp only at h1
      simp only [laws_FnExactGet.f, h1.1, h1.2, Option.bind_some]
      rw [if_neg c, if_pos d]
    · have hPl : P.length ≤ 1048576 := by
        rw [cut_neg (by omega), cut_pos hN] at d
        simp only [szvs] at d
        omega
      have hc := toGraph_says g.f0 g.f1 g.f2 g.f3 T (by omega) (fun t ht => by have := hr t ht; omega)
      have hc2 := toValS_says P (by omega)
      have he := eqGraph_refl g.f0 g.f1 g.f2 g.f3 (T.map tT) (by simp; omega) (by
        intro x hx
        obtain ⟨t, ht, rfl⟩ := List.mem_map.1 hx
        have := hr t ht
        simp only [tT, List.length_map]; omega)
      have he2 := eqValS_refl (P.map tV) (by simp; omega)
      obtain ⟨v, hs1, hs2⟩ := get_says g.f0 g.f1 g.f2 g.f3 (T.map tT) (by simp; omega) (P.map tV) (by simp; omega)
      obtain ⟨K1, h1⟩ := Ev.two hz hz2
      obtain ⟨K2, h2⟩ := Ev.two hc hc2
      obtain ⟨K3, h3⟩ := Ev.two he he2
      obtain ⟨K4, h4⟩ := Ev.two hs1 hs2
      have a1 := h1 (max (max K1 K2) (max K3 K4)) (by omega)
      have a2 := h2 (max (max K1 K2) (max K3 K4)) (by omega)
      have a3 := h3 (max (max K1 K2) (max K3 K4)) (by omega)
      have a4 := h4 (max (max K1 K2) (max K3 K4)) (by omega)
      refine ⟨max (max K1 K2) (max K3 K4), ?_⟩
      try simp only at a1 a2 a3 a4
      simp only [laws_FnExactGet.f, a1.1, a1.2, a2.1, a2.2, a3.1, a3.2, a4.1, a4.2, Option.bind_some, eqVal_refl, if_true]
      rw [if_neg c, if_neg d]
end Go.Proofs.Ytkamfnmbidnhdaa.Pure
