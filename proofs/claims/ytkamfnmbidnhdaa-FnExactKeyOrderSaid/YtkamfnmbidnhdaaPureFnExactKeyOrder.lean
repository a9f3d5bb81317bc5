/- FnExactKeyOrder: of any two values the program's KeyOrder returns what the reference's returns. No condition. -/
import Derived.Test.YtkamfnmbidnhdaaSayFnExactKeyOrder
import Derived.Test.YtkamfnmbidnhdaaKeysP
namespace Go.Proofs.Ytkamfnmbidnhdaa.Pure
open Go.RowKit Go.Proofs.Ytkamfnmbidnhdaa.P Go.Proofs.YtkamfnmbidnhdaaW.PrintWords Go.Proofs.Ytkamfnmbidnhdaa.M
/-- Both KeyOrders. -/
def koB (x y : V) : Int := if keyB x.k x.n x.s x.a = true then (if keyB y.k y.n y.s y.a = true then (if lessB x y = true then -1 else if lessB y x = true then 1 else 0) else 2) else 2
theorem specKo (x y : V) (hs : x.s.size ≤ maxLen) (hs' : y.s.size ≤ maxLen) : Ev (fun r => spec_KeyOrder.f r x.k x.n x.s x.a y.k y.n y.s y.a) (koB x y) := by
  obtain ⟨K, hK⟩ := l2less_says x y hs
  obtain ⟨K', hK'⟩ := l2less_says y x hs'
  refine ⟨max K K' + 1, fun r hr => ?_⟩
  obtain ⟨r, rfl⟩ : ∃ m, r = m + 1 := ⟨r - 1, by omega⟩
  have h1 := hK r (by omega)
  have h2 := hK' r (by omega)
  simp only at h1 h2
  simp only [spec_KeyOrder.f, l2key_says, Option.bind_some, koB]
  by_cases c1 : keyB x.k x.n x.s x.a = true
  · rw [if_pos c1, if_pos c1]
    by_cases c2 : keyB y.k y.n y.s y.a = true
    · rw [if_pos c2, c2]
      simp only [spec_KeyOrder.j0, h1, h2, Option.bind_some, Bool.not_true, Bool.false_eq_true, if_false]
      split <;> (try split) <;> rfl
    · rw [if_neg c2, Bool.eq_false_iff.2 c2]
      simp [spec_KeyOrder.j0]
  · rw [if_neg c1, if_neg c1]
    simp [spec_KeyOrder.j0]
theorem key_kind {x : V} (h : keyB x.k x.n x.s x.a = true) : 0 ≤ x.k ∧ x.k ≤ 4 := by
  simp only [keyB, Bool.and_eq_true, decide_eq_true_eq] at h
  omega
theorem implKo (x y : V) : Ev (fun r => impl_KeyOrder.f r x.k x.n x.s x.a y.k y.n y.s y.a) (koB x y) := by
  by_cases c1 : keyB x.k x.n x.s x.a = true
  · by_cases c2 : keyB y.k y.n y.s y.a = true
    · obtain ⟨K, hK⟩ := order_says x y (key_kind c1) (key_kind c2)
      refine ⟨K, fun r hr => ?_⟩
      have h1 := hK r hr
      simp only at h1
      simp only [impl_KeyOrder.f, keyOk_says, Option.bind_some, koB, c1, c2, if_true, h1]
      exact congrArg some (ord_less c1 c2)
    · refine ⟨0, fun r _ => ?_⟩
      simp only [impl_KeyOrder.f, keyOk_says, Option.bind_some, koB, c1, c2, if_true]
      rfl
  · refine ⟨0, fun r _ => ?_⟩
    simp only [impl_KeyOrder.f, keyOk_says, Option.bind_some, koB, c1]
    rfl
theorem FnExactKeyOrder : laws_FnExactKeyOrder.Pure := by
  rintro ⟨k, n, s, a⟩ ⟨k', n', s', a'⟩ _ _ h3 _ _ _ h3' _
  obtain ⟨K, hK⟩ := specKo ⟨k, n, s, a⟩ ⟨k', n', s', a'⟩ h3 h3'
  obtain ⟨K', hK'⟩ := implKo ⟨k, n, s, a⟩ ⟨k', n', s', a'⟩
  have h1 := hK (max K K') (by omega)
  have h2 := hK' (max K K') (by omega)
  refine ⟨max K K', ?_⟩
  simp only at h1 h2
  simp only [laws_FnExactKeyOrder.f, laws_szVal.f, laws_toVal.f, Option.bind_some, h1, h2, if_true]
  repeat' (first | rfl | split | simp only [Option.bind_some, ite_self])
end Go.Proofs.Ytkamfnmbidnhdaa.Pure
