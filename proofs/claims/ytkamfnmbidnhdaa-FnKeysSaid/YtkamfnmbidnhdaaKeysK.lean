/- Both KeyOrders answer one plain function of two values; it turns around with them. -/
import Derived.Test.YtkamfnmbidnhdaaKeysO
import Derived.Test.YtkamfnmbidnhdaaPf15
import Derived.Test.YtkamfnmbidnhdaaPf17
set_option linter.unusedVariables false
set_option linter.unusedSimpArgs false
namespace Go.Proofs.Ytkamfnmbidnhdaa.P
open Go.RowKit Go.Proofs.YtkamfnmbidnhdaaW.PrintWords Go.Proofs.Ytkamfnmbidnhdaa.M
/-- Both KeyOrders. -/
def koB (x y : V) : Int := if keyB x.k x.n x.s x.a = true then (if keyB y.k y.n y.s y.a = true then (if lessB x y = true then -1 else if lessB y x = true then 1 else 0) else 2) else 2
theorem specKo (x y : V) (hs : x.s.size ≤ maxLen) (hs' : y.s.size ≤ maxLen) : Ev (fun r => spec_KeyOrder.f r x.k x.n x.s x.a y.k y.n y.s y.a) (koB x y) := by
  obtain ⟨K, hK⟩ := l2less_says x y hs
  obtain ⟨K', hK'⟩ := l2less_says y x hs'
  refine ⟨max K K' + 1, fun r hr => ?_⟩
  obtain ⟨r, rfl⟩ : ∃ m, r = m + 1 := ⟨r - 1, by omega⟩
  have h1 := hK r (by omega)
  have h2 := hK' r (by omega)
  simp only at h1 h2
  simp only [spec_KeyOrder.f, l2key_says, Option.bind_some, koB]
  by_cases c1 : keyB x.k x.n x.s x.a = true
  · rw [if_pos c1, if_pos c1]
    by_cases c2 : keyB y.k y.n y.s y.a = true
    · rw [if_pos c2, c2]
      simp only [spec_KeyOrder.j0, h1, h2, Option.bind_some, Bool.not_true, Bool.false_eq_true, if_false]
      split <;> (try split) <;> rfl
    · rw [if_neg c2, Bool.eq_false_iff.2 c2]
      simp [spec_KeyOrder.j0]
  · rw [if_neg c1, if_neg c1]
    simp [spec_KeyOrder.j0]
theorem key_kind {x : V} (h : keyB x.k x.n x.s x.a = true) : 0 ≤ x.k ∧ x.k ≤ 4 := by
  simp only [keyB, Bool.and_eq_true, decide_eq_true_eq] at h
  omega
theorem implKo (x y : V) : Ev (fun r => impl_KeyOrder.f r x.k x.n x.s x.a y.k y.n y.s y.a) (koB x y) := by
  by_cases c1 : keyB x.k x.n x.s x.a = true
  · by_cases c2 : keyB y.k y.n y.s y.a = true
    · obtain ⟨K, hK⟩ := order_says x y (key_kind c1) (key_kind c2)
      refine ⟨K, fun r hr => ?_⟩
      have h1 := hK r hr
      simp only at h1
      simp only [impl_KeyOrder.f, keyOk_says, Option.bind_some, koB, c1, c2, if_true, h1]
      exact congrArg some (ord_less c1 c2)
    · refine ⟨0, fun r _ => ?_⟩
      simp only [impl_KeyOrder.f, keyOk_says, Option.bind_some, koB, c1, c2, if_true]
      rfl
  · refine ⟨0, fun r _ => ?_⟩
    simp only [impl_KeyOrder.f, keyOk_says, Option.bind_some, koB, c1]
    rfl
theorem lex_asymm : ∀ a b : List UInt8, lexB a b = true → lexB b a = false
  | [], [], h => by simp [lexB] at h
  | [], _ :: _, _ => by simp [lexB]
  | _ :: _, [], h => by simp [lexB] at h
  | a :: xs, b :: ys, h => by
    simp only [lexB] at h ⊢
    by_cases e : a = b
    · subst e
      simp only [if_true] at h ⊢
      exact lex_asymm xs ys h
    · rw [if_neg e] at h
      rw [if_neg (fun q => e q.symm)]
      have h1 : a < b := of_decide_eq_true h
      exact decide_eq_false (UInt8.not_lt.2 (UInt8.le_of_lt h1))
theorem lex_tri : ∀ a b : List UInt8, lexB a b = false → lexB b a = false → a = b
  | [], [], _, _ => rfl
  | [], _ :: _, h, _ => by simp [lexB] at h
  | _ :: _, [], _, h => by simp [lexB] at h
  | a :: xs, b :: ys, h, k => by
    simp only [lexB] at h k
    by_cases e : a = b
    · subst e
      simp only [if_true] at h k
      rw [lex_tri xs ys h k]
    · rw [if_neg e] at h
      rw [if_neg (fun q => e q.symm)] at k
      have h1 := UInt8.not_lt.1 (of_decide_eq_false h)
      have h2 := UInt8.not_lt.1 (of_decide_eq_false k)
      exact absurd (UInt8.le_antisymm h2 h1) e
theorem less_asymm (x y : V) (h : lessB x y = true) : lessB y x = false := by
  unfold lessB at h ⊢
  by_cases e : x.k = y.k
  · rw [if_pos e] at h
    rw [if_pos e.symm]
    by_cases e3 : x.k = 3
    · rw [if_pos e3] at h
      rw [if_pos (by omega)]
      exact lex_asymm _ _ h
    · rw [if_neg e3] at h
      rw [if_neg (by omega)]
      have := of_decide_eq_true h
      exact decide_eq_false (by omega)
  · rw [if_neg e] at h
    rw [if_neg (fun q => e q.symm)]
    have := of_decide_eq_true h
    exact decide_eq_false (by omega)
theorem key_parts {x : V} (h : keyB x.k x.n x.s x.a = true) : x.a = 0 ∧ (x.k = 3 → x.n = 0) ∧ (x.k ≠ 3 → x.s.toList = []) := by
  simp only [keyB, Bool.and_eq_true, decide_eq_true_eq] at h
  obtain ⟨⟨h1, h3⟩, hv⟩ := h
  have hk : x.k = 1 ∨ x.k = 2 ∨ x.k = 3 := by omega
  unfold valB at hv
  rcases hk with e | e | e <;> simp [e] at hv <;> simp [e, hv]
theorem less_tri (x y : V) (hx : keyB x.k x.n x.s x.a = true) (hy : keyB y.k y.n y.s y.a = true) (h : lessB x y = false) (k : lessB y x = false) : x = y := by
  have px := key_parts hx
  have py := key_parts hy
  unfold lessB at h k
  by_cases e : x.k = y.k
  · rw [if_pos e] at h
    rw [if_pos e.symm] at k
    by_cases e3 : x.k = 3
    · rw [if_pos e3] at h
      rw [if_pos (by omega)] at k
      have hs := text_eq.1 (lex_tri _ _ h k)
      have h1 := px.2.1 e3
      have h2 := py.2.1 (by omega)
      cases x; cases y
      simp only [V.mk.injEq] at *
      exact ⟨e, by omega, hs, by omega⟩
    · rw [if_neg e3] at h
      rw [if_neg (by omega)] at k
      have h1 := of_decide_eq_false h
      have h2 := of_decide_eq_false k
      have s1 := px.2.2 e3
      have s2 := py.2.2 (by omega)
      have hs := text_eq.1 (s1.trans s2.symm)
      cases x; cases y
      simp only [V.mk.injEq] at *
      exact ⟨e, by omega, hs, by omega⟩
  · rw [if_neg e] at h
    rw [if_neg (fun q => e q.symm)] at k
    have h1 := of_decide_eq_false h
    have h2 := of_decide_eq_false k
    omega
theorem ko_two {x y : V} : koB x y = 2 ↔ ¬ (keyB x.k x.n x.s x.a = true ∧ keyB y.k y.n y.s y.a = true) := by
  unfold koB
  by_cases c1 : keyB x.k x.n x.s x.a = true
  · by_cases c2 : keyB y.k y.n y.s y.a = true
    · simp only [c1, c2, if_true, and_self, not_true, iff_false]
      split
      · omega
      · split <;> omega
    · simp [c1, c2]
  · simp [c1]
theorem ko_turn {x y : V} (h : koB x y ≠ 2) : koB y x = -koB x y ∧ (koB x y = 0 ↔ x = y) := by
  have h1 := ko_two (x := x) (y := y)
  have hk : keyB x.k x.n x.s x.a = true ∧ keyB y.k y.n y.s y.a = true := by
    by_cases c : keyB x.k x.n x.s x.a = true ∧ keyB y.k y.n y.s y.a = true
    · exact c
    · exact absurd (h1.2 c) h
  obtain ⟨c1, c2⟩ := hk
  unfold koB
  simp only [c1, c2, if_true]
  by_cases l1 : lessB x y = true
  · have l2 := less_asymm x y l1
    simp only [l1, l2, if_true, Bool.false_eq_true, if_false]
    refine ⟨by omega, ?_⟩
    constructor
    · intro q; omega
    · rintro rfl; rw [l1] at l2; cases l2
  · replace l1 := (Bool.not_eq_true _).mp l1
    by_cases l2 : lessB y x = true
    · simp only [l1, l2, if_true, Bool.false_eq_true, if_false]
      refine ⟨trivial, ?_⟩
      constructor
      · intro q; omega
      · rintro rfl; rw [l1] at l2; cases l2
    · replace l2 := (Bool.not_eq_true _).mp l2
      simp only [l1, l2, Bool.false_eq_true, if_false]
      exact ⟨by omega, fun _ => less_tri x y c1 c2 l1 l2, fun _ => trivial⟩
end Go.Proofs.Ytkamfnmbidnhdaa.P
