/- What the printed functions on values and keys answer, in plain words. -/
import Derived.Test.YtkamfnmbidnhdaaVals
import Derived.Test.YtkamfnmbidnhdaaPf56
import Derived.Test.YtkamfnmbidnhdaaPf43
import Derived.Test.YtkamfnmbidnhdaaPf45
namespace Go.Proofs.Ytkamfnmbidnhdaa.P
open Go.RowKit Go.Proofs.YtkamfnmbidnhdaaW.PrintWords Go.Proofs.Ytkamfnmbidnhdaa.M
theorem l2val_says (r0 r1 : Int) (r2 : ByteArray) (r3 : Int) (l : List S80) (k n : Int) (s : ByteArray) (a : Int) : spec_l2val.f r0 r1 r2 r3 l k n s a = some (valB k n s a (l.length : Int)) := by
  unfold spec_l2val.f valB
  by_cases k0 : k = 0
  · subst k0; simp only [if_true]
    by_cases h1 : n = 0 <;> by_cases h2 : s.toList = [] <;> by_cases h3 : a = 0 <;> simp [h1, h2, h3]
  rw [if_neg k0, if_neg k0]
  by_cases k1 : k = 1
  · subst k1; simp only [if_true]
    by_cases h1 : n = 0 <;> by_cases h4 : n = 1 <;> by_cases h2 : s.toList = [] <;> by_cases h3 : a = 0 <;> simp [h1, h2, h3, h4]
  rw [if_neg k1, if_neg k1]
  by_cases k2 : k = 2
  · subst k2; simp only [if_true]
    by_cases h2 : s.toList = [] <;> by_cases h3 : a = 0 <;> simp [h2, h3]
  rw [if_neg k2, if_neg k2]
  by_cases k3 : k = 3
  · subst k3; simp only [if_true]
    by_cases h1 : n = 0 <;> by_cases h3 : a = 0 <;> simp [h1, h3]
  rw [if_neg k3, if_neg k3]
  by_cases k4 : k = 4
  · subst k4; simp only [if_true]
    by_cases h1 : n = 0 <;> by_cases h2 : s.toList = [] <;> by_cases h3 : 0 ≤ a <;> simp [h1, h2, h3]
  rw [if_neg k4, if_neg k4]
theorem l2key_says (k n : Int) (s : ByteArray) (a : Int) : spec_l2key.f k n s a = some (keyB k n s a) := by
  unfold spec_l2key.f keyB
  simp only [l2val_says, Option.bind_some, List.length_nil]
  by_cases k1 : k = 1
  · subst k1; simp
  by_cases k2 : k = 2
  · subst k2; simp
  by_cases k3 : k = 3
  · subst k3; simp
  rw [if_neg k1, if_neg k2, if_neg k3]
  have : ¬ (1 ≤ k ∧ k ≤ 3) := by omega
  simp [this]
theorem vok_says (k n : Int) (s : ByteArray) (a t : Int) : vok k n s a t = valB k n s a t := by
  have hs : (([] : List UInt8) == s.toList) = decide (s.toList = []) := by
    by_cases h : s.toList = []
    · rw [h]; rfl
    · rw [decide_eq_false h]; exact beq_eq_false_iff_ne.2 (fun e => h e.symm)
  have hz : ∀ x : Int, ((0 : Int) == x) = decide (x = 0) := fun x => by
    by_cases h : x = 0
    · subst h; rfl
    · rw [decide_eq_false h]; exact beq_eq_false_iff_ne.2 (fun e => h e.symm)
  unfold vok valB
  rw [hs, hz, hz, bits_one]
  have h2 : (n % 2 == n) = decide (n = 0 ∨ n = 1) := by
    by_cases h : n = 0 ∨ n = 1
    · rw [decide_eq_true h]; rcases h with rfl | rfl <;> rfl
    · rw [decide_eq_false h]; exact beq_eq_false_iff_ne.2 (by omega)
  rw [h2]
  simp only [Bool.decide_and]
theorem keyOk_says (k n : Int) (s : ByteArray) (a : Int) : impl_keyOk.f k n s a = some (keyB k n s a) := by
  unfold impl_keyOk.f keyB impl_valOk.f
  simp only [Option.bind_some, vok_says]
  by_cases h1 : k ≥ 1
  · by_cases h3 : k ≤ 3
    · have : 1 ≤ k ∧ k ≤ 3 := ⟨h1, h3⟩
      simp [h1, h3]
    · simp [h1, h3]
  · simp [h1]
end Go.Proofs.Ytkamfnmbidnhdaa.P
