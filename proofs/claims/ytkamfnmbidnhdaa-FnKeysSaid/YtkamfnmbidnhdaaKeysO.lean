/- The order of keys: what the printed functions answer, in plain words. -/
import Derived.Test.YtkamfnmbidnhdaaKeysP
import Derived.Test.YtkamfnmbidnhdaaPf46
import Derived.Test.YtkamfnmbidnhdaaPf44
namespace Go.Proofs.Ytkamfnmbidnhdaa.P
open Go.RowKit Go.Proofs.YtkamfnmbidnhdaaW.PrintWords Go.Proofs.Ytkamfnmbidnhdaa.M
theorem bt_lex (s : ByteArray) (i : Nat) (h : i < s.size) : ∃ c : UInt8, s.toList.drop i = c :: s.toList.drop (i + 1) ∧ bt s (i : Int) = (c.toNat : Int) := by
  have hl : s.toList.length = s.size := by rw [ByteArray.toList_eq]; rfl
  refine ⟨s[i], ?_, ?_⟩
  · rw [List.drop_eq_getElem_cons (by omega)]
    congr 1
    simp only [ByteArray.toList_eq]
    rfl
  · have := bt_at s (i : Int) (by simpa using h)
    simpa using this.symm
theorem less_loop (k n : Int) (a : Int) (k' n' : Int) (a' : Int) (s s' : ByteArray) (hs : s.size ≤ maxLen) (d : Nat) : ∀ i : Nat, s.size - i = d → i ≤ s.size → i ≤ s'.size →
    Ev (fun r => spec_l2less.l0 r (i : Int) k n s a k' n' s' a') (lexB (s.toList.drop i) (s'.toList.drop i)) := by
  have hl : s.toList.length = s.size := by rw [ByteArray.toList_eq]; rfl
  have hl' : s'.toList.length = s'.size := by rw [ByteArray.toList_eq]; rfl
  simp only [maxLen] at hs
  induction d with
  | zero =>
    intro i hd h1 h2
    have e : i = s.size := by omega
    refine ⟨2, fun r hr => ?_⟩
    obtain ⟨r, rfl⟩ : ∃ m, r = m + 2 := ⟨r - 2, by omega⟩
    simp only [spec_l2less.l0, spec_l2less.j1]
    rw [if_neg (by omega), List.drop_of_length_le (l := s.toList) (by omega)]
    simp only [Bool.false_eq_true, if_false]
    by_cases hlt : s.size < s'.size
    · obtain ⟨c, hc, _⟩ := bt_lex s' i (by omega)
      rw [hc]
      simp [lexB, hlt]
    · rw [List.drop_of_length_le (by omega)]
      simp [lexB, hlt]
  | succ d ih =>
    intro i hd h1 h2
    have hi : i < s.size := by omega
    by_cases h3 : i < s'.size
    · obtain ⟨c, hc, hb⟩ := bt_lex s i hi
      obtain ⟨c', hc', hb'⟩ := bt_lex s' i h3
      obtain ⟨K, hK⟩ := ih (i + 1) (by omega) (by omega) (by omega)
      refine ⟨K + 2, fun r hr => ?_⟩
      obtain ⟨r, rfl⟩ : ∃ m, r = m + 2 := ⟨r - 2, by omega⟩
      simp only [spec_l2less.l0, spec_l2less.j1]
      rw [if_pos (by omega), if_pos (by simpa using h3), if_pos (by omega), if_pos (by omega), if_pos (by omega), hb, hb', hc, hc']
      have hw : wrap64 ((i : Int) + 1) = ((i + 1 : Nat) : Int) := by unfold wrap64; omega
      by_cases e : c = c'
      · subst e
        rw [if_pos rfl, hw]
        exact (hK r (by omega)).trans (by simp [lexB])
      · have : ¬ ((c.toNat : Int) = (c'.toNat : Int)) := fun h => e (UInt8.toNat_inj.1 (by omega))
        rw [if_neg this]
        simp [lexB, e, UInt8.lt_iff_toNat_lt]
    · refine ⟨2, fun r hr => ?_⟩
      obtain ⟨r, rfl⟩ : ∃ m, r = m + 2 := ⟨r - 2, by omega⟩
      simp only [spec_l2less.l0, spec_l2less.j1]
      have hd' : decide ((i : Int) < (s'.size : Int)) = false := decide_eq_false (by omega)
      rw [if_pos (by omega), hd']
      simp only [Bool.false_eq_true, if_false]
      obtain ⟨c, hc, _⟩ := bt_lex s i hi
      rw [hc, List.drop_of_length_le (l := s'.toList) (by omega)]
      have : ¬ s.size < s'.size := by omega
      simp [lexB, this]
theorem l2less_says (x y : V) (hs : x.s.size ≤ maxLen) : Ev (fun r => spec_l2less.f r x.k x.n x.s x.a y.k y.n y.s y.a) (lessB x y) := by
  obtain ⟨K, hK⟩ := less_loop x.k x.n x.a y.k y.n y.a x.s y.s hs x.s.size 0 rfl (Nat.zero_le _) (Nat.zero_le _)
  refine ⟨K, fun r hr => ?_⟩
  have h0 := hK r hr
  simp only [List.drop_zero] at h0
  simp only [spec_l2less.f, lessB]
  by_cases h1 : x.k = y.k
  · rw [if_pos h1, if_pos h1]
    by_cases h2 : x.k = 3
    · rw [if_pos h2, if_pos h2]; exact h0
    · rw [if_neg h2, if_neg h2]
  · rw [if_neg h1, if_neg h1]
theorem or3 (a b c : Int) (r : Nat) : cmp_Or_int.f (r + 4) [a, b, c] = some (if a ≠ 0 then a else if b ≠ 0 then b else c) := by
  unfold cmp_Or_int.f
  have w1 : wrap64 1 = 1 := by unfold wrap64; omega
  have w2 : wrap64 2 = 2 := by unfold wrap64; omega
  have w3 : wrap64 3 = 3 := by unfold wrap64; omega
  have r0 : rd [a, b, c] 0 = a := rfl
  have r1 : rd [a, b, c] 1 = b := rfl
  have r2 : rd [a, b, c] 2 = c := rfl
  simp only [cmp_Or_int.l0, List.length_cons, List.length_nil, r0, Int.zero_add, w1, r1, show (1 : Int) + 1 = 2 from rfl, w2, r2, show (2 : Int) + 1 = 3 from rfl, w3]
  by_cases ha : a = 0
  · by_cases hb : b = 0
    · by_cases hc : c = 0
      · simp [ha, hb, hc]
      · simp [ha, hb, hc]
    · simp [ha, hb]
  · simp [ha]
theorem order_says (x y : V) (hk : 0 ≤ x.k ∧ x.k ≤ 4) (hk' : 0 ≤ y.k ∧ y.k ≤ 4) : Ev (fun r => impl_order.f r x.k x.n x.s x.a y.k y.n y.s y.a) (ordI x y) := by
  refine ⟨4, fun r hr => ?_⟩
  obtain ⟨r, rfl⟩ : ∃ m, r = m + 4 := ⟨r - 4, by omega⟩
  have hw : wrap64 (x.k - y.k) = x.k - y.k := by unfold wrap64; omega
  simp only [impl_order.f, cmp_Compare_int64.f, cmp_isNaN_int64.f, strings_Compare.f, Option.bind_some, bne_self_eq_false, Bool.false_eq_true, if_false, hw, ordI, ← ByteArray.toList_eq]
  by_cases h1 : x.n < y.n
  · simp only [h1, if_true, Option.bind_some, or3]
    simp
  · by_cases h2 : y.n < x.n
    · have : x.n > y.n := h2
      simp only [h1, this, if_true, if_false, Option.bind_some, or3]
      simp
    · have : ¬ x.n > y.n := h2
      simp only [h1, this, if_false, Option.bind_some, or3]
      simp
end Go.Proofs.Ytkamfnmbidnhdaa.P
