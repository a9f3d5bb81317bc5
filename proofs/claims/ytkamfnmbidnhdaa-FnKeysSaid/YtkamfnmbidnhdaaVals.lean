/- Values and keys in plain words: when a value is well made, how keys are ordered. No program, no condition. -/
import Derived.Test.YtkamfnmbidnhdaaWWords
import Derived.Test.YtkamfnmbidnhdaaWm
import Derived.Lib.Bytealg
namespace Go.Proofs.Ytkamfnmbidnhdaa.M
open Go.RowKit
/-- A value: kind, number, text, place. -/
structure V where
  k : Int
  n : Int
  s : ByteArray
  a : Int
  deriving DecidableEq
theorem bits_one (n : Int) : Go.bits .and .i64 n 1 = n % 2 := by
  simp only [Go.bits, BitVec.toNat_and, BitVec.toNat_ofInt]
  rw [show ((1 : Int) % ((2 ^ IntKind.i64.bits : Nat) : Int)).toNat = 1 from by decide, Nat.and_one_is_mod, IntKind.wrap_i64]
  have : ((2 ^ IntKind.i64.bits : Nat) : Int) = 18446744073709551616 := by decide
  rw [this]
  omega
theorem text_nil {s : ByteArray} : s.toList = [] ↔ s.size = 0 := by
  rw [ByteArray.toList_eq]
  cases s with | mk d => simp [ByteArray.size]
theorem text_eq {s t : ByteArray} : s.toList = t.toList ↔ s = t := by
  rw [ByteArray.toList_eq, ByteArray.toList_eq]
  constructor
  · intro h
    cases s with | mk d =>
    cases t with | mk f =>
    exact congrArg ByteArray.mk (Array.toList_inj.1 h)
  · rintro rfl; rfl
/-- A value is well made, among t tables. -/
def valB (k n : Int) (s : ByteArray) (a t : Int) : Bool :=
  if k = 0 then decide (n = 0 ∧ s.toList = [] ∧ a = 0)
  else if k = 1 then decide ((n = 0 ∨ n = 1) ∧ s.toList = [] ∧ a = 0)
  else if k = 2 then decide (s.toList = [] ∧ a = 0)
  else if k = 3 then decide (n = 0 ∧ a = 0 ∧ (s.size : Int) ≤ 500)
  else if k = 4 then decide (n = 0 ∧ s.toList = [] ∧ 0 ≤ a ∧ a < t)
  else false
def keyB (k n : Int) (s : ByteArray) (a : Int) : Bool := decide (1 ≤ k ∧ k ≤ 3) && valB k n s a 0
/-- The order of texts, byte by byte. -/
def lexB : List UInt8 → List UInt8 → Bool
  | [], [] => false
  | [], _ :: _ => true
  | _ :: _, [] => false
  | a :: as, b :: bs => if a = b then lexB as bs else decide (a < b)
def lessB (x y : V) : Bool := if x.k = y.k then (if x.k = 3 then lexB x.s.toList y.s.toList else decide (x.n < y.n)) else decide (x.k < y.k)
def ordI (x y : V) : Int :=
  if x.k - y.k ≠ 0 then x.k - y.k else if x.n < y.n then -1 else if y.n < x.n then 1 else Lib.compareBytes x.s.toList y.s.toList
def isKey (x : V) : Prop := keyB x.k x.n x.s x.a = true
theorem compare_lex : ∀ (a b : List UInt8), Lib.compareBytes a b = if lexB a b = true then -1 else if lexB b a = true then 1 else 0
  | [], [] => by simp [Lib.compareBytes, lexB]
  | [], b :: bs => by simp [Lib.compareBytes, lexB]
  | a :: as, [] => by simp [Lib.compareBytes, lexB]
  | a :: as, b :: bs => by
    rw [Lib.compareBytes, compare_lex as bs]
    by_cases h : a = b
    · subst h
      simp [lexB, UInt8.lt_irrefl]
    · by_cases h1 : a < b
      · simp [lexB, h, h1]
      · have h2 : b < a := by
          rcases UInt8.lt_or_lt_of_ne h with h3 | h3
          · exact absurd h3 h1
          · exact h3
        have h4 : ¬ b = a := fun e => h e.symm
        simp [lexB, h, h1, h2, h4]
theorem lexB_nil_right (a : List UInt8) : lexB a [] = false := by cases a <;> rfl
/-- What the program says of two keys is what the order says. -/
theorem ord_less {x y : V} (hx : isKey x) (hy : isKey y) : (let o := ordI x y; let m := if -1 < o then o else -1; if m < 1 then m else 1) = if lessB x y = true then -1 else if lessB y x = true then 1 else 0 := by
  obtain ⟨k, n, s, a⟩ := x
  obtain ⟨k', n', s', a'⟩ := y
  simp only [isKey, keyB, Bool.and_eq_true, decide_eq_true_eq] at hx hy
  obtain ⟨⟨h1, h3⟩, hx⟩ := hx
  obtain ⟨⟨h1', h3'⟩, hy⟩ := hy
  simp only [ordI, lessB]
  by_cases hk : k = k'
  · subst hk
    rw [if_neg (show ¬ (k - k ≠ 0) by omega)]
    simp only [if_true]
    by_cases k3 : k = 3
    · subst k3
      have e1 : n = 0 := by simp [valB] at hx; exact hx.1
      have e2 : n' = 0 := by simp [valB] at hy; exact hy.1
      subst e1 e2
      simp only [if_true, compare_lex, Int.lt_irrefl, if_false]
      by_cases c1 : lexB s.toList s'.toList = true
      · simp [c1]
      · by_cases c2 : lexB s'.toList s.toList = true
        · simp [c1, c2]
        · simp [c1, c2]
    · have e1 : s.toList = [] := by
        rcases (show k = 1 ∨ k = 2 by omega) with rfl | rfl
        · simp [valB] at hx; exact hx.2.1
        · simp [valB] at hx; exact hx.1
      have e2 : s'.toList = [] := by
        rcases (show k = 1 ∨ k = 2 by omega) with rfl | rfl
        · simp [valB] at hy; exact hy.2.1
        · simp [valB] at hy; exact hy.1
      rw [if_neg k3, if_neg k3, e1, e2]
      simp only [Lib.compareBytes, decide_eq_true_eq]
      by_cases c1 : n < n'
      · simp [c1]
      · by_cases c2 : n' < n
        · simp [c1, c2]
        · simp [c1, c2]
  · rw [if_pos (show k - k' ≠ 0 by omega), if_neg hk, if_neg (show ¬ k' = k by omega)]
    simp only [decide_eq_true_eq]
    by_cases c1 : k < k'
    · simp only [c1, if_true]
      rw [if_neg (show ¬ (-1 < k - k') by omega)]; rfl
    · have c2 : k' < k := by omega
      simp only [c1, c2, if_true, if_false]
      rw [if_pos (show -1 < k - k' by omega)]
      split <;> omega
end Go.Proofs.Ytkamfnmbidnhdaa.M
