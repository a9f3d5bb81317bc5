/- impl.valOk: the walk, a theorem a way, and the contract in the print's form. -/
import Derived.Test.YtkamfnmbidnhdaaPfq1
namespace Go.Proofs.Ytkamfnmbidnhdaa.P
open Go.RowKit Go.Proofs.YtkamfnmbidnhdaaW.PrintWords Go.Proofs.YtkamfnmbidnhdaaW.PrintLast Go.Proofs.YtkamfnmbidnhdaaW.PrintMore
attribute [local go_sem high] eqA29
set_option linter.unusedVariables false
theorem vo_set {B : Nat} {w W : World} {b j : Nat} {v : Value} (h : Below B w W) (hb : B ≤ b) : Below B w (W.setCell ⟨b, j, none⟩ v) := h.setCell hb v

set_option maxHeartbeats 1000000 in
set_option maxRecDepth 100000 in
theorem vo_0n (n : Int) (s : ByteArray) (a t : Int) (w : World) (h1 : (0 == n) = false) :
    Calls Try.prog 58 #[.agg #[.int .i64 0, .int .i64 n, .string s, .int .i64 a], .int .i64 t] w fun e w' => e = .returned (.bool false) ∧ Below w.heap.size w w' := by
  have hu29 := Try.underlying29
  go_enter Try.func58, Try.ntmps58
  go_wp2
  go_ret
  exact ⟨by first | rfl | (simp [*]; done), by repeat (first | exact Below.refl _ _ | (with_reducible apply vo_set) | (with_reducible apply below_alloc))⟩

set_option maxHeartbeats 1000000 in
set_option maxRecDepth 100000 in
theorem vo_0s (s : ByteArray) (a t : Int) (w : World) (h2 : (([] : List UInt8) == s.toList) = false) :
    Calls Try.prog 58 #[.agg #[.int .i64 0, .int .i64 0, .string s, .int .i64 a], .int .i64 t] w fun e w' => e = .returned (.bool false) ∧ Below w.heap.size w w' := by
  have hu29 := Try.underlying29
  go_enter Try.func58, Try.ntmps58
  go_wp2
  go_ret
  exact ⟨by first | rfl | (simp [*]; done), by repeat (first | exact Below.refl _ _ | (with_reducible apply vo_set) | (with_reducible apply below_alloc))⟩

set_option maxHeartbeats 1000000 in
set_option maxRecDepth 100000 in
theorem vo_0a (a t : Int) (w : World) (h3 : (0 == a) = false) :
    Calls Try.prog 58 #[.agg #[.int .i64 0, .int .i64 0, .string (⟨#[]⟩ : ByteArray), .int .i64 a], .int .i64 t] w fun e w' => e = .returned (.bool false) ∧ Below w.heap.size w w' := by
  have hu29 := Try.underlying29
  go_enter Try.func58, Try.ntmps58
  go_wp2
  go_ret
  exact ⟨by first | rfl | (simp [*]; done), by repeat (first | exact Below.refl _ _ | (with_reducible apply vo_set) | (with_reducible apply below_alloc))⟩

set_option maxHeartbeats 1000000 in
set_option maxRecDepth 100000 in
theorem vo_0 (t : Int) (w : World) :
    Calls Try.prog 58 #[.agg #[.int .i64 0, .int .i64 0, .string (⟨#[]⟩ : ByteArray), .int .i64 0], .int .i64 t] w fun e w' => e = .returned (.bool true) ∧ Below w.heap.size w w' := by
  have hu29 := Try.underlying29
  go_enter Try.func58, Try.ntmps58
  go_wp2
  go_ret
  exact ⟨by first | rfl | (simp [*]; done), by repeat (first | exact Below.refl _ _ | (with_reducible apply vo_set) | (with_reducible apply below_alloc))⟩

set_option maxHeartbeats 1000000 in
set_option maxRecDepth 100000 in
theorem vo_1n (n : Int) (s : ByteArray) (a t : Int) (w : World) (h1 : (Go.bits .and .i64 n 1 == n) = false) :
    Calls Try.prog 58 #[.agg #[.int .i64 1, .int .i64 n, .string s, .int .i64 a], .int .i64 t] w fun e w' => e = .returned (.bool false) ∧ Below w.heap.size w w' := by
  have hu29 := Try.underlying29
  go_enter Try.func58, Try.ntmps58
  go_wp2
  go_ret
  exact ⟨by first | rfl | (simp [*]; done), by repeat (first | exact Below.refl _ _ | (with_reducible apply vo_set) | (with_reducible apply below_alloc))⟩

set_option maxHeartbeats 1000000 in
set_option maxRecDepth 100000 in
theorem vo_1s (n : Int) (s : ByteArray) (a t : Int) (w : World) (h1 : (Go.bits .and .i64 n 1 == n) = true) (h2 : (([] : List UInt8) == s.toList) = false) :
    Calls Try.prog 58 #[.agg #[.int .i64 1, .int .i64 n, .string s, .int .i64 a], .int .i64 t] w fun e w' => e = .returned (.bool false) ∧ Below w.heap.size w w' := by
  have hu29 := Try.underlying29
  go_enter Try.func58, Try.ntmps58
  go_wp2
  go_ret
  exact ⟨by first | rfl | (simp [*]; done), by repeat (first | exact Below.refl _ _ | (with_reducible apply vo_set) | (with_reducible apply below_alloc))⟩

set_option maxHeartbeats 1000000 in
set_option maxRecDepth 100000 in
theorem vo_1a (n a t : Int) (w : World) (h1 : (Go.bits .and .i64 n 1 == n) = true) (h3 : (0 == a) = false) :
    Calls Try.prog 58 #[.agg #[.int .i64 1, .int .i64 n, .string (⟨#[]⟩ : ByteArray), .int .i64 a], .int .i64 t] w fun e w' => e = .returned (.bool false) ∧ Below w.heap.size w w' := by
  have hu29 := Try.underlying29
  go_enter Try.func58, Try.ntmps58
  go_wp2
  go_ret
  exact ⟨by first | rfl | (simp [*]; done), by repeat (first | exact Below.refl _ _ | (with_reducible apply vo_set) | (with_reducible apply below_alloc))⟩

set_option maxHeartbeats 1000000 in
set_option maxRecDepth 100000 in
theorem vo_1 (n t : Int) (w : World) (h1 : (Go.bits .and .i64 n 1 == n) = true) :
    Calls Try.prog 58 #[.agg #[.int .i64 1, .int .i64 n, .string (⟨#[]⟩ : ByteArray), .int .i64 0], .int .i64 t] w fun e w' => e = .returned (.bool true) ∧ Below w.heap.size w w' := by
  have hu29 := Try.underlying29
  go_enter Try.func58, Try.ntmps58
  go_wp2
  go_ret
  exact ⟨by first | rfl | (simp [*]; done), by repeat (first | exact Below.refl _ _ | (with_reducible apply vo_set) | (with_reducible apply below_alloc))⟩

set_option maxHeartbeats 1000000 in
set_option maxRecDepth 100000 in
theorem vo_2s (n : Int) (s : ByteArray) (a t : Int) (w : World) (h2 : (([] : List UInt8) == s.toList) = false) :
    Calls Try.prog 58 #[.agg #[.int .i64 2, .int .i64 n, .string s, .int .i64 a], .int .i64 t] w fun e w' => e = .returned (.bool false) ∧ Below w.heap.size w w' := by
  have hu29 := Try.underlying29
  go_enter Try.func58, Try.ntmps58
  go_wp2
  go_ret
  exact ⟨by first | rfl | (simp [*]; done), by repeat (first | exact Below.refl _ _ | (with_reducible apply vo_set) | (with_reducible apply below_alloc))⟩

set_option maxHeartbeats 1000000 in
set_option maxRecDepth 100000 in
theorem vo_2a (n a t : Int) (w : World) (h3 : (0 == a) = false) :
    Calls Try.prog 58 #[.agg #[.int .i64 2, .int .i64 n, .string (⟨#[]⟩ : ByteArray), .int .i64 a], .int .i64 t] w fun e w' => e = .returned (.bool false) ∧ Below w.heap.size w w' := by
  have hu29 := Try.underlying29
  go_enter Try.func58, Try.ntmps58
  go_wp2
  go_ret
  exact ⟨by first | rfl | (simp [*]; done), by repeat (first | exact Below.refl _ _ | (with_reducible apply vo_set) | (with_reducible apply below_alloc))⟩

set_option maxHeartbeats 1000000 in
set_option maxRecDepth 100000 in
theorem vo_2 (n t : Int) (w : World) :
    Calls Try.prog 58 #[.agg #[.int .i64 2, .int .i64 n, .string (⟨#[]⟩ : ByteArray), .int .i64 0], .int .i64 t] w fun e w' => e = .returned (.bool true) ∧ Below w.heap.size w w' := by
  have hu29 := Try.underlying29
  go_enter Try.func58, Try.ntmps58
  go_wp2
  go_ret
  exact ⟨by first | rfl | (simp [*]; done), by repeat (first | exact Below.refl _ _ | (with_reducible apply vo_set) | (with_reducible apply below_alloc))⟩

set_option maxHeartbeats 1000000 in
set_option maxRecDepth 100000 in
theorem vo_3n (n : Int) (s : ByteArray) (a t : Int) (w : World) (h1 : (0 == n) = false) :
    Calls Try.prog 58 #[.agg #[.int .i64 3, .int .i64 n, .string s, .int .i64 a], .int .i64 t] w fun e w' => e = .returned (.bool false) ∧ Below w.heap.size w w' := by
  have hu29 := Try.underlying29
  go_enter Try.func58, Try.ntmps58
  go_wp2
  go_ret
  exact ⟨by first | rfl | (simp [*]; done), by repeat (first | exact Below.refl _ _ | (with_reducible apply vo_set) | (with_reducible apply below_alloc))⟩

set_option maxHeartbeats 1000000 in
set_option maxRecDepth 100000 in
theorem vo_3a (s : ByteArray) (a t : Int) (w : World) (h3 : (0 == a) = false) :
    Calls Try.prog 58 #[.agg #[.int .i64 3, .int .i64 0, .string s, .int .i64 a], .int .i64 t] w fun e w' => e = .returned (.bool false) ∧ Below w.heap.size w w' := by
  have hu29 := Try.underlying29
  go_enter Try.func58, Try.ntmps58
  go_wp2
  go_ret
  exact ⟨by first | rfl | (simp [*]; done), by repeat (first | exact Below.refl _ _ | (with_reducible apply vo_set) | (with_reducible apply below_alloc))⟩

set_option maxHeartbeats 1000000 in
set_option maxRecDepth 100000 in
theorem vo_3 (s : ByteArray) (t : Int) (w : World) :
    Calls Try.prog 58 #[.agg #[.int .i64 3, .int .i64 0, .string s, .int .i64 0], .int .i64 t] w fun e w' => e = .returned (.bool (decide ((s.size : Int) ≤ 500))) ∧ Below w.heap.size w w' := by
  have hu29 := Try.underlying29
  go_enter Try.func58, Try.ntmps58
  go_wp2
  go_ret
  exact ⟨by first | rfl | (simp [*]; done), by repeat (first | exact Below.refl _ _ | (with_reducible apply vo_set) | (with_reducible apply below_alloc))⟩

set_option maxHeartbeats 1000000 in
set_option maxRecDepth 100000 in
theorem vo_4n (n : Int) (s : ByteArray) (a t : Int) (w : World) (h1 : (0 == n) = false) :
    Calls Try.prog 58 #[.agg #[.int .i64 4, .int .i64 n, .string s, .int .i64 a], .int .i64 t] w fun e w' => e = .returned (.bool false) ∧ Below w.heap.size w w' := by
  have hu29 := Try.underlying29
  go_enter Try.func58, Try.ntmps58
  go_wp2
  go_ret
  exact ⟨by first | rfl | (simp [*]; done), by repeat (first | exact Below.refl _ _ | (with_reducible apply vo_set) | (with_reducible apply below_alloc))⟩

set_option maxHeartbeats 1000000 in
set_option maxRecDepth 100000 in
theorem vo_4s (s : ByteArray) (a t : Int) (w : World) (h2 : (([] : List UInt8) == s.toList) = false) :
    Calls Try.prog 58 #[.agg #[.int .i64 4, .int .i64 0, .string s, .int .i64 a], .int .i64 t] w fun e w' => e = .returned (.bool false) ∧ Below w.heap.size w w' := by
  have hu29 := Try.underlying29
  go_enter Try.func58, Try.ntmps58
  go_wp2
  go_ret
  exact ⟨by first | rfl | (simp [*]; done), by repeat (first | exact Below.refl _ _ | (with_reducible apply vo_set) | (with_reducible apply below_alloc))⟩

set_option maxHeartbeats 1000000 in
set_option maxRecDepth 100000 in
theorem vo_4l (a t : Int) (w : World) (h3 : decide (0 ≤ a) = false) :
    Calls Try.prog 58 #[.agg #[.int .i64 4, .int .i64 0, .string (⟨#[]⟩ : ByteArray), .int .i64 a], .int .i64 t] w fun e w' => e = .returned (.bool false) ∧ Below w.heap.size w w' := by
  have hu29 := Try.underlying29
  go_enter Try.func58, Try.ntmps58
  go_wp2
  go_ret
  exact ⟨by first | rfl | (simp [*]; done), by repeat (first | exact Below.refl _ _ | (with_reducible apply vo_set) | (with_reducible apply below_alloc))⟩

set_option maxHeartbeats 1000000 in
set_option maxRecDepth 100000 in
theorem vo_4 (a t : Int) (w : World) (h3 : decide (0 ≤ a) = true) :
    Calls Try.prog 58 #[.agg #[.int .i64 4, .int .i64 0, .string (⟨#[]⟩ : ByteArray), .int .i64 a], .int .i64 t] w fun e w' => e = .returned (.bool (decide (a < t))) ∧ Below w.heap.size w w' := by
  have hu29 := Try.underlying29
  go_enter Try.func58, Try.ntmps58
  go_wp2
  go_ret
  exact ⟨by first | rfl | (simp [*]; done), by repeat (first | exact Below.refl _ _ | (with_reducible apply vo_set) | (with_reducible apply below_alloc))⟩

set_option maxHeartbeats 1000000 in
set_option maxRecDepth 100000 in
theorem vo_5 (k n : Int) (s : ByteArray) (a t : Int) (w : World) (k0 : (k == 0) = false) (k1 : (k == 1) = false) (k2 : (k == 2) = false) (k3 : (k == 3) = false) (k4 : (k == 4) = false) :
    Calls Try.prog 58 #[.agg #[.int .i64 k, .int .i64 n, .string s, .int .i64 a], .int .i64 t] w fun e w' => e = .returned (.bool false) ∧ Below w.heap.size w w' := by
  have hu29 := Try.underlying29
  go_enter Try.func58, Try.ntmps58
  go_wp2
  go_ret
  exact ⟨by first | rfl | (simp [*]; done), by repeat (first | exact Below.refl _ _ | (with_reducible apply vo_set) | (with_reducible apply below_alloc))⟩


/-! ### impl_valOk: function 58 -/
/-- What the program's valOk says of a value among t tables. -/
def vok (k n : Int) (s : ByteArray) (a t : Int) : Bool :=
  if k = 0 then (0 == n) && ((([] : List UInt8) == s.toList) && (0 == a))
  else if k = 1 then (Go.bits .and .i64 n 1 == n) && ((([] : List UInt8) == s.toList) && (0 == a))
  else if k = 2 then (([] : List UInt8) == s.toList) && (0 == a)
  else if k = 3 then (0 == n) && ((0 == a) && decide ((s.size : Int) ≤ 500))
  else if k = 4 then (0 == n) && ((([] : List UInt8) == s.toList) && (decide (0 ≤ a) && decide (a < t)))
  else false
def impl_valOk.f (k n : Int) (s : ByteArray) (a t : Int) : Option Bool := some (vok k n s a t)
theorem vo_text {s : ByteArray} (h : (([] : List UInt8) == s.toList) = true) : s = (⟨#[]⟩ : ByteArray) := by
  have h1 : [] = s.toList := by simpa using h
  have h2 : s.data.toList = [] := by rw [← ByteArray.toList_eq]; exact h1.symm
  cases s with | mk d => congr 1; exact Array.toList_eq_nil_iff.1 h2
theorem impl_valOk.calls (k n : Int) (s : ByteArray) (a t : Int) (r : Bool) (w : World) (h : impl_valOk.f k n s a t = some r) :
    Calls Try.prog 58 #[.agg #[.int .i64 k, .int .i64 n, .string s, .int .i64 a], .int .i64 t] w fun e w' => e = .returned (.bool r) ∧ Below w.heap.size w w' := by
  obtain rfl := Option.some.inj h
  clear h
  unfold vok
  have ev {c : Bool} (hc : ¬ c = true) : c = false := by simpa using hc
  by_cases k0 : k = 0
  · subst k0; rw [if_pos rfl]
    by_cases h1 : (0 == n) = true
    · obtain rfl : (0 : Int) = n := by simpa using h1
      by_cases h2 : (([] : List UInt8) == s.toList) = true
      · rw [h2]; obtain rfl := vo_text h2
        by_cases h3 : (0 == a) = true
        · obtain rfl : (0 : Int) = a := by simpa using h3
          exact vo_0 t w
        · rw [ev h3]; exact vo_0a a t w (ev h3)
      · rw [ev h2]; exact vo_0s s a t w (ev h2)
    · rw [ev h1]; exact vo_0n n s a t w (ev h1)
  rw [if_neg k0]
  by_cases k1 : k = 1
  · subst k1; rw [if_pos rfl]
    by_cases h1 : (Go.bits .and .i64 n 1 == n) = true
    · rw [h1]
      by_cases h2 : (([] : List UInt8) == s.toList) = true
      · rw [h2]; obtain rfl := vo_text h2
        by_cases h3 : (0 == a) = true
        · obtain rfl : (0 : Int) = a := by simpa using h3
          exact vo_1 n t w h1
        · rw [ev h3]; exact vo_1a n a t w h1 (ev h3)
      · rw [ev h2]; exact vo_1s n s a t w h1 (ev h2)
    · rw [ev h1]; exact vo_1n n s a t w (ev h1)
  rw [if_neg k1]
  by_cases k2 : k = 2
  · subst k2; rw [if_pos rfl]
    by_cases h2 : (([] : List UInt8) == s.toList) = true
    · rw [h2]; obtain rfl := vo_text h2
      by_cases h3 : (0 == a) = true
      · obtain rfl : (0 : Int) = a := by simpa using h3
        exact vo_2 n t w
      · rw [ev h3]; exact vo_2a n a t w (ev h3)
    · rw [ev h2]; exact vo_2s n s a t w (ev h2)
  rw [if_neg k2]
  by_cases k3 : k = 3
  · subst k3; rw [if_pos rfl]
    by_cases h1 : (0 == n) = true
    · obtain rfl : (0 : Int) = n := by simpa using h1
      by_cases h3 : (0 == a) = true
      · obtain rfl : (0 : Int) = a := by simpa using h3
        exact vo_3 s t w
      · rw [ev h3]; exact vo_3a s a t w (ev h3)
    · rw [ev h1]; exact vo_3n n s a t w (ev h1)
  rw [if_neg k3]
  by_cases k4 : k = 4
  · subst k4; rw [if_pos rfl]
    by_cases h1 : (0 == n) = true
    · obtain rfl : (0 : Int) = n := by simpa using h1
      by_cases h2 : (([] : List UInt8) == s.toList) = true
      · rw [h2]; obtain rfl := vo_text h2
        by_cases h3 : decide (0 ≤ a) = true
        · rw [h3]; exact vo_4 a t w h3
        · rw [ev h3]; exact vo_4l a t w (ev h3)
      · rw [ev h2]; exact vo_4s s a t w (ev h2)
    · rw [ev h1]; exact vo_4n n s a t w (ev h1)
  rw [if_neg k4]
  exact vo_5 k n s a t w (by simpa using k0) (by simpa using k1) (by simpa using k2) (by simpa using k3) (by simpa using k4)
end Go.Proofs.Ytkamfnmbidnhdaa.P
