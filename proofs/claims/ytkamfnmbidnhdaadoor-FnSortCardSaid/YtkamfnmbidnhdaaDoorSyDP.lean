/- A sort of what is in order: nothing moves; one asks at least n - 1 times. Plain. -/
import Derived.Test.YtkamfnmbidnhdaaDoorSyDM
import Derived.Test.YtkamfnmbidnhdaaDoorSyDN
set_option linter.unusedVariables false
set_option linter.unusedSimpArgs false
set_option linter.unusedSectionVars false
namespace Go.Sy
open Go.Proofs.YtkamfnmbidnhdaaDoor (mg_end upTo_len upTo_get)
theorem mg_asc (M : Int → Int → Int) (b : List Int) : ∀ (a out : List Int) (q : List (Int × Int)), (∀ x ∈ a, ∀ y ∈ b, M y x = 0) →
    ∃ q', mg M out a b q = (q', some (out ++ a ++ b)) ∧ q.length ≤ q'.length ∧ (0 < b.length → q.length + a.length ≤ q'.length)
  | [], out, q, _ => ⟨q, by rw [mg]; simp, Nat.le_refl _, fun _ => by simp⟩
  | x :: a, out, q, h => by
    cases b with
    | nil => exact ⟨q, by rw [mg]; simp, Nat.le_refl _, fun h => by simp at h⟩
    | cons y b =>
      have h0 : M y x = 0 := h x (.head _) y (.head _)
      obtain ⟨q', h1, h2, h3⟩ := mg_asc M (y :: b) a (out ++ [x]) (q ++ [(y, x)]) (fun z hz => h z (.tail _ hz))
      refine ⟨q', ?_, by simp at h2; omega, fun _ => by have := h3 (by simp); simp at this ⊢; omega⟩
      rw [mg, if_neg (by omega), if_neg (by omega), h1]
      simp
theorem upTo_app {n i j : Nat} (h1 : i ≤ j) : (upTo n).take i ++ sl (upTo n) i j = (upTo n).take j := by
  have h2 : j = i + (j - i) := by omega
  rw [sl, h2, List.take_add, show i + (j - i) - i = j - i by omega]
theorem upTo_sl {n i j : Nat} {x : Int} (h : x ∈ sl (upTo n) i j) : (i : Int) ≤ x ∧ x < j ∧ x < n := by
  obtain ⟨k, hk, e⟩ := List.getElem_of_mem h
  simp only [sl, List.length_take, List.length_drop, upTo_len] at hk
  simp only [sl, upTo, List.getElem_take, List.getElem_drop, List.getElem_map, List.getElem_range] at e
  omega
def Asc (M : Int → Int → Int) (n : Nat) : Prop := ∀ x y : Int, 0 ≤ x → x < y → y < n → M y x = 0
theorem rd_asc (M : Int → Int → Int) (n s : Nat) (hs : 0 < s) (hM : Asc M n) : ∀ (k i : Nat) (q : List (Int × Int)), n - i ≤ k →
    ∃ q', rd M s (upTo n) ((upTo n).take i) i q = (q', some (upTo n)) ∧ q.length ≤ q'.length ∧ (i + s < n → q.length + s ≤ q'.length) := by
  intro k
  induction k with
  | zero =>
    intro i q h
    refine ⟨q, ?_, Nat.le_refl _, fun h => by omega⟩
    rw [rd, dif_neg (by rw [upTo_len]; omega), List.take_of_length_le (by rw [upTo_len]; omega)]
  | succ k ih =>
    intro i q h
    by_cases hi : i < n
    · obtain ⟨q1, h1, h2, h3⟩ := mg_asc M (sl (upTo n) (min (i + s) n) (min (min (i + s) n + s) n)) (sl (upTo n) i (min (i + s) n)) ((upTo n).take i) q (fun x hx y hy => by
        have a := upTo_sl hx
        have b := upTo_sl hy
        exact hM x y (by omega) (by omega) (by omega))
      rw [upTo_app (by omega), upTo_app (by omega)] at h1
      obtain ⟨q2, g1, g2, _⟩ := ih (i + 2 * s) q1 (by omega)
      rw [sl_len _ _ _ (by rw [upTo_len]; omega), sl_len _ _ _ (by rw [upTo_len]; omega)] at h3
      refine ⟨q2, ?_, by omega, fun hlt => by have := h3 (by omega); omega⟩
      rw [rd, dif_pos ⟨hs, by rw [upTo_len]; exact hi⟩, upTo_len, h1]
      dsimp only
      have e : (upTo n).take (min (min (i + s) n + s) n) = (upTo n).take (i + 2 * s) := by
        by_cases h5 : i + 2 * s ≤ n
        · congr 1; omega
        · rw [List.take_of_length_le (by rw [upTo_len]; omega), List.take_of_length_le (by rw [upTo_len]; omega)]
      rw [e]; exact g1
    · refine ⟨q, ?_, Nat.le_refl _, fun h => by omega⟩
      rw [rd, dif_neg (by rw [upTo_len]; omega), List.take_of_length_le (by rw [upTo_len]; omega)]
theorem ps_asc (M : Int → Int → Int) (n : Nat) (hM : Asc M n) : ∀ (k s : Nat) (q : List (Int × Int)), 0 < s → n - s ≤ k →
    ∃ q', ps M n s (upTo n) q = (q', some (upTo n)) ∧ q.length + (n - s) ≤ q'.length := by
  intro k
  induction k with
  | zero =>
    intro s q hs h
    exact ⟨q, by rw [ps, dif_neg (by omega)], by omega⟩
  | succ k ih =>
    intro s q hs h
    by_cases hlt : s < n
    · obtain ⟨q1, h1, h2, h3⟩ := rd_asc M n s hs hM n 0 q (by omega)
      obtain ⟨q2, g1, g2⟩ := ih (s * 2) q1 (by omega) (by omega)
      have := h3 (by omega)
      refine ⟨q2, ?_, by omega⟩
      rw [ps, dif_pos ⟨hs, hlt⟩]
      rw [List.take_zero] at h1
      rw [h1]; exact g1
    · exact ⟨q, by rw [ps, dif_neg (by omega)], by omega⟩
/-- The matrix of the numbers in order. -/
def bRow (n i : Nat) : List Int := (List.range n).map fun j : Nat => if i < j then 1 else 0
def bM (n : Nat) : List (List Int) := (List.range n).map fun i : Nat => bRow n i
theorem bRow_len (n i : Nat) : (bRow n i).length = n := by simp [bRow]
theorem bM_len (n : Nat) : (bM n).length = n := by simp [bM]
theorem bRow_get {n i j : Nat} (h : j < n) : (bRow n i)[j]? = some (if i < j then 1 else 0) := by simp [bRow, h]
theorem bM_get {n i : Nat} (h : i < n) : (bM n)[i]? = some (bRow n i) := by simp [bM, h]
theorem bM_asc (n : Nat) : Asc (Mof (bM n)) n := fun x y h0 h1 h2 => by
  simp only [Mof, List.getD_eq_getElem?_getD, bM_get (show y.toNat < n by omega), Option.getD_some, bRow_get (show x.toNat < n by omega)]
  rw [if_neg (by omega)]
end Go.Sy
namespace Go.Proofs.YtkamfnmbidnhdaaDoor
open Go.Sy
theorem bM_ok {n : Nat} (h : n ≤ 200) : SqOk (bM n) := by
  refine ⟨by rw [bM_len]; exact h, fun t ht => ?_⟩
  simp only [bM, List.mem_map, List.mem_range] at ht
  obtain ⟨i, _, rfl⟩ := ht
  refine ⟨by rw [bRow_len, bM_len], fun x hx => ?_⟩
  simp only [bRow, List.mem_map, List.mem_range] at hx
  obtain ⟨j, _, rfl⟩ := hx
  split <;> omega
theorem bM_sort {n : Nat} (h : n ≤ 200) : sCode (bM n) = 0 ∧ sOrd (bM n) = upTo n ∧ n - 1 ≤ (sAsk (bM n)).length ∧ (sAsk (bM n)).length ≤ ma n 1 0 := by
  obtain ⟨q, h1, h2⟩ := ps_asc (Mof (bM n)) n (bM_asc n) n 1 [] (by omega) (by omega)
  have hs : srt (bM n) = (q, some (upTo n)) := by unfold srt msort; rw [bM_len]; exact h1
  have h3 := ps_ma (Mof (bM n)) n 1 (upTo n) [] (upTo_len n)
  rw [h1] at h3
  simp only [sCode, sOrd, sAsk, if_pos (bM_ok h), hs]
  exact ⟨rfl, rfl, by simp at h2; omega, h3⟩
end Go.Proofs.YtkamfnmbidnhdaaDoor
