/- How many a sort may ask. No condition. -/
import Derived.Test.YtkamfnmbidnhdaaDoorSyDG
import Derived.Test.YtkamfnmbidnhdaaDoorSyDK
set_option linter.unusedVariables false
set_option linter.unusedSimpArgs false
set_option linter.unusedSectionVars false
namespace Go.Sy
open Go.Proofs.YtkamfnmbidnhdaaDoor (mg_end)
def mi (n s i c : Nat) : Nat := if h : 0 < s ∧ i + s < n then mi n s (i + 2 * s) (c + (min (i + 2 * s) n - i - 1)) else c
  termination_by n - i
def ma (n s c : Nat) : Nat := if h : 0 < s ∧ s < n then ma n (s * 2) (mi n s 0 c) else c
  termination_by n - s
theorem mi_step {n s i : Nat} (hs : 0 < s) (h : i + s < n) (c : Nat) : mi n s i c = mi n s (i + 2 * s) (c + (min (i + 2 * s) n - i - 1)) := by rw [mi, dif_pos ⟨hs, h⟩]
theorem mi_stop {n s i : Nat} (h : ¬ i + s < n) (c : Nat) : mi n s i c = c := by rw [mi, dif_neg (fun e => h e.2)]
theorem ma_step {n s : Nat} (hs : 0 < s) (h : s < n) (c : Nat) : ma n s c = ma n (s * 2) (mi n s 0 c) := by rw [ma, dif_pos ⟨hs, h⟩]
theorem ma_stop {n s : Nat} (h : ¬ s < n) (c : Nat) : ma n s c = c := by rw [ma, dif_neg (fun e => h e.2)]
theorem mi_le (n s : Nat) (hs : 0 < s) (hsn : s ≤ n) : ∀ i c, mi n s i c ≤ c + 2 * (n - i) := by
  intro i c
  induction i, c using mi.induct (n := n) (s := s) with
  | case1 i c h ih => rw [mi, dif_pos h]; omega
  | case2 i c h => rw [mi, dif_neg h]; omega
theorem mi_ge (n s : Nat) : ∀ i c, c ≤ mi n s i c := by
  intro i c
  induction i, c using mi.induct (n := n) (s := s) with
  | case1 i c h ih => rw [mi, dif_pos h]; omega
  | case2 i c h => rw [mi, dif_neg h]; omega
theorem mi_add (n s : Nat) : ∀ i c d, mi n s i (c + d) = mi n s i c + d := by
  intro i c
  induction i, c using mi.induct (n := n) (s := s) with
  | case1 i c h ih =>
    intro d
    have e1 : ∀ c, mi n s i c = mi n s (i + 2 * s) (c + (min (i + 2 * s) n - i - 1)) := fun c => by rw [mi, dif_pos h]
    rw [e1, e1, ← ih]; congr 1; omega
  | case2 i c h =>
    intro d
    have e1 : ∀ c, mi n s i c = c := fun c => by rw [mi, dif_neg h]
    rw [e1, e1]
/-- A merge of two rows, neither empty, asks less than both hold. -/
theorem mg_lt (M : Int → Int → Int) : ∀ (out a b : List Int) (q : List (Int × Int)), 0 < a.length → 0 < b.length → (mg M out a b q).1.length ≤ q.length + (a.length + b.length - 1) := by
  intro out a b q
  induction out, a, b, q using mg.induct (M := M) with
  | case1 out q b => intro h; simp at h
  | case2 out q x a => intro _ h; simp at h
  | case3 out q x a y b h2 => intro _ _; rw [mg, if_pos h2]; simp; omega
  | case4 out q x a y b h2 h1 ih =>
    intro _ _
    rw [mg, if_neg h2, if_pos h1]
    cases b with
    | nil => rw [mg]; simp
    | cons z b => have := ih (by simp) (by simp); simp at this ⊢; omega
  | case5 out q x a y b h2 h1 ih =>
    intro _ _
    rw [mg, if_neg h2, if_neg h1]
    cases a with
    | nil => rw [mg]; simp
    | cons z a => have := ih (by simp) (by simp); simp at this ⊢; omega
theorem rd_mi (M : Int → Int → Int) (s : Nat) (l : List Int) (hs : 0 < s) : ∀ (out : List Int) (i : Nat) (q : List (Int × Int)), (rd M s l out i q).1.length ≤ mi l.length s i q.length := by
  intro out i q
  induction out, i, q using rd.induct (M := M) (s := s) (l := l) with
  | case1 out i q h q1 hm =>
    rw [rd, dif_pos h, hm]
    have h1 := congrArg (fun z => z.1.length) hm
    dsimp only at h1
    by_cases hi : i + s < l.length
    · rw [mi, dif_pos ⟨hs, hi⟩]
      have h2 := mg_lt M out (sl l i (min (i + s) l.length)) (sl l (min (i + s) l.length) (min (min (i + s) l.length + s) l.length)) q (by rw [sl_len _ _ _ (by omega)]; omega) (by rw [sl_len _ _ _ (by omega)]; omega)
      rw [sl_len _ _ _ (by omega), sl_len _ _ _ (by omega), h1] at h2
      have h3 := mi_ge l.length s (i + 2 * s) (q.length + (min (i + 2 * s) l.length - i - 1))
      dsimp only
      omega
    · rw [mg_end (.inr (by rw [sl_len _ _ _ (by omega)]; omega))] at hm
      cases hm
  | case2 out i q h q1 o1 hm ih =>
    rw [rd, dif_pos h, hm]
    have h1 := congrArg (fun z => z.1.length) hm
    dsimp only at h1 ⊢
    by_cases hi : i + s < l.length
    · rw [mi, dif_pos ⟨hs, hi⟩]
      have h2 := mg_lt M out (sl l i (min (i + s) l.length)) (sl l (min (i + s) l.length) (min (min (i + s) l.length + s) l.length)) q (by rw [sl_len _ _ _ (by omega)]; omega) (by rw [sl_len _ _ _ (by omega)]; omega)
      rw [sl_len _ _ _ (by omega), sl_len _ _ _ (by omega), h1] at h2
      have h3 : q1.length ≤ q.length + (min (i + 2 * s) l.length - i - 1) := by omega
      obtain ⟨d, hd⟩ := Nat.exists_eq_add_of_le h3
      rw [hd, mi_add]; omega
    · rw [mg_end (.inr (by rw [sl_len _ _ _ (by omega)]; omega))] at hm
      cases hm
      have h4 : ¬ (0 < s ∧ i + 2 * s + s < l.length) := by omega
      rw [mi, dif_neg h4] at ih
      rw [mi, dif_neg (by omega)]
      exact ih
  | case3 out i q h => rw [rd, dif_neg h, mi, dif_neg (by omega)]; exact Nat.le_refl _
theorem ma_mono (n : Nat) : ∀ s c d, ma n s (c + d) = ma n s c + d := by
  intro s c
  induction s, c using ma.induct (n := n) with
  | case1 s c h ih =>
    intro d
    have e1 : ∀ c, ma n s c = ma n (s * 2) (mi n s 0 c) := fun c => by rw [ma, dif_pos h]
    rw [e1, e1, mi_add, ih]
  | case2 s c h =>
    intro d
    have e1 : ∀ c, ma n s c = c := fun c => by rw [ma, dif_neg h]
    rw [e1, e1]
theorem ma_ge (n : Nat) : ∀ s c, c ≤ ma n s c := by
  intro s c
  induction s, c using ma.induct (n := n) with
  | case1 s c h ih => rw [ma, dif_pos h]; have := mi_ge n s 0 c; omega
  | case2 s c h => rw [ma, dif_neg h]; omega
theorem ps_ma (M : Int → Int → Int) (n : Nat) : ∀ (s : Nat) (l : List Int) (q : List (Int × Int)), l.length = n → (ps M n s l q).1.length ≤ ma n s q.length := by
  intro s l q
  induction s, l, q using ps.induct (M := M) (n := n) with
  | case1 s l q h q1 hm =>
    intro hl
    rw [ps, dif_pos h, hm, ma, dif_pos h]
    have h1 := rd_mi M s l h.1 [] 0 q
    rw [hm, hl] at h1
    have := ma_ge n (s * 2) (mi n s 0 q.length)
    dsimp only at h1 ⊢
    omega
  | case2 s l q h q1 l1 hm ih =>
    intro hl
    rw [ps, dif_pos h, hm, ma, dif_pos h]
    have h1 := rd_mi M s l h.1 [] 0 q
    rw [hm, hl] at h1
    have h2 := ih (by rw [rd_len M s l h.1 _ _ _ hm (by simp)]; exact hl)
    dsimp only at h1 h2 ⊢
    obtain ⟨d, hd⟩ := Nat.exists_eq_add_of_le h1
    rw [hd, ma_mono]; omega
  | case3 s l q h => intro hl; rw [ps, dif_neg h, ma, dif_neg h]; exact Nat.le_refl _
end Go.Sy
