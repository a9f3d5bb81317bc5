/- FnSort: the plain law. -/
import Derived.Test.YtkamfnmbidnhdaaDoorSyDSab
import Derived.Test.YtkamfnmbidnhdaaDoorSyDSg
import Derived.Test.YtkamfnmbidnhdaaDoorSyPerm
import Derived.Test.YtkamfnmbidnhdaaDoorSyDM
set_option linter.unusedVariables false
set_option linter.unusedSimpArgs false
set_option linter.unusedSectionVars false
namespace Go.Proofs.YtkamfnmbidnhdaaDoor
open Go.Sy
theorem mg_none (M : Int → Int → Int) : ∀ (out a b : List Int) (q : List (Int × Int)) {q' : List (Int × Int)}, mg M out a b q = (q', none) → 0 < q'.length := by
  intro out a b q
  induction out, a, b, q using mg.induct (M := M) with
  | case1 out q b => intro q' h; simp [mg] at h
  | case2 out q x a => intro q' h; simp [mg] at h
  | case3 out q x a y b h2 => intro q' h; rw [mg, if_pos h2] at h; simp only [Prod.mk.injEq, and_true] at h; rw [← h]; simp
  | case4 out q x a y b h2 h1 ih => intro q' h; rw [mg, if_neg h2, if_pos h1] at h; exact ih h
  | case5 out q x a y b h2 h1 ih => intro q' h; rw [mg, if_neg h2, if_neg h1] at h; exact ih h
theorem rd_none (M : Int → Int → Int) (s : Nat) (l : List Int) : ∀ (out : List Int) (i : Nat) (q : List (Int × Int)) {q' : List (Int × Int)}, rd M s l out i q = (q', none) → 0 < q'.length := by
  intro out i q
  induction out, i, q using rd.induct (M := M) (s := s) (l := l) with
  | case1 out i q h q1 hm => intro q' hh; rw [rd, dif_pos h, hm] at hh; simp only [Prod.mk.injEq, and_true] at hh; rw [← hh]; exact mg_none M _ _ _ _ hm
  | case2 out i q h q1 o1 hm ih => intro q' hh; rw [rd, dif_pos h, hm] at hh; exact ih hh
  | case3 out i q h => intro q' hh; rw [rd, dif_neg h] at hh; simp at hh
theorem ps_none (M : Int → Int → Int) (n : Nat) : ∀ (s : Nat) (l : List Int) (q : List (Int × Int)) {q' : List (Int × Int)}, ps M n s l q = (q', none) → 0 < q'.length := by
  intro s l q
  induction s, l, q using ps.induct (M := M) (n := n) with
  | case1 s l q h q1 hm => intro q' hh; rw [ps, dif_pos h, hm] at hh; simp only [Prod.mk.injEq, and_true] at hh; rw [← hh]; exact rd_none M _ _ _ _ _ hm
  | case2 s l q h q1 o1 hm ih => intro q' hh; rw [ps, dif_pos h, hm] at hh; exact ih hh
  | case3 s l q h => intro q' hh; rw [ps, dif_neg h] at hh; simp at hh
theorem rk_of {ts : List (List Int)} (hsq : SqOk ts) (h : RkT ts) : Rk (Mof ts) ts.length := fun i j hi hj => by
  obtain ⟨i, rfl⟩ := Int.eq_ofNat_of_zero_le hi.1
  obtain ⟨j, rfl⟩ := Int.eq_ofNat_of_zero_le hj.1
  have hi' : i < ts.length := by have := hi.2; omega
  have hj' : j < ts.length := by have := hj.2; omega
  have h1 := sq_get hsq hi' hj'
  have h2 := h i j hi' hj'
  refine ⟨h1.1, by have := h2.1.1; omega, h2.1.2, fun k hk => ?_⟩
  obtain ⟨k, rfl⟩ := Int.eq_ofNat_of_zero_le hk.1
  exact h2.2 k (by have := hk.2; omega)
/-- In a ranking's order whoever is ahead stands ahead. -/
theorem place_ok {ts : List (List Int)} (hsq : SqOk ts) (h : RkT ts) {l : List Int} {q : List (Int × Int)} (hl : srt ts = (q, some l)) {a b : Nat} (ha : a < ts.length) (hb : b < ts.length) :
    (Mof ts a b = 1 → ¬ plc l l.length b < plc l l.length a) ∧ (a < b → Mof ts a b = 0 → Mof ts b a = 0 → ¬ plc l l.length b < plc l l.length a) := by
  obtain ⟨q', l', e, hp, hw⟩ := msort_ord (rk_of hsq h)
  have e2 : (q, some l) = (q', some l') := hl.symm.trans e
  simp only [Prod.mk.injEq, Option.some.injEq] at e2
  obtain ⟨rfl, rfl⟩ := e2
  have ma : (a : Int) ∈ l := (per_mem hp).2 ⟨by omega, by omega⟩
  have mb : (b : Int) ∈ l := (per_mem hp).2 ⟨by omega, by omega⟩
  have h2 := (h a b ha hb).1.2
  refine ⟨fun h1 hlt => ?_, fun hab h0 h0' hlt => ?_⟩
  · rcases plc_lt hw ma mb hlt with h3 | ⟨h3, h4, h5⟩
    · exact h2 ⟨h1, h3⟩
    · omega
  · rcases plc_lt hw ma mb hlt with h3 | ⟨h3, h4, h5⟩
    · omega
    · omega
theorem asks_le {ts : List (List Int)} : (srt ts).1.length ≤ ma ts.length 1 0 := ps_ma (Mof ts) ts.length 1 (upTo ts.length) [] (upTo_len _)
end Go.Proofs.YtkamfnmbidnhdaaDoor
