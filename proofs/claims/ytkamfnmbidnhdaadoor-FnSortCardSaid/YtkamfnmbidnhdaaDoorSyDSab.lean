/- A stable sort by what is asked: the plain law of a merge. -/
import Derived.Test.YtkamfnmbidnhdaaDoorSyDP
set_option linter.unusedVariables false
set_option linter.unusedSimpArgs false
set_option linter.unusedSectionVars false
namespace Go.Sy
def InR (n : Nat) (x : Int) : Prop := 0 ≤ x ∧ x < n
/-- What is asked is a ranking of the numbers below n. -/
def Rk (M : Int → Int → Int) (n : Nat) : Prop := ∀ i j, InR n i → InR n j → 0 ≤ M i j ∧ M i j ≤ 1 ∧ ¬ (M i j = 1 ∧ M j i = 1) ∧ ∀ k, InR n k → M i j = 0 → M j k = 0 → M i k = 0
/-- Ahead: ranked ahead, or ranked alike and ahead by number. -/
def Pre (M : Int → Int → Int) (a b : Int) : Prop := M a b = 1 ∨ (M a b = 0 ∧ M b a = 0 ∧ a < b)
section
variable {M : Int → Int → Int} {n : Nat}
theorem Pre.trans (hR : Rk M n) {a b c : Int} (ha : InR n a) (hb : InR n b) (hc : InR n c) (h1 : Pre M a b) (h2 : Pre M b c) : Pre M a c := by
  obtain ⟨a1, a2, a3, a4⟩ := hR a b ha hb
  obtain ⟨b1, b2, b3, b4⟩ := hR b c hb hc
  obtain ⟨c1, c2, c3, c4⟩ := hR a c ha hc
  obtain ⟨d1, d2, d3, d4⟩ := hR b a hb ha
  obtain ⟨e1, e2, e3, e4⟩ := hR c b hc hb
  obtain ⟨f1, f2, f3, f4⟩ := hR c a hc ha
  unfold Pre at *
  by_cases h : M a c = 1
  · exact .inl h
  · have h0 : M a c = 0 := by omega
    rcases h1 with h1 | ⟨h1, h1', h1''⟩
    · have hcb : M c b = 0 := by
        rcases h2 with h2 | ⟨_, h2, _⟩
        · by_cases hx : M c b = 1
          · exact absurd ⟨h2, hx⟩ b3
          · omega
        · exact h2
      have := c4 b hb h0 hcb
      omega
    · rcases h2 with h2 | ⟨h2, h2', h2''⟩
      · have := d4 c hc h1' h0
        omega
      · exact .inr ⟨h0, e4 a ha h2' h1', by omega⟩
theorem pre_of (hR : Rk M n) {x y : Int} (hx : InR n x) (hy : InR n y) (hlt : x < y) (h : M y x ≠ 1) : Pre M x y := by
  obtain ⟨a1, a2, a3, a4⟩ := hR x y hx hy
  obtain ⟨b1, b2, b3, b4⟩ := hR y x hy hx
  unfold Pre
  by_cases h1 : M x y = 1
  · exact .inl h1
  · exact .inr ⟨by omega, by omega, hlt⟩
theorem mg_ord (hR : Rk M n) : ∀ (out a b : List Int) (q : List (Int × Int)), (∀ x ∈ out, InR n x) → (∀ x ∈ a, InR n x) → (∀ x ∈ b, InR n x) → (∀ x ∈ a, ∀ y ∈ b, x < y) → out.Pairwise (Pre M) → a.Pairwise (Pre M) → b.Pairwise (Pre M) →
    (∀ o ∈ out, ∀ z ∈ a, Pre M o z) → (∀ o ∈ out, ∀ z ∈ b, Pre M o z) → ∃ q' l, mg M out a b q = (q', some l) ∧ l.Pairwise (Pre M) ∧ l.Perm (out ++ a ++ b) := by
  intro out a b q
  induction out, a, b, q using mg.induct (M := M) with
  | case1 out q b =>
    intro h1 h2 h3 h4 h5 h6 h7 h8 h9
    exact ⟨q, out ++ b, by rw [mg], List.pairwise_append.2 ⟨h5, h7, h9⟩, by simp⟩
  | case2 out q x a =>
    intro h1 h2 h3 h4 h5 h6 h7 h8 h9
    exact ⟨q, out ++ x :: a, by rw [mg], List.pairwise_append.2 ⟨h5, h6, h8⟩, by simp⟩
  | case3 out q x a y b hm =>
    intro h1 h2 h3 h4 h5 h6 h7 h8 h9
    have := (hR y x (h3 y (.head _)) (h2 x (.head _))).2.1
    omega
  | case4 out q x a y b hm2 hm ih =>
    intro h1 h2 h3 h4 h5 h6 h7 h8 h9
    have hyx : Pre M y x := .inl hm
    have hyin := h3 y (.head _)
    have hxin := h2 x (.head _)
    have hpa : ∀ z ∈ x :: a, Pre M y z := fun z hz => by
      rcases List.mem_cons.1 hz with rfl | hz
      · exact hyx
      · exact hyx.trans hR hyin hxin (h2 z (.tail _ hz)) (List.rel_of_pairwise_cons h6 hz)
    obtain ⟨q', l, g1, g2, g3⟩ := ih (fun z hz => by
        rcases List.mem_append.1 hz with hz | hz
        · exact h1 z hz
        · rw [List.mem_singleton] at hz; rw [hz]; exact hyin) h2 (fun z hz => h3 z (.tail _ hz)) (fun z hz w hw => h4 z hz w (.tail _ hw))
      (List.pairwise_append.2 ⟨h5, List.pairwise_singleton _ _, fun o ho z hz => by rw [List.mem_singleton] at hz; rw [hz]; exact h9 o ho y (.head _)⟩) h6 h7.tail
      (fun o ho z hz => by
        rcases List.mem_append.1 ho with ho | ho
        · exact h8 o ho z hz
        · rw [List.mem_singleton] at ho; rw [ho]; exact hpa z hz)
      (fun o ho z hz => by
        rcases List.mem_append.1 ho with ho | ho
        · exact h9 o ho z (.tail _ hz)
        · rw [List.mem_singleton] at ho; rw [ho]; exact List.rel_of_pairwise_cons h7 hz)
    refine ⟨q', l, by rw [mg, if_neg hm2, if_pos hm]; exact g1, g2, g3.trans ?_⟩
    simp only [List.append_assoc]
    refine List.Perm.append_left out ?_
    exact (List.perm_middle (l₁ := x :: a) (l₂ := b) (a := y)).symm
  | case5 out q x a y b hm2 hm ih =>
    intro h1 h2 h3 h4 h5 h6 h7 h8 h9
    have hyin := h3 y (.head _)
    have hxin := h2 x (.head _)
    have hxy : Pre M x y := pre_of hR hxin hyin (h4 x (.head _) y (.head _)) hm
    have hpb : ∀ z ∈ y :: b, Pre M x z := fun z hz => by
      rcases List.mem_cons.1 hz with rfl | hz
      · exact hxy
      · exact hxy.trans hR hxin hyin (h3 z (.tail _ hz)) (List.rel_of_pairwise_cons h7 hz)
    obtain ⟨q', l, g1, g2, g3⟩ := ih (fun z hz => by
        rcases List.mem_append.1 hz with hz | hz
        · exact h1 z hz
        · rw [List.mem_singleton] at hz; rw [hz]; exact hxin) (fun z hz => h2 z (.tail _ hz)) h3 (fun z hz w hw => h4 z (.tail _ hz) w hw)
      (List.pairwise_append.2 ⟨h5, List.pairwise_singleton _ _, fun o ho z hz => by rw [List.mem_singleton] at hz; rw [hz]; exact h8 o ho x (.head _)⟩) h6.tail h7
      (fun o ho z hz => by
        rcases List.mem_append.1 ho with ho | ho
        · exact h8 o ho z (.tail _ hz)
        · rw [List.mem_singleton] at ho; rw [ho]; exact List.rel_of_pairwise_cons h6 hz)
      (fun o ho z hz => by
        rcases List.mem_append.1 ho with ho | ho
        · exact h9 o ho z hz
        · rw [List.mem_singleton] at ho; rw [ho]; exact hpb z hz)
    exact ⟨q', l, by rw [mg, if_neg hm2, if_neg hm]; exact g1, g2, g3.trans (by simp)⟩
end
end Go.Sy
/- A stable sort by what is asked: the plain law of the rounds. -/
namespace Go.Sy
open Go.Proofs.YtkamfnmbidnhdaaDoor (upTo_len)
theorem sl_left {l m : List Int} {i j : Nat} (h : j ≤ l.length) : sl (l ++ m) i j = sl l i j := by
  unfold sl
  by_cases hi : i ≤ l.length
  · rw [List.drop_append_of_le_length hi, List.take_append_of_le_length (by rw [List.length_drop]; omega)]
  · rw [show j - i = 0 by omega]; simp
theorem sl_right {l m : List Int} {i j : Nat} (h : l.length = i) (hj : m.length = j - i) : sl (l ++ m) i j = m := by
  unfold sl
  subst h
  rw [List.drop_left, ← hj, List.take_length]
theorem sl_nil {l : List Int} {i j : Nat} (h : l.length ≤ i) : sl l i j = [] := by
  unfold sl
  rw [List.drop_eq_nil_of_le h]; simp
theorem sl_cat {l : List Int} {i j : Nat} (h : i ≤ j) : l.take i ++ sl l i j = l.take j := by
  have h2 : j = i + (j - i) := by omega
  rw [sl, h2, List.take_add, show i + (j - i) - i = j - i by omega]
/-- Row k of s numbers is in order, and holds the numbers of its places. -/
def Bk (M : Int → Int → Int) (n s : Nat) (l : List Int) (k : Nat) : Prop := (sl l (k * s) (min (k * s + s) n)).Pairwise (Pre M) ∧ ∀ x ∈ sl l (k * s) (min (k * s + s) n), ((k * s : Nat) : Int) ≤ x ∧ x < ((k * s + s : Nat) : Int) ∧ x < n
section
variable {M : Int → Int → Int} {n : Nat}
theorem rd_ord (hR : Rk M n) (s : Nat) (hs : 0 < s) (l : List Int) (hl : l.length = n) (hb : ∀ k, Bk M n s l k) : ∀ (m k : Nat) (out : List Int) (q : List (Int × Int)), n - k * (2 * s) ≤ m → out.length = min (k * (2 * s)) n → (∀ j, j < k → Bk M n (2 * s) out j) → out.Perm (l.take (k * (2 * s))) →
    ∃ q' l', rd M s l out (k * (2 * s)) q = (q', some l') ∧ l'.Perm l ∧ ∀ j, Bk M n (2 * s) l' j := by
  intro m
  induction m with
  | zero =>
    intro k out q hm ho hB hP
    refine ⟨q, out, by rw [rd, dif_neg (by omega)], by rw [List.take_of_length_le (by omega)] at hP; exact hP, fun j => ?_⟩
    by_cases hj : j < k
    · exact hB j hj
    · have : k * (2 * s) ≤ j * (2 * s) := Nat.mul_le_mul_right _ (by omega)
      unfold Bk
      rw [sl_nil (by omega)]
      exact ⟨List.Pairwise.nil, fun x hx => by cases hx⟩
  | succ m ih =>
    intro k out q hm ho hB hP
    by_cases hi : k * (2 * s) < n
    · have ha := hb (2 * k)
      have hb2 := hb (2 * k + 1)
      have e1 : 2 * k * s = k * (2 * s) := by rw [Nat.mul_comm 2 k, Nat.mul_assoc]
      have e2 : (2 * k + 1) * s = k * (2 * s) + s := by rw [Nat.add_mul, e1, Nat.one_mul]
      have e3 : (k + 1) * (2 * s) = k * (2 * s) + 2 * s := by rw [Nat.add_mul, Nat.one_mul]
      unfold Bk at ha hb2
      rw [e1] at ha
      rw [e2] at hb2
      generalize hI : k * (2 * s) = i at *
      have hbs : sl l (i + s) (min (i + s + s) n) = sl l (min (i + s) n) (min (min (i + s) n + s) n) := by
        by_cases h5 : i + s ≤ n
        · rw [Nat.min_eq_left h5]
        · rw [sl_nil (by omega), sl_nil (by omega)]
      rw [hbs] at hb2
      obtain ⟨a1, a2⟩ := ha
      obtain ⟨b1, b2⟩ := hb2
      have hla : (sl l i (min (i + s) n)).length = min (i + s) n - i := sl_len _ _ _ (by omega)
      have hlb : (sl l (min (i + s) n) (min (min (i + s) n + s) n)).length = min (min (i + s) n + s) n - min (i + s) n := sl_len _ _ _ (by omega)
      obtain ⟨q1, mm, g1, g2, g3⟩ := mg_ord hR [] (sl l i (min (i + s) n)) (sl l (min (i + s) n) (min (min (i + s) n + s) n)) q (fun x hx => by cases hx) (fun x hx => ⟨by have := a2 x hx; omega, (a2 x hx).2.2⟩) (fun x hx => ⟨by have := b2 x hx; omega, (b2 x hx).2.2⟩)
        (fun x hx y hy => by have h1 := a2 x hx; have h2 := b2 y hy; omega) List.Pairwise.nil a1 b1 (fun x hx => by cases hx) (fun x hx => by cases hx)
      rw [List.nil_append] at g3
      have hml : mm.length = min (i + 2 * s) n - i := by rw [g3.length_eq, List.length_append, hla, hlb]; omega
      have hmem : ∀ x ∈ mm, ((i : Nat) : Int) ≤ x ∧ x < ((i + 2 * s : Nat) : Int) ∧ x < n := fun x hx => by
        rcases List.mem_append.1 (g3.mem_iff.1 hx) with hx | hx
        · have := a2 x hx; omega
        · have := b2 x hx; omega
      have hout : out.length = i := by omega
      obtain ⟨q2, l2, f1, f2, f3⟩ := ih (k + 1) (out ++ mm) q1 (by rw [e3]; omega) (by rw [e3, List.length_append, hml]; omega) (fun j hj => by
          unfold Bk
          by_cases hjk : j < k
          · have h6 := hB j hjk
            unfold Bk at h6
            have h7 : (j + 1) * (2 * s) ≤ k * (2 * s) := Nat.mul_le_mul_right _ (by omega)
            rw [Nat.add_mul, Nat.one_mul, hI] at h7
            rw [sl_left (by omega)]
            exact h6
          · obtain rfl : j = k := by omega
            rw [hI, sl_right hout hml]
            exact ⟨g2, hmem⟩)
        (by
          rw [e3]
          have h8 : l.take (i + 2 * s) = l.take i ++ (sl l i (min (i + s) n) ++ sl l (min (i + s) n) (min (min (i + s) n + s) n)) := by
            rw [← List.append_assoc, sl_cat (by omega), sl_cat (by omega)]
            by_cases h5 : i + 2 * s ≤ n
            · congr 1; omega
            · rw [List.take_of_length_le (by omega), List.take_of_length_le (by omega)]
          rw [h8]
          exact hP.append g3)
      rw [e3] at f1
      refine ⟨q2, l2, ?_, f2, f3⟩
      rw [rd, dif_pos ⟨hs, by omega⟩, hl, show out = out ++ [] from (List.append_nil out).symm, Go.Sy.mg_out, g1]
      exact f1
    · refine ⟨q, out, by rw [rd, dif_neg (by omega)], by rw [List.take_of_length_le (by omega)] at hP; exact hP, fun j => ?_⟩
      by_cases hj : j < k
      · exact hB j hj
      · have : k * (2 * s) ≤ j * (2 * s) := Nat.mul_le_mul_right _ (by omega)
        unfold Bk
        rw [sl_nil (by omega)]
        exact ⟨List.Pairwise.nil, fun x hx => by cases hx⟩
theorem ps_ord (hR : Rk M n) : ∀ (m s : Nat) (l : List Int) (q : List (Int × Int)), 0 < s → n - s ≤ m → l.length = n → (∀ k, Bk M n s l k) → ∃ q' l', ps M n s l q = (q', some l') ∧ l'.Perm l ∧ l'.Pairwise (Pre M) := by
  intro m
  induction m with
  | zero =>
    intro s l q hs hm hl hb
    refine ⟨q, l, by rw [ps, dif_neg (by omega)], List.Perm.refl _, ?_⟩
    have h := (hb 0).1
    rw [Nat.zero_mul, Nat.zero_add, Nat.min_eq_right (by omega)] at h
    have e : sl l 0 n = l := by unfold sl; rw [List.drop_zero, List.take_of_length_le (by omega)]
    rw [e] at h; exact h
  | succ m ih =>
    intro s l q hs hm hl hb
    by_cases hlt : s < n
    · obtain ⟨q1, l1, f1, f2, f3⟩ := rd_ord hR s hs l hl hb n 0 [] q (by omega) (by simp) (fun j hj => by omega) (by simp)
      rw [Nat.zero_mul] at f1
      obtain ⟨q2, l2, g1, g2, g3⟩ := ih (2 * s) l1 q1 (by omega) (by omega) (by rw [f2.length_eq]; exact hl) f3
      refine ⟨q2, l2, ?_, g2.trans f2, g3⟩
      rw [ps, dif_pos ⟨hs, hlt⟩, f1, Nat.mul_comm s 2]
      exact g1
    · refine ⟨q, l, by rw [ps, dif_neg (by omega)], List.Perm.refl _, ?_⟩
      have h := (hb 0).1
      rw [Nat.zero_mul, Nat.zero_add, Nat.min_eq_right (by omega)] at h
      have e : sl l 0 n = l := by unfold sl; rw [List.drop_zero, List.take_of_length_le (by omega)]
      rw [e] at h; exact h
theorem msort_ord (hR : Rk M n) : ∃ q l, msort M n = (q, some l) ∧ l.Perm (upTo n) ∧ l.Pairwise (Pre M) := by
  refine ps_ord hR n 1 (upTo n) [] (by omega) (by omega) (upTo_len n) (fun k => ?_)
  unfold Bk
  have hl : (sl (upTo n) (k * 1) (min (k * 1 + 1) n)).length ≤ 1 := by unfold sl; rw [List.length_take, List.length_drop]; omega
  refine ⟨?_, fun x hx => by have := upTo_sl hx; omega⟩
  generalize sl (upTo n) (k * 1) (min (k * 1 + 1) n) = z at hl
  match z, hl with
  | [], _ => exact List.Pairwise.nil
  | [a], _ => exact List.pairwise_singleton _ _
end
end Go.Sy
