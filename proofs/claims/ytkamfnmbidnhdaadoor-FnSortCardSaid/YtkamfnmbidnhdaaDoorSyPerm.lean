/- What a merge gives is a permutation; places in a row. Plain. -/
import Derived.Test.YtkamfnmbidnhdaaDoorSySort
set_option linter.unusedVariables false
set_option linter.unusedSimpArgs false
set_option linter.unusedSectionVars false
namespace Go.Sy
theorem slp_cat {l : List Int} {i j : Nat} (h : i ≤ j) : l.take i ++ sl l i j = l.take j := by
  have h2 : j = i + (j - i) := by omega
  rw [sl, h2, List.take_add, show i + (j - i) - i = j - i by omega]
theorem slp_nil {l : List Int} {i j : Nat} (h : l.length ≤ i) : sl l i j = [] := by
  unfold sl
  rw [List.drop_eq_nil_of_le h]; simp
theorem mg_perm (M : Int → Int → Int) : ∀ (out a b : List Int) (q : List (Int × Int)) {q' : List (Int × Int)} {l : List Int}, mg M out a b q = (q', some l) → l.Perm (out ++ a ++ b) := by
  intro out a b q
  induction out, a, b, q using mg.induct (M := M) with
  | case1 out q b => intro q' l h; simp only [mg, Prod.mk.injEq, Option.some.injEq] at h; rw [← h.2]; simp
  | case2 out q x a => intro q' l h; simp only [mg, Prod.mk.injEq, Option.some.injEq] at h; rw [← h.2]; simp
  | case3 out q x a y b h2 => intro q' l h; rw [mg, if_pos h2] at h; simp at h
  | case4 out q x a y b h2 h1 ih =>
    intro q' l h
    rw [mg, if_neg h2, if_pos h1] at h
    refine (ih h).trans ?_
    simp only [List.append_assoc]
    refine List.Perm.append_left out ?_
    exact (List.perm_middle (l₁ := x :: a) (l₂ := b) (a := y)).symm
  | case5 out q x a y b h2 h1 ih =>
    intro q' l h
    rw [mg, if_neg h2, if_neg h1] at h
    exact (ih h).trans (by simp)
theorem rd_perm (M : Int → Int → Int) (s : Nat) (l : List Int) (hs : 0 < s) : ∀ (out : List Int) (i : Nat) (q : List (Int × Int)) {q' : List (Int × Int)} {l' : List Int}, rd M s l out i q = (q', some l') → out.Perm (l.take i) → l'.Perm l := by
  intro out i q
  induction out, i, q using rd.induct (M := M) (s := s) (l := l) with
  | case1 out i q h q1 hm => intro q' l' hh; rw [rd, dif_pos h, hm] at hh; simp at hh
  | case2 out i q h q1 o1 hm ih =>
    intro q' l' hh ho
    rw [rd, dif_pos h, hm] at hh
    have h1 := mg_perm M _ _ _ _ hm
    refine ih hh (h1.trans ?_)
    have h8 : l.take (i + 2 * s) = l.take i ++ (sl l i (min (i + s) l.length) ++ sl l (min (i + s) l.length) (min (min (i + s) l.length + s) l.length)) := by
      rw [← List.append_assoc, slp_cat (by omega), slp_cat (by omega)]
      by_cases h5 : i + 2 * s ≤ l.length
      · congr 1; omega
      · rw [List.take_of_length_le (by omega), List.take_of_length_le (by omega)]
    rw [h8, List.append_assoc]
    exact List.Perm.append_right _ ho
  | case3 out i q h =>
    intro q' l' hh ho
    rw [rd, dif_neg h] at hh
    simp only [Prod.mk.injEq, Option.some.injEq] at hh
    rw [List.take_of_length_le (by omega), hh.2] at ho
    exact ho
theorem ps_perm (M : Int → Int → Int) (n : Nat) : ∀ (s : Nat) (l : List Int) (q : List (Int × Int)) {q' : List (Int × Int)} {l' : List Int}, ps M n s l q = (q', some l') → l'.Perm l := by
  intro s l q
  induction s, l, q using ps.induct (M := M) (n := n) with
  | case1 s l q h q1 hm => intro q' l' hh; rw [ps, dif_pos h, hm] at hh; simp at hh
  | case2 s l q h q1 o1 hm ih =>
    intro q' l' hh
    rw [ps, dif_pos h, hm] at hh
    exact (ih hh).trans (rd_perm M s l h.1 [] 0 q hm (by simp))
  | case3 s l q h =>
    intro q' l' hh
    rw [ps, dif_neg h] at hh
    simp only [Prod.mk.injEq, Option.some.injEq] at hh
    rw [hh.2]
theorem msort_perm {M : Int → Int → Int} {n : Nat} {q : List (Int × Int)} {l : List Int} (h : msort M n = (q, some l)) : l.Perm (upTo n) := ps_perm M n 1 _ _ h
/-- Where x is placed after i rounds. -/
def plc (l : List Int) (i : Nat) (x : Int) : Int := if x ∈ l.take i then (l.idxOf x : Nat) else -1
def plcs (l : List Int) (n i : Nat) : List Int := (upTo n).map (plc l i)
theorem plcs_zero (l : List Int) (n : Nat) : plcs l n 0 = List.replicate n (-1) := by
  unfold plcs upTo
  rw [List.map_map]
  apply List.ext_getElem (by simp)
  intro i h1 h2
  simp [plc]
theorem upTo_nodup (n : Nat) : (upTo n).Nodup := by
  unfold upTo
  exact List.Pairwise.map _ (fun a b h e => h (by exact_mod_cast e)) List.nodup_range
theorem upTo_mem {n : Nat} {x : Int} : x ∈ upTo n ↔ 0 ≤ x ∧ x < n := by
  unfold upTo
  rw [List.mem_map]
  constructor
  · rintro ⟨a, ha, rfl⟩
    rw [List.mem_range] at ha
    omega
  · intro h
    exact ⟨x.toNat, List.mem_range.2 (by omega), by omega⟩
theorem upTo_length (n : Nat) : (upTo n).length = n := by unfold upTo; simp
theorem plcs_len (l : List Int) (n i : Nat) : (plcs l n i).length = n := by unfold plcs; rw [List.length_map, upTo_length]
theorem plcs_get (l : List Int) (n i x : Nat) (hx : x < n) : (plcs l n i)[x]'(by rw [plcs_len]; exact hx) = plc l i (x : Int) := by
  unfold plcs upTo
  simp
section
variable {l : List Int} {n : Nat}
theorem per_mem (h : l.Perm (upTo n)) {x : Int} : x ∈ l ↔ 0 ≤ x ∧ x < n := by rw [h.mem_iff, upTo_mem]
theorem per_nodup (h : l.Perm (upTo n)) : l.Nodup := h.nodup_iff.2 (upTo_nodup n)
theorem per_len (h : l.Perm (upTo n)) : l.length = n := by rw [h.length_eq, upTo_length]
theorem plc_new (hN : l.Nodup) {i : Nat} (hi : i < l.length) : plc l i l[i] = -1 := by
  unfold plc
  rw [if_neg]
  intro h
  rw [List.mem_take_iff_getElem] at h
  obtain ⟨j, hj, e⟩ := h
  exact (List.pairwise_iff_getElem.1 hN) j i (by omega) hi (by omega) e
theorem plc_step (hN : l.Nodup) {i : Nat} (hi : i < l.length) (x : Int) : plc l (i + 1) x = if x = l[i] then (i : Int) else plc l i x := by
  by_cases h : x = l[i]
  · rw [if_pos h]
    unfold plc
    rw [if_pos (by rw [List.mem_take_iff_getElem]; exact ⟨i, by omega, h.symm⟩), h, List.Nodup.idxOf_getElem hN]
  · rw [if_neg h]
    unfold plc
    have e : (x ∈ l.take (i + 1)) ↔ (x ∈ l.take i) := by
      rw [List.take_succ_eq_append_getElem hi, List.mem_append, List.mem_singleton]
      exact ⟨fun k => k.elim id (fun k => absurd k h), .inl⟩
    by_cases h2 : x ∈ l.take i
    · rw [if_pos h2, if_pos (e.2 h2)]
    · rw [if_neg h2, if_neg (fun k => h2 (e.1 k))]
theorem plcs_step (hP : l.Perm (upTo n)) {i : Nat} (hi : i < l.length) : plcs l n (i + 1) = (plcs l n i).set (l[i]).toNat (i : Int) := by
  have hN := per_nodup hP
  have hm := (per_mem hP).1 (List.getElem_mem hi)
  apply List.ext_getElem (by rw [List.length_set, plcs_len, plcs_len])
  intro k h1 h2
  rw [plcs_len] at h1
  rw [List.getElem_set, plcs_get _ _ _ _ h1, plc_step hN hi]
  by_cases e : (l[i]).toNat = k
  · rw [if_pos e, if_pos (by omega)]
  · rw [if_neg e, if_neg (by omega), plcs_get _ _ _ _ h1]
theorem plc_end {x : Int} (h : x ∈ l) : plc l l.length x = (l.idxOf x : Nat) := by
  unfold plc
  rw [List.take_length, if_pos h]
/-- The row of places at the end: whoever stands before another has a smaller place. -/
theorem plc_lt {R : Int → Int → Prop} (hw : l.Pairwise R) {a b : Int} (ha : a ∈ l) (hb : b ∈ l) (h : plc l l.length b < plc l l.length a) : R b a := by
  rw [plc_end ha, plc_end hb] at h
  have h1 : l.idxOf b < l.idxOf a := by exact_mod_cast h
  have h2 : l.idxOf a < l.length := List.idxOf_lt_length_iff.2 ha
  have := (List.pairwise_iff_getElem.1 hw) (l.idxOf b) (l.idxOf a) (by omega) h2 h1
  rwa [List.getElem_idxOf, List.getElem_idxOf] at this
end
end Go.Sy
