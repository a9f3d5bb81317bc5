/- Squares of answers: copies, sizes, sameness; what the printed functions on them answer. -/
import Derived.Test.YtkamfnmbidnhdaaLoops
import Derived.Test.YtkamfnmbidnhdaaPf18
import Derived.Test.YtkamfnmbidnhdaaPf20
import Derived.Test.YtkamfnmbidnhdaaPf22
import Derived.Test.YtkamfnmbidnhdaaPf48
import Derived.Test.YtkamfnmbidnhdaaPf50
namespace Go.Proofs.Ytkamfnmbidnhdaa.P
open Go.RowKit Go.Proofs.YtkamfnmbidnhdaaW.PrintWords Go.Proofs.Ytkamfnmbidnhdaa.M
theorem toIntS_says (x : List Int) (hx : x.length ≤ 35184372088832) : Ev (fun r => laws_toIntS.f r x) x := by
  have h := ev_from (n := x.length) (L := fun r i => laws_toIntS.l0 r x (x.take i ++ List.replicate (x.length - i) 0) (i : Int)) (R := fun _ => x)
    (Ev.up0 fun k => by simp [laws_toIntS.l0])
    (fun i hi ih => Ev.up ih fun k hk => by
      simp only [laws_toIntS.l0]
      have hl : (x.take i ++ List.replicate (x.length - i) (0 : Int)).length = x.length := by simp; omega
      rw [if_pos (by omega), if_pos (by omega), if_pos (by rw [hl]; omega), Int.toNat_natCast, rd_nat x i hi, set_step x 0 i hi, wrap_up hi (by omega)]
      exact hk) (Nat.zero_le _)
  refine Ev.map h fun k hk => ?_
  simp only [laws_toIntS.f]
  rw [if_pos (by omega), if_pos (by simpa using hx)]
  simpa using hk
theorem rdl_nat (m : List (List Int)) (i : Nat) (h : i < m.length) : rd_L6 m (i : Int) = m[i] := by
  simp [rd_L6, h]
theorem toIntSS_says (m : List (List Int)) (hm : m.length ≤ 11728124029610) (hr : ∀ x, x ∈ m → x.length ≤ 35184372088832) : Ev (fun r => laws_toIntSS.f r m) m := by
  have h := ev_from (n := m.length) (L := fun r i => laws_toIntSS.l0 r m (m.take i ++ List.replicate (m.length - i) []) (i : Int)) (R := fun _ => m)
    (Ev.up0 fun k => by simp [laws_toIntSS.l0])
    (fun i hi ih => Ev.up2 (toIntS_says m[i] (hr _ (List.getElem_mem hi))) ih fun k hk' hk => by
      simp only [laws_toIntSS.l0]
      have hl : (m.take i ++ List.replicate (m.length - i) ([] : List Int)).length = m.length := by simp; omega
      rw [if_pos (by omega), if_pos (by omega), rdl_nat m i hi, hk']
      simp only [Option.bind_some]
      rw [if_pos (by rw [hl]; omega), Int.toNat_natCast, set_step m [] i hi, wrap_up hi (by omega)]
      exact hk) (Nat.zero_le _)
  refine Ev.map h fun k hk => ?_
  simp only [laws_toIntSS.f]
  rw [if_pos (by omega), if_pos (by simpa using hm)]
  simpa using hk
theorem eqIntS_refl (x : List Int) (hx : x.length ≤ 9223372036854775807) : Ev (fun r => laws_eqIntS.f r x x) true := by
  have h := ev_from (n := x.length) (L := fun r i => laws_eqIntS.l0 r x x (i : Int)) (R := fun _ => true)
    (Ev.up0 fun k => by simp [laws_eqIntS.l0])
    (fun i hi ih => Ev.up ih fun k hk => by
      simp only [laws_eqIntS.l0]
      rw [if_pos (by omega), if_pos (by omega), if_pos (by omega)]; simp only [if_true]; rw [wrap_up hi hx]
      exact hk) (Nat.zero_le _)
  exact Ev.map h fun k hk => by simpa [laws_eqIntS.f] using hk
theorem eqIntSS_refl (m : List (List Int)) (hm : m.length ≤ 9223372036854775807) (hr : ∀ x, x ∈ m → x.length ≤ 9223372036854775807) : Ev (fun r => laws_eqIntSS.f r m m) true := by
  have h := ev_from (n := m.length) (L := fun r i => laws_eqIntSS.l0 r m m (i : Int)) (R := fun _ => true)
    (Ev.up0 fun k => by simp [laws_eqIntSS.l0])
    (fun i hi ih => Ev.up2 (eqIntS_refl m[i] (hr _ (List.getElem_mem hi))) ih fun k hk' hk => by
      simp only [laws_eqIntSS.l0]
      rw [if_pos (by omega), if_pos (by omega), if_pos (by omega), rdl_nat m i hi, hk']
      simp only [Option.bind_some, if_true]
      rw [wrap_up hi hm]
      exact hk) (Nat.zero_le _)
  exact Ev.map h fun k hk => by simpa [laws_eqIntSS.f] using hk
theorem szIntSS_loop (m : List (List Int)) (hm : m.length ≤ 9223372036854775807) : ∀ d i : Nat, i + d = m.length → ∀ a : Int, 0 ≤ a → a ≤ 1048576 → (∀ x, x ∈ m → x.length ≤ 9223372036854775807) →
    ∃ t, Ev (fun r => laws_szIntSS.l0 r m a (i : Int)) t ∧ (t < 0 ∨ ∀ x, x ∈ m.drop i → x.length ≤ 1048576)
  | 0, i, h, a, _, _, _ => ⟨a, Ev.up0 fun k => by simp only [laws_szIntSS.l0]; rw [if_neg (by omega)], .inr fun x hx => by rw [List.drop_of_length_le (by omega)] at hx; cases hx⟩
  | d + 1, i, h, a, h0, h1, hr => by
    have hi : i < m.length := by omega
    have hx := hr _ (List.getElem_mem hi)
    have hw : wrap64 (a - (m[i].length : Int)) = a - (m[i].length : Int) := by unfold wrap64; omega
    by_cases hneg : a - (m[i].length : Int) < 0
    · refine ⟨-1, Ev.up0 fun k => ?_, .inl (by omega)⟩
      simp only [laws_szIntSS.l0, laws_szIntS.f]
      rw [if_pos (by omega), if_pos (by omega), rdl_nat m i hi, hw, if_pos hneg]
      simp
    · obtain ⟨t, ht, hq⟩ := szIntSS_loop m hm d (i + 1) (by omega) (a - m[i].length) (by omega) (by omega) hr
      refine ⟨t, Ev.up ht fun k hk => ?_, ?_⟩
      · simp only [laws_szIntSS.l0, laws_szIntS.f]
        rw [if_pos (by omega), if_pos (by omega), rdl_nat m i hi, hw, if_neg hneg]
        simp only [Option.bind_some]
        rw [if_neg hneg, wrap_up hi hm]
        exact hk
      · rcases hq with hq | hq
        · exact .inl hq
        · refine .inr fun x hx => ?_
          rw [List.drop_eq_getElem_cons hi] at hx
          rcases List.mem_cons.1 hx with rfl | hx
          · omega
          · exact hq x hx
theorem szIntSS_says (m : List (List Int)) (hm : m.length ≤ 9223372036854775807) (hr : ∀ x, x ∈ m → x.length ≤ 9223372036854775807) :
    ∃ t, Ev (fun r => laws_szIntSS.f r m 1048576) t ∧ (t < 0 ∨ (m.length ≤ 1048576 ∧ ∀ x, x ∈ m → x.length ≤ 1048576)) := by
  have hw : wrap64 (1048576 - (m.length : Int)) = 1048576 - (m.length : Int) := by unfold wrap64; omega
  by_cases hneg : 1048576 - (m.length : Int) < 0
  · exact ⟨-1, ⟨0, fun k _ => by simp only [laws_szIntSS.f]; rw [hw, if_pos hneg]⟩, .inl (by omega)⟩
  · obtain ⟨t, ht, hq⟩ := szIntSS_loop m hm m.length 0 (by omega) (1048576 - m.length) (by omega) (by omega) hr
    refine ⟨t, Ev.map ht fun k hk => ?_, ?_⟩
    · simp only [laws_szIntSS.f]; rw [hw, if_neg hneg]; exact hk
    · rcases hq with hq | hq
      · exact .inl hq
      · exact .inr ⟨by omega, by simpa using hq⟩
/-- A square of answers. -/
def square (m : List (List Int)) : Prop := m.length ≤ 200 ∧ ∀ x, x ∈ m → x.length = m.length ∧ ∀ v, v ∈ x → 0 ≤ v ∧ v ≤ 2
theorem specSq_row (n : Int) (m : List (List Int)) (M I : Int) (x : List Int) (hx : x.length ≤ 9223372036854775807) (P : Prop) (hP : EvB (fun r => spec_l1square.l0 r n m M (wrap64 (I + 1))) P) :
    EvB (fun r => spec_l1square.l1 r n m M I x (x.length : Int) 0) ((∀ v, v ∈ x → 0 ≤ v ∧ v ≤ 2) ∧ P) := by
  have h := evb_from (n := x.length) (L := fun r j => spec_l1square.l1 r n m M I x (x.length : Int) (j : Int)) (P := fun j => (∀ v, v ∈ x.drop j → 0 ≤ v ∧ v ≤ 2) ∧ P)
    ((hP.up fun k b hk => by simp only [spec_l1square.l1]; rw [if_neg (by omega)]; exact hk).iff (by simp))
    (fun j hj ih => by
      rw [List.drop_eq_getElem_cons hj]
      by_cases c1 : x[j] < 0
      · exact EvB.no (Ev.up0 fun k => by simp only [spec_l1square.l1]; rw [if_pos (by omega), if_pos (by omega), if_pos (by omega), rd_nat x j hj, if_pos c1]) (fun h => by have := (h.1 x[j] List.mem_cons_self).1; omega)
      · by_cases c2 : x[j] > 2
        · exact EvB.no (Ev.up0 fun k => by simp only [spec_l1square.l1]; rw [if_pos (by omega), if_pos (by omega), if_pos (by omega), rd_nat x j hj, if_neg c1, if_pos c2]) (fun h => by have := (h.1 x[j] List.mem_cons_self).2; omega)
        · refine (ih.up fun k b hk => ?_).iff ?_
          · simp only [spec_l1square.l1]; rw [if_pos (by omega), if_pos (by omega), if_pos (by omega), rd_nat x j hj, if_neg c1, if_neg c2, wrap_up hj hx]; exact hk
          · simp only [List.mem_cons, forall_eq_or_imp]
            constructor
            · rintro ⟨h1, h2⟩; exact ⟨⟨by omega, h1⟩, h2⟩
            · rintro ⟨⟨_, h1⟩, h2⟩; exact ⟨h1, h2⟩) x.length 0 (by omega)
  simpa using h
theorem specSq_says (m : List (List Int)) (hm : m.length ≤ 9223372036854775807) (hr : ∀ x, x ∈ m → x.length ≤ 9223372036854775807) : EvB (fun r => spec_l1square.f r m) (square m) := by
  by_cases h200 : (m.length : Int) > 200
  · exact EvB.no ⟨0, fun k _ => by simp only [spec_l1square.f]; rw [if_pos h200]⟩ (fun h => by have := h.1; omega)
  · have h := evb_from (n := m.length) (L := fun r i => spec_l1square.l0 r (m.length : Int) m (m.length : Int) (i : Int)) (P := fun i => ∀ x, x ∈ m.drop i → x.length = m.length ∧ ∀ v, v ∈ x → 0 ≤ v ∧ v ≤ 2)
      (EvB.yes (Ev.up0 fun k => by simp only [spec_l1square.l0]; rw [if_neg (by omega)]) (by simp))
      (fun i hi ih => by
        rw [List.drop_eq_getElem_cons hi]
        by_cases c1 : m[i].length = m.length
        · have := specSq_row (m.length : Int) m (m.length : Int) (i : Int) m[i] (hr _ (List.getElem_mem hi)) _ (by rw [wrap_up hi hm]; exact ih)
          refine (this.up fun k b hk => ?_).iff ?_
          · simp only [spec_l1square.l0]; rw [if_pos (by omega), if_pos (by omega), if_pos (by omega), rdl_nat m i hi, if_pos (by omega)]; exact hk
          · simp only [List.mem_cons, forall_eq_or_imp]
            exact ⟨fun h => ⟨⟨c1, h.1⟩, h.2⟩, fun h => ⟨h.1.2, h.2⟩⟩
        · refine EvB.no (Ev.up0 fun k => ?_) (fun h => c1 (h m[i] List.mem_cons_self).1)
          simp only [spec_l1square.l0]; rw [if_pos (by omega), if_pos (by omega), if_pos (by omega), rdl_nat m i hi, if_neg (by omega)]) m.length 0 (by omega)
    obtain ⟨b, h1, h2⟩ := h
    refine ⟨b, Ev.map h1 fun k hk => ?_, h2.trans ?_⟩
    · simp only [spec_l1square.f]; rw [if_neg h200]; exact hk
    · simp only [List.drop_zero, square]
      exact ⟨fun h => ⟨by omega, h⟩, fun h => h.2⟩
theorem implSq_row (m m' : List (List Int)) (M I : Int) (x : List Int) (hx : x.length ≤ 9223372036854775807) (P : Prop) (hP : EvB (fun r => impl_squareOk.l0 r m m' M (wrap64 (I + 1))) P) :
    EvB (fun r => impl_squareOk.l1 r m m' M I x (x.length : Int) 0) ((∀ v, v ∈ x → 0 ≤ v ∧ v ≤ 2) ∧ P) := by
  have h := evb_from (n := x.length) (L := fun r j => impl_squareOk.l1 r m m' M I x (x.length : Int) (j : Int)) (P := fun j => (∀ v, v ∈ x.drop j → 0 ≤ v ∧ v ≤ 2) ∧ P)
    ((hP.up fun k b hk => by simp only [impl_squareOk.l1]; rw [if_neg (by omega)]; exact hk).iff (by simp))
    (fun j hj ih => by
      rw [List.drop_eq_getElem_cons hj]
      by_cases c1 : x[j] < 0
      · exact EvB.no (Ev.up0 fun k => by simp only [impl_squareOk.l1]; rw [if_pos (by omega), if_pos (by omega), if_pos (by omega), rd_nat x j hj, if_pos c1]) (fun h => by have := (h.1 x[j] List.mem_cons_self).1; omega)
      · by_cases c2 : x[j] > 2
        · exact EvB.no (Ev.up0 fun k => by simp only [impl_squareOk.l1]; rw [if_pos (by omega), if_pos (by omega), if_pos (by omega), rd_nat x j hj, if_neg c1, if_pos c2]) (fun h => by have := (h.1 x[j] List.mem_cons_self).2; omega)
        · refine (ih.up fun k b hk => ?_).iff ?_
          · simp only [impl_squareOk.l1]; rw [if_pos (by omega), if_pos (by omega), if_pos (by omega), rd_nat x j hj, if_neg c1, if_neg c2, wrap_up hj hx]; exact hk
          · simp only [List.mem_cons, forall_eq_or_imp]
            constructor
            · rintro ⟨h1, h2⟩; exact ⟨⟨by omega, h1⟩, h2⟩
            · rintro ⟨⟨_, h1⟩, h2⟩; exact ⟨h1, h2⟩) x.length 0 (by omega)
  simpa using h
theorem implSq_says (m : List (List Int)) (hm : m.length ≤ 9223372036854775807) (hr : ∀ x, x ∈ m → x.length ≤ 9223372036854775807) : EvB (fun r => impl_squareOk.f r m) (square m) := by
  by_cases h200 : (m.length : Int) > 200
  · exact EvB.no ⟨0, fun k _ => by simp only [impl_squareOk.f]; rw [if_pos h200]⟩ (fun h => by have := h.1; omega)
  · have h := evb_from (n := m.length) (L := fun r i => impl_squareOk.l0 r m m (m.length : Int) (i : Int)) (P := fun i => ∀ x, x ∈ m.drop i → x.length = m.length ∧ ∀ v, v ∈ x → 0 ≤ v ∧ v ≤ 2)
      (EvB.yes (Ev.up0 fun k => by simp only [impl_squareOk.l0]; rw [if_neg (by omega)]) (by simp))
      (fun i hi ih => by
        rw [List.drop_eq_getElem_cons hi]
        by_cases c1 : m[i].length = m.length
        · have := implSq_row m m (m.length : Int) (i : Int) m[i] (hr _ (List.getElem_mem hi)) _ (by rw [wrap_up hi hm]; exact ih)
          refine (this.up fun k b hk => ?_).iff ?_
          · simp only [impl_squareOk.l0]; rw [if_pos (by omega), if_pos (by omega), if_pos (by omega), rdl_nat m i hi, if_pos (by omega)]; exact hk
          · simp only [List.mem_cons, forall_eq_or_imp]
            exact ⟨fun h => ⟨⟨c1, h.1⟩, h.2⟩, fun h => ⟨h.1.2, h.2⟩⟩
        · refine EvB.no (Ev.up0 fun k => ?_) (fun h => c1 (h m[i] List.mem_cons_self).1)
          simp only [impl_squareOk.l0]; rw [if_pos (by omega), if_pos (by omega), if_pos (by omega), rdl_nat m i hi, if_neg (by omega)]) m.length 0 (by omega)
    obtain ⟨b, h1, h2⟩ := h
    refine ⟨b, Ev.map h1 fun k hk => ?_, h2.trans ?_⟩
    · simp only [impl_squareOk.f]; rw [if_neg h200]; exact hk
    · simp only [List.drop_zero, square]
      exact ⟨fun h => ⟨by omega, h⟩, fun h => h.2⟩
end Go.Proofs.Ytkamfnmbidnhdaa.P
