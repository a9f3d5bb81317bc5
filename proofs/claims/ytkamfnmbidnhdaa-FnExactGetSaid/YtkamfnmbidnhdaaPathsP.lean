/- Rows of values (paths): copies, sizes, sameness. -/
import Derived.Test.YtkamfnmbidnhdaaGraphsP
import Derived.Test.YtkamfnmbidnhdaaPf29
import Derived.Test.YtkamfnmbidnhdaaPf31
import Derived.Test.YtkamfnmbidnhdaaPf34
set_option linter.unusedVariables false
set_option linter.unusedSimpArgs false
namespace Go.Proofs.Ytkamfnmbidnhdaa.P
open Go.RowKit Go.Proofs.YtkamfnmbidnhdaaW.PrintWords Go.Proofs.Ytkamfnmbidnhdaa.M
def zIV : IV := z29
theorem rdLV (x : List LV) (i : Nat) (h : i < x.length) : rd_T26 x (i : Int) = x[i] := by simp [rd_T26, h]
theorem rdIV (x : List IV) (i : Nat) (h : i < x.length) : rd_T29 x (i : Int) = x[i] := by simp [rd_T29, h]
theorem toValS_says (x : List LV) (hx : x.length ≤ 7036874417766) : Ev (fun r => laws_toValS.f r x) (x.map tV) := by
  have h := ev_from (n := x.length) (L := fun r i => laws_toValS.l0 r x ((x.map tV).take i ++ List.replicate ((x.map tV).length - i) zIV) (i : Int)) (R := fun _ => x.map tV)
    (Ev.up0 fun k => by simp [laws_toValS.l0, ← List.map_take])
    (fun i hi ih => Ev.up ih fun k hk => by
      simp only [laws_toValS.l0]
      have hi' : i < (x.map tV).length := by simpa using hi
      have hl : ((x.map tV).take i ++ List.replicate ((x.map tV).length - i) zIV).length = x.length := by simp; omega
      have hs := set_step (x.map tV) zIV i hi'
      rw [List.getElem_map] at hs
      rw [if_pos (by omega), if_pos (by omega), rdLV x i hi]
      simp only [laws_toVal.f, Option.bind_some]
      rw [if_pos (by rw [hl]; omega), Int.toNat_natCast, wrap_up hi (by omega)]
      exact (congrArg (fun l => laws_toValS.l0 k x l ((i + 1 : Nat) : Int)) hs).trans hk) (Nat.zero_le _)
  refine Ev.map h fun k hk => ?_
  simp only [laws_toValS.f]
  rw [if_pos (by omega), if_pos (by simpa using hx)]
  simpa [zIV] using hk
theorem eqValS_refl (x : List IV) (hx : x.length ≤ 9223372036854775807) : Ev (fun r => laws_eqValS.f r x x) true := by
  have h := ev_from (n := x.length) (L := fun r i => laws_eqValS.l0 r x x (i : Int)) (R := fun _ => true)
    (Ev.up0 fun k => by simp [laws_eqValS.l0])
    (fun i hi ih => Ev.up ih fun k hk => by
      simp only [laws_eqValS.l0]
      rw [if_pos (by omega), if_pos (by omega), if_pos (by omega)]
      simp only [eqVal_refl, Option.bind_some, if_true]
      rw [wrap_up hi hx]
      exact hk) (Nat.zero_le _)
  exact Ev.map h fun k hk => by simpa [laws_eqValS.f] using hk
def szvs (x : List LV) : Nat := x.length + (x.map szv).sum
theorem szValS_says (x : List LV) (hx : x.length ≤ 9223372036854775807) (hs : ∀ p, p ∈ x → smallV p) (a : Int) (h0 : 0 ≤ a) (h1 : a ≤ 1048576) : Ev (fun r => laws_szValS.f r x a) (cut a (szvs x)) := by
  have hL : ∀ d i : Nat, i + d = x.length → ∀ b : Int, 0 ≤ b → b ≤ 1048576 → Ev (fun r => laws_szValS.l0 r x b (i : Int)) (cut b ((x.drop i).map szv).sum) := by
    intro d
    induction d with
    | zero =>
      intro i hi b hb0 hb1
      refine Ev.up0 fun k => ?_
      simp only [laws_szValS.l0]
      rw [if_neg (by omega), List.drop_of_length_le (by omega)]
      rw [cut_pos (by simp; omega)]; simp
    | succ d ih =>
      intro i hi b hb0 hb1
      have hi' : i < x.length := by omega
      have hp := szVal_says x[i].f0 x[i].f1 x[i].f2 x[i].f3 b hb0 hb1 (hs _ (List.getElem_mem hi'))
      rw [List.drop_eq_getElem_cons hi', List.map_cons, List.sum_cons]
      by_cases h : (szv x[i] : Int) ≤ b
      · rw [← cut_cut h]
        refine Ev.up (ih (i + 1) (by omega) (b - szv x[i]) (by omega) (by omega)) fun k hk => ?_
        simp only [laws_szValS.l0]
        rw [if_pos (by omega), if_pos (by omega), rdLV x i hi', hp]
        simp only [Option.bind_some]
        rw [show cut b x[i].f2.size = cut b (szv x[i]) from rfl, if_neg (by rw [cut_pos h]; omega), cut_pos h, wrap_up hi' hx]
        exact hk
      · refine Ev.up0 fun k => ?_
        simp only [laws_szValS.l0]
        rw [if_pos (by omega), if_pos (by omega), rdLV x i hi', hp]
        simp only [Option.bind_some]
        rw [show cut b x[i].f2.size = cut b (szv x[i]) from rfl, if_pos ((cut_neg hb0).2 (by omega)), cut_over (by omega)]
  have hw : wrap64 (a - (x.length : Int)) = a - (x.length : Int) := by unfold wrap64; omega
  by_cases h : (x.length : Int) ≤ a
  · have := hL x.length 0 (by omega) (a - x.length) (by omega) (by omega)
    rw [cut_cut h] at this
    refine Ev.map this fun k hk => ?_
    simp only [laws_szValS.f]
    rw [hw, if_neg (by omega)]
    exact hk
  · refine ⟨0, fun k _ => ?_⟩
    simp only [laws_szValS.f]
    rw [hw, if_pos (by omega), cut_over (by simp only [szvs]; omega)]
end Go.Proofs.Ytkamfnmbidnhdaa.P
