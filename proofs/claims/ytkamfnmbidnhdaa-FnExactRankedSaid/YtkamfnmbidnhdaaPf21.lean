/- Out of the translation, by program (the kit's print program, turned: wip/tools/pp.py). -/
import Derived.Test.YtkamfnmbidnhdaaPf
import Derived.Test.YtkamfnmbidnhdaaPf50
namespace Go.Proofs.Ytkamfnmbidnhdaa.P
open Go.RowKit Go.Proofs.YtkamfnmbidnhdaaW.PrintWords Go.Proofs.YtkamfnmbidnhdaaW.PrintLast Go.Proofs.YtkamfnmbidnhdaaW.PrintMore
attribute [local go_sem] max2_int min2_int max_two min_two max_three min_three max_four min_four   -- for this text's walks alone
set_option linter.unusedVariables false
set_option linter.unusedSimpArgs false

/-! ### impl_Ranked: function 21 -/
mutual
def impl_Ranked.l0 : Nat → List (List Int) → Int → Int → Option (Bool)
  | 0, _, _, _ => none
  | k + 1, x0, x10, x11 => if x11 < x10 then (impl_Ranked.l1 k x0 x11 x10 x11 (x0.length : Int) 0) else (some true)
def impl_Ranked.l1 : Nat → List (List Int) → Int → Int → Int → Int → Int → Option (Bool)
  | 0, _, _, _, _, _, _ => none
  | k + 1, x0, x3, x10, x11, x15, x16 => if x16 < x15 then (if 0 ≤ x3 then (if x3 < (x0.length : Int) then (if 0 ≤ x16 then (if x16 < ((rd_L6 x0 x3).length : Int) then (if (rd (rd_L6 x0 x3) x16) = 2 then (impl_Ranked.j2 k x0 x3 x16 x10 x11 x15 x16 true) else (if (rd (rd_L6 x0 x3) x16) = 1 then (if x16 < (x0.length : Int) then (if x3 < ((rd_L6 x0 x16).length : Int) then (impl_Ranked.j2 k x0 x3 x16 x10 x11 x15 x16 ((rd (rd_L6 x0 x16) x3) == 1)) else (none)) else (none)) else (impl_Ranked.j2 k x0 x3 x16 x10 x11 x15 x16 false))) else (none)) else (none)) else (none)) else (none)) else (impl_Ranked.l0 k x0 x10 (wrap64 (x11 + 1)))
def impl_Ranked.j2 : Nat → List (List Int) → Int → Int → Int → Int → Int → Int → Bool → Option (Bool)
  | 0, _, _, _, _, _, _, _, _ => none
  | k + 1, x0, x3, x4, x10, x11, x15, x16, x46 => if x46 = true then (some false) else (impl_Ranked.l2 k x0 x3 x4 x10 x11 x15 x16 (x0.length : Int) 0)
def impl_Ranked.l2 : Nat → List (List Int) → Int → Int → Int → Int → Int → Int → Int → Int → Option (Bool)
  | 0, _, _, _, _, _, _, _, _, _ => none
  | k + 1, x0, x3, x4, x10, x11, x15, x16, x48, x49 => if x49 < x48 then (if 0 ≤ x3 then (if x3 < (x0.length : Int) then (if 0 ≤ x4 then (if x4 < ((rd_L6 x0 x3).length : Int) then (if (rd (rd_L6 x0 x3) x4) = 0 then (if x4 < (x0.length : Int) then (if 0 ≤ x49 then (if x49 < ((rd_L6 x0 x4).length : Int) then (if (rd (rd_L6 x0 x4) x49) = 0 then (if x49 < ((rd_L6 x0 x3).length : Int) then (if (rd (rd_L6 x0 x3) x49) = 0 then (impl_Ranked.l2 k x0 x3 x4 x10 x11 x15 x16 x48 (wrap64 (x49 + 1))) else (some false)) else (none)) else (impl_Ranked.l2 k x0 x3 x4 x10 x11 x15 x16 x48 (wrap64 (x49 + 1)))) else (none)) else (none)) else (none)) else (impl_Ranked.l2 k x0 x3 x4 x10 x11 x15 x16 x48 (wrap64 (x49 + 1)))) else (none)) else (none)) else (none)) else (none)) else (impl_Ranked.l1 k x0 x3 x10 x11 x15 (wrap64 (x16 + 1)))
end
def impl_Ranked.f (k : Nat) (l0 : List (List Int)) : Option (Bool) := (impl_squareOk.f k l0).bind fun t191 => (if t191 = true then (impl_Ranked.l0 k l0 (l0.length : Int) 0) else (some false))
theorem impl_Ranked.mono_l : ∀ k, (∀ y0 y1 y2, LeO (impl_Ranked.l0 k y0 y1 y2) (impl_Ranked.l0 (k + 1) y0 y1 y2)) ∧ (∀ y0 y1 y2 y3 y4 y5, LeO (impl_Ranked.l1 k y0 y1 y2 y3 y4 y5) (impl_Ranked.l1 (k + 1) y0 y1 y2 y3 y4 y5)) ∧ (∀ y0 y1 y2 y3 y4 y5 y6 y7, LeO (impl_Ranked.j2 k y0 y1 y2 y3 y4 y5 y6 y7) (impl_Ranked.j2 (k + 1) y0 y1 y2 y3 y4 y5 y6 y7)) ∧ (∀ y0 y1 y2 y3 y4 y5 y6 y7 y8, LeO (impl_Ranked.l2 k y0 y1 y2 y3 y4 y5 y6 y7 y8) (impl_Ranked.l2 (k + 1) y0 y1 y2 y3 y4 y5 y6 y7 y8))
  | 0 => ⟨fun _ _ _ r h => by simp [impl_Ranked.l0] at h, fun _ _ _ _ _ _ r h => by simp [impl_Ranked.l1] at h, fun _ _ _ _ _ _ _ _ r h => by simp [impl_Ranked.j2] at h, fun _ _ _ _ _ _ _ _ _ r h => by simp [impl_Ranked.l2] at h⟩
  | k + 1 => by
    obtain ⟨ih0, ih1, ih2, ih3⟩ := impl_Ranked.mono_l k
    refine ⟨?_, ?_, ?_, ?_⟩
    · intro y0 y1 y2
      unfold impl_Ranked.l0
      repeat' first
      | (with_reducible exact ih0 _ _ _)
      | (with_reducible exact ih1 _ _ _ _ _ _)
      | (with_reducible exact ih2 _ _ _ _ _ _ _ _)
      | (with_reducible exact ih3 _ _ _ _ _ _ _ _ _)
      | (with_reducible exact impl_squareOk.mono _ _)
      | (with_reducible exact LeO.refl _)
      | (with_reducible exact LeO.none _)
      | (with_reducible refine LeO.ite ?_ ?_)
      | (with_reducible refine LeO.bind ?_ (fun _ => ?_))
      | exact ih0 _ _ _
      | exact ih1 _ _ _ _ _ _
      | exact ih2 _ _ _ _ _ _ _ _
      | exact ih3 _ _ _ _ _ _ _ _ _
      | exact impl_squareOk.mono _ _
      | exact LeO.none _
      | refine LeO.ite ?_ ?_
      | refine LeO.bind ?_ (fun _ => ?_)
    · intro y0 y1 y2 y3 y4 y5
      unfold impl_Ranked.l1
      repeat' first
      | (with_reducible exact ih0 _ _ _)
      | (with_reducible exact ih1 _ _ _ _ _ _)
      | (with_reducible exact ih2 _ _ _ _ _ _ _ _)
      | (with_reducible exact ih3 _ _ _ _ _ _ _ _ _)
      | (with_reducible exact impl_squareOk.mono _ _)
      | (with_reducible exact LeO.refl _)
      | (with_reducible exact LeO.none _)
      | (with_reducible refine LeO.ite ?_ ?_)
      | (with_reducible refine LeO.bind ?_ (fun _ => ?_))
      | exact ih0 _ _ _
      | exact ih1 _ _ _ _ _ _
      | exact ih2 _ _ _ _ _ _ _ _
      | exact ih3 _ _ _ _ _ _ _ _ _
      | exact impl_squareOk.mono _ _
      | exact LeO.none _
      | refine LeO.ite ?_ ?_
      | refine LeO.bind ?_ (fun _ => ?_)
    · intro y0 y1 y2 y3 y4 y5 y6 y7
      unfold impl_Ranked.j2
      repeat' first
      | (with_reducible exact ih0 _ _ _)
      | (with_reducible exact ih1 _ _ _ _ _ _)
      | (with_reducible exact ih2 _ _ _ _ _ _ _ _)
      | (with_reducible exact ih3 _ _ _ _ _ _ _ _ _)
      | (with_reducible exact impl_squareOk.mono _ _)
      | (with_reducible exact LeO.refl _)
      | (with_reducible exact LeO.none _)
      | (with_reducible refine LeO.ite ?_ ?_)
      | (with_reducible refine LeO.bind ?_ (fun _ => ?_))
      | exact ih0 _ _ _
      | exact ih1 _ _ _ _ _ _
      | exact ih2 _ _ _ _ _ _ _ _
      | exact ih3 _ _ _ _ _ _ _ _ _
      | exact impl_squareOk.mono _ _
      | exact LeO.none _
      | refine LeO.ite ?_ ?_
      | refine LeO.bind ?_ (fun _ => ?_)
    · intro y0 y1 y2 y3 y4 y5 y6 y7 y8
      unfold impl_Ranked.l2
      repeat' first
      | (with_reducible exact ih0 _ _ _)
      | (with_reducible exact ih1 _ _ _ _ _ _)
      | (with_reducible exact ih2 _ _ _ _ _ _ _ _)
      | (with_reducible exact ih3 _ _ _ _ _ _ _ _ _)
      | (with_reducible exact impl_squareOk.mono _ _)
      | (with_reducible exact LeO.refl _)
      | (with_reducible exact LeO.none _)
      | (with_reducible refine LeO.ite ?_ ?_)
      | (with_reducible refine LeO.bind ?_ (fun _ => ?_))
      | exact ih0 _ _ _
      | exact ih1 _ _ _ _ _ _
      | exact ih2 _ _ _ _ _ _ _ _
      | exact ih3 _ _ _ _ _ _ _ _ _
      | exact impl_squareOk.mono _ _
      | exact LeO.none _
      | refine LeO.ite ?_ ?_
      | refine LeO.bind ?_ (fun _ => ?_)
theorem impl_Ranked.mono : ∀ a0 k, LeO (impl_Ranked.f k a0) (impl_Ranked.f (k + 1) a0) := by
  intro a0 k
  obtain ⟨ih0, ih1, ih2, ih3⟩ := impl_Ranked.mono_l k
  unfold impl_Ranked.f
  repeat' first
      | (with_reducible exact ih0 _ _ _)
      | (with_reducible exact ih1 _ _ _ _ _ _)
      | (with_reducible exact ih2 _ _ _ _ _ _ _ _)
      | (with_reducible exact ih3 _ _ _ _ _ _ _ _ _)
      | (with_reducible exact impl_squareOk.mono _ _)
      | (with_reducible exact LeO.refl _)
      | (with_reducible exact LeO.none _)
      | (with_reducible refine LeO.ite ?_ ?_)
      | (with_reducible refine LeO.bind ?_ (fun _ => ?_))
      | exact ih0 _ _ _
      | exact ih1 _ _ _ _ _ _
      | exact ih2 _ _ _ _ _ _ _ _
      | exact ih3 _ _ _ _ _ _ _ _ _
      | exact impl_squareOk.mono _ _
      | exact LeO.none _
      | refine LeO.ite ?_ ?_
      | refine LeO.bind ?_ (fun _ => ?_)
set_option maxHeartbeats 8000000 in
set_option maxRecDepth 100000 in
theorem impl_Ranked.calls (k : Nat) (A0 : Option Addr) (c0 : Nat) (l0 : List (List Int)) (r : Bool) (w : World) (hr0 : Kd.C (Kd.slice 3 (Kd.int .i64)) w A0 l0.length l0) (hc0 : l0.length ≤ c0) (h : impl_Ranked.f k l0 = some r) :
    Calls Try.prog 21 #[.slice A0 l0.length c0] w fun e w' => e = .returned (.bool r) ∧ Drawn0 w w' := by
  have HR0 := Aside0.mk hr0
  have HC0 := Aside0.mk hc0
  clear hr0 hc0
  have H : ((impl_squareOk.f k l0).bind fun t191 => (if t191 = true then (impl_Ranked.l0 k l0 (l0.length : Int) 0) else (some false))) = some r := h
  clear h
  replace H := Option.bind_eq_some_iff.mp H
  obtain ⟨t191, A20, H⟩ := H
  replace H : (if t191 = true then (impl_Ranked.l0 k l0 (l0.length : Int) 0) else (some false)) = some r := H
  have A2 := Aside0.mk A20
  clear A20
  by_cases c3 : t191 = true
  · subst c3
    have H1 : (impl_Ranked.l0 k l0 (l0.length : Int) 0) = some r := by rw [if_pos rfl] at H; exact H
    clear H
    have H := H1
    clear H1
    have H' := Aside0.mk H
    clear H
    go_enter Try.func21, Try.ntmps21
    go_wp2_with (first | ((with_reducible refine gate_callee (f := 50) rfl ?_); refine goesL_ (some 7) rfl rfl Try.func50 (by kernel_rfl) rfl #[.slice A0 l0.length c0] rfl (by (try simp only [List.map_toArray, List.map_cons, List.map_nil]); first | done | rfl | (simp only [List.length_drop, List.length_take]; rfl)) ?_; (with_reducible refine (impl_squareOk.calls k _ _ l0 true _ ?side1 ?side2 A2.out).mono ?_); (case side1 => repeat (first | exact HR0.out | (with_reducible refine Kd.C_alloc ?_ _) | (with_reducible refine Kd.C_drewN ?_ _) | (with_reducible refine Kd.C_drew ?_))); (case side2 => exact HC0.out); rintro e w' ⟨rfl, ⟨nd, rfl⟩⟩; refine ⟨_, rfl, ?_⟩))
    go_loopg [11] k (fun kq v11 w' => ∃ (x11_1 : Int), v11 = .int .i64 x11_1 ∧ Aside0 (impl_Ranked.l0 kq l0 (l0.length : Int) x11_1 = some r) ∧ Aside0 (kq ≤ k) ∧ Drawn0 w w')
    case atStart => exact ⟨(0), (by first | rfl | (simp; done) | (simp [*]; done)), H', ⟨Nat.le_refl _⟩, by repeat (first | exact Drawn0.refl _ | apply Drawn0.step)⟩
    case round =>
      clear H'
      try clear c2
      try clear p2
      try clear c3
      obtain ⟨x11_1, rfl, HA, HK1, ⟨m1, rfl⟩⟩ := hrel
      cases gk with
      | zero => exact absurd HA.out (by simp [impl_Ranked.l0])
      | succ k1 =>
        have H := HA.out
        clear HA
        simp only [impl_Ranked.l0] at H
        by_cases c4 : x11_1 < (l0.length : Int)
        · rw [if_pos c4] at H
          have c4b0 : decide (x11_1 < (l0.length : Int)) = true := decide_eq_true c4
          clear c4
          have H' := Aside0.mk H
          clear H
          go_wp2
          go_loopg [16] k1 (fun kq v16 w' => ∃ (x16_2 : Int), v16 = .int .i64 x16_2 ∧ Aside0 (impl_Ranked.l1 kq l0 x11_1 (l0.length : Int) x11_1 (l0.length : Int) x16_2 = some r) ∧ Aside0 (kq ≤ k1) ∧ Drawn0 w w')
          case atStart => exact ⟨(0), (by first | rfl | (simp; done) | (simp [*]; done)), H', ⟨Nat.le_refl _⟩, by repeat (first | exact Drawn0.refl _ | apply Drawn0.step)⟩
          case round =>
            clear H'
            try clear c2
            try clear p2
            try clear c3
            try clear c4
            try clear c4b0
            try clear p2
            obtain ⟨x16_2, rfl, HA, HK2, ⟨m2, rfl⟩⟩ := hrel
            cases gk with
            | zero => exact absurd HA.out (by simp [impl_Ranked.l1])
            | succ k2 =>
              have H := HA.out
              clear HA
              simp only [impl_Ranked.l1] at H
              by_cases c5 : x16_2 < (l0.length : Int)
              · rw [if_pos c5] at H
                have c5b0 : decide (x16_2 < (l0.length : Int)) = true := decide_eq_true c5
                clear c5
                have HC6 := Aside0.mk H
                clear H
                go_upto_region 9 with (fail)
                go_cut [46] (fun v46 wc => ∃ (kq : Nat) (x46_5 : Bool), v46 = .bool x46_5 ∧ Aside0 (impl_Ranked.j2 kq l0 x11_1 x16_2 (l0.length : Int) x11_1 (l0.length : Int) x16_2 x46_5 = some r) ∧ Aside0 (kq ≤ k2) ∧ Drawn0 w wc)
                case first =>
                  have H := HC6.out
                  clear HC6
                  by_cases c7 : 0 ≤ x11_1
                  · rw [if_pos c7] at H
                    have c7b0 : decide (0 ≤ x11_1) = true := decide_eq_true c7
                    clear c7
                    (first | rw [c7b0] | (simp only [i64_w, i32_w]; rw [c7b0]) | skip)
                    by_cases c8 : x11_1 < (l0.length : Int)
                    · rw [if_pos c8] at H
                      have c8b0 : decide (x11_1 < (l0.length : Int)) = true := decide_eq_true c8
                      clear c8
                      by_cases c9 : 0 ≤ x16_2
                      · rw [if_pos c9] at H
                        have c9b0 : decide (0 ≤ x16_2) = true := decide_eq_true c9
                        clear c9
                        by_cases c10 : x16_2 < ((rd_L6 l0 x11_1).length : Int)
                        · rw [if_pos c10] at H
                          have c10b0 : decide (x16_2 < ((rd_L6 l0 x11_1).length : Int)) = true := decide_eq_true c10
                          clear c10
                          by_cases c11 : (rd (rd_L6 l0 x11_1) x16_2) = 2
                          · rw [if_pos c11] at H
                            have c11b0 : ((rd (rd_L6 l0 x11_1) x16_2) == 2) = true := beq_iff_eq.mpr c11
                            have c11b1 : ((rd (rd_L6 l0 x11_1) x16_2) != 2) = false := bne_eq_false_iff_eq.mpr c11
                            clear c11
                            have H' := Aside0.mk H
                            clear H
                            have p192 : 0 ≤ (x11_1 : Int) := of_decide_eq_true (by first | (with_reducible assumption) | assumption)
                            have q192 : x11_1 < (l0.length : Int) := of_decide_eq_true (by first | (with_reducible assumption) | assumption)
                            obtain ⟨ad192, A192_0, c192_0, e192, hx192_0, hl192_0, hi192_0⟩ := at_L6 HR0.out x11_1 p192 q192
                            cases e192
                            have HR192_0 := Aside0.mk hi192_0
                            have HC192_0 := Aside0.mk hl192_0
                            clear hi192_0 hl192_0
                            replace p192 := eq_true p192
                            replace q192 := eq_true q192
                            have p193 : 0 ≤ (x16_2 : Int) := of_decide_eq_true (by first | (with_reducible assumption) | assumption)
                            have q193 : x16_2 < ((rd_L6 l0 x11_1).length : Int) := of_decide_eq_true (by first | (with_reducible assumption) | assumption)
                            obtain ⟨ad193, e193, hx193_0⟩ := Kd.at_int HR192_0.out x16_2 p193 q193
                            cases e193
                            replace p193 := eq_true p193
                            replace q193 := eq_true q193
                            go_wp2
                            go_meet
                            case rel => exact ⟨_, (true), (by first | rfl | (simp; done) | (simp [*]; done)), H', ⟨by have := HK1.out; have := HK2.out; first | omega | exact Nat.le_refl _⟩, by repeat (first | exact Drawn0.refl _ | apply Drawn0.step)⟩
                          · rw [if_neg c11] at H
                            have c11b0 : ((rd (rd_L6 l0 x11_1) x16_2) == 2) = false := beq_eq_false_iff_ne.mpr c11
                            have c11b1 : ((rd (rd_L6 l0 x11_1) x16_2) != 2) = true := bne_iff_ne.mpr c11
                            by_cases c12 : (rd (rd_L6 l0 x11_1) x16_2) = 1
                            · rw [if_pos c12] at H
                              have c12b0 : ((rd (rd_L6 l0 x11_1) x16_2) == 1) = true := beq_iff_eq.mpr c12
                              have c12b1 : ((rd (rd_L6 l0 x11_1) x16_2) != 1) = false := bne_eq_false_iff_eq.mpr c12
                              clear c12
                              by_cases c13 : x16_2 < (l0.length : Int)
                              · rw [if_pos c13] at H
                                have c13b0 : decide (x16_2 < (l0.length : Int)) = true := decide_eq_true c13
                                clear c13
                                by_cases c14 : x11_1 < ((rd_L6 l0 x16_2).length : Int)
                                · rw [if_pos c14] at H
                                  have c14b0 : decide (x11_1 < ((rd_L6 l0 x16_2).length : Int)) = true := decide_eq_true c14
                                  clear c14
                                  have H' := Aside0.mk H
                                  clear H
                                  have p192 : 0 ≤ (x11_1 : Int) := of_decide_eq_true (by first | (with_reducible assumption) | assumption)
                                  have q192 : x11_1 < (l0.length : Int) := of_decide_eq_true (by first | (with_reducible assumption) | assumption)
                                  obtain ⟨ad192, A192_0, c192_0, e192, hx192_0, hl192_0, hi192_0⟩ := at_L6 HR0.out x11_1 p192 q192
                                  cases e192
                                  have HR192_0 := Aside0.mk hi192_0
                                  have HC192_0 := Aside0.mk hl192_0
                                  clear hi192_0 hl192_0
                                  replace p192 := eq_true p192
                                  replace q192 := eq_true q192
                                  have p193 : 0 ≤ (x16_2 : Int) := of_decide_eq_true (by first | (with_reducible assumption) | assumption)
                                  have q193 : x16_2 < ((rd_L6 l0 x11_1).length : Int) := of_decide_eq_true (by first | (with_reducible assumption) | assumption)
                                  obtain ⟨ad193, e193, hx193_0⟩ := Kd.at_int HR192_0.out x16_2 p193 q193
                                  cases e193
                                  replace p193 := eq_true p193
                                  replace q193 := eq_true q193
                                  have p194 : 0 ≤ (x11_1 : Int) := of_decide_eq_true (by first | (with_reducible assumption) | assumption)
                                  have q194 : x11_1 < (l0.length : Int) := of_decide_eq_true (by first | (with_reducible assumption) | assumption)
                                  obtain ⟨ad194, A194_0, c194_0, e194, hx194_0, hl194_0, hi194_0⟩ := at_L6 HR0.out x11_1 p194 q194
                                  obtain rfl : ad192 = ad194 := (by injection e194)
                                  have HR194_0 := Aside0.mk hi194_0
                                  have HC194_0 := Aside0.mk hl194_0
                                  clear hi194_0 hl194_0
                                  replace p194 := eq_true p194
                                  replace q194 := eq_true q194
                                  have ea_ := Option.some.inj (hx192_0.symm.trans hx194_0)
                                  injection ea_ with ea_ en_ ec_
                                  subst ea_
                                  subst ec_
                                  clear en_
                                  have p195 : 0 ≤ (x16_2 : Int) := of_decide_eq_true (by first | (with_reducible assumption) | assumption)
                                  have q195 : x16_2 < ((rd_L6 l0 x11_1).length : Int) := of_decide_eq_true (by first | (with_reducible assumption) | assumption)
                                  obtain ⟨ad195, e195, hx195_0⟩ := Kd.at_int HR194_0.out x16_2 p195 q195
                                  cases e195
                                  replace p195 := eq_true p195
                                  replace q195 := eq_true q195
                                  have p196 : 0 ≤ (x16_2 : Int) := of_decide_eq_true (by first | (with_reducible assumption) | assumption)
                                  have q196 : x16_2 < (l0.length : Int) := of_decide_eq_true (by first | (with_reducible assumption) | assumption)
                                  obtain ⟨ad196, A196_0, c196_0, e196, hx196_0, hl196_0, hi196_0⟩ := at_L6 HR0.out x16_2 p196 q196
                                  obtain rfl : ad192 = ad196 := (by injection e196)
                                  have HR196_0 := Aside0.mk hi196_0
                                  have HC196_0 := Aside0.mk hl196_0
                                  clear hi196_0 hl196_0
                                  replace p196 := eq_true p196
                                  replace q196 := eq_true q196
                                  have p197 : 0 ≤ (x11_1 : Int) := of_decide_eq_true (by first | (with_reducible assumption) | assumption)
                                  have q197 : x11_1 < ((rd_L6 l0 x16_2).length : Int) := of_decide_eq_true (by first | (with_reducible assumption) | assumption)
                                  obtain ⟨ad197, e197, hx197_0⟩ := Kd.at_int HR196_0.out x11_1 p197 q197
                                  cases e197
                                  replace p197 := eq_true p197
                                  replace q197 := eq_true q197
                                  go_wp2
                                  go_meet
                                  case rel => exact ⟨_, (((rd (rd_L6 l0 x16_2) x11_1) == 1)), (by first | rfl | (simp; done) | (simp [*]; done)), H', ⟨by have := HK1.out; have := HK2.out; first | omega | exact Nat.le_refl _⟩, by repeat (first | exact Drawn0.refl _ | apply Drawn0.step)⟩
                                · rw [if_neg c14] at H
                                  exact absurd H (by simp)
                              · rw [if_neg c13] at H
                                exact absurd H (by simp)
                            · rw [if_neg c12] at H
                              have c12b0 : ((rd (rd_L6 l0 x11_1) x16_2) == 1) = false := beq_eq_false_iff_ne.mpr c12
                              have c12b1 : ((rd (rd_L6 l0 x11_1) x16_2) != 1) = true := bne_iff_ne.mpr c12
                              have H' := Aside0.mk H
                              clear H
                              have p192 : 0 ≤ (x11_1 : Int) := of_decide_eq_true (by first | (with_reducible assumption) | assumption)
                              have q192 : x11_1 < (l0.length : Int) := of_decide_eq_true (by first | (with_reducible assumption) | assumption)
                              obtain ⟨ad192, A192_0, c192_0, e192, hx192_0, hl192_0, hi192_0⟩ := at_L6 HR0.out x11_1 p192 q192
                              cases e192
                              have HR192_0 := Aside0.mk hi192_0
                              have HC192_0 := Aside0.mk hl192_0
                              clear hi192_0 hl192_0
                              replace p192 := eq_true p192
                              replace q192 := eq_true q192
                              have p193 : 0 ≤ (x16_2 : Int) := of_decide_eq_true (by first | (with_reducible assumption) | assumption)
                              have q193 : x16_2 < ((rd_L6 l0 x11_1).length : Int) := of_decide_eq_true (by first | (with_reducible assumption) | assumption)
                              obtain ⟨ad193, e193, hx193_0⟩ := Kd.at_int HR192_0.out x16_2 p193 q193
                              cases e193
                              replace p193 := eq_true p193
                              replace q193 := eq_true q193
                              have p194 : 0 ≤ (x11_1 : Int) := of_decide_eq_true (by first | (with_reducible assumption) | assumption)
                              have q194 : x11_1 < (l0.length : Int) := of_decide_eq_true (by first | (with_reducible assumption) | assumption)
                              obtain ⟨ad194, A194_0, c194_0, e194, hx194_0, hl194_0, hi194_0⟩ := at_L6 HR0.out x11_1 p194 q194
                              obtain rfl : ad192 = ad194 := (by injection e194)
                              have HR194_0 := Aside0.mk hi194_0
                              have HC194_0 := Aside0.mk hl194_0
                              clear hi194_0 hl194_0
                              replace p194 := eq_true p194
                              replace q194 := eq_true q194
                              have ea_ := Option.some.inj (hx192_0.symm.trans hx194_0)
                              injection ea_ with ea_ en_ ec_
                              subst ea_
                              subst ec_
                              clear en_
                              have p195 : 0 ≤ (x16_2 : Int) := of_decide_eq_true (by first | (with_reducible assumption) | assumption)
                              have q195 : x16_2 < ((rd_L6 l0 x11_1).length : Int) := of_decide_eq_true (by first | (with_reducible assumption) | assumption)
                              obtain ⟨ad195, e195, hx195_0⟩ := Kd.at_int HR194_0.out x16_2 p195 q195
                              cases e195
                              replace p195 := eq_true p195
                              replace q195 := eq_true q195
                              go_wp2
                              go_meet
                              case rel => exact ⟨_, (false), (by first | rfl | (simp; done) | (simp [*]; done)), H', ⟨by have := HK1.out; have := HK2.out; first | omega | exact Nat.le_refl _⟩, by repeat (first | exact Drawn0.refl _ | apply Drawn0.step)⟩
                        · rw [if_neg c10] at H
                          exact absurd H (by simp)
                      · rw [if_neg c9] at H
                        exact absurd H (by simp)
                    · rw [if_neg c8] at H
                      exact absurd H (by simp)
                  · rw [if_neg c7] at H
                    exact absurd H (by simp)
                case rest =>
                  clear HC6
                  try clear c1
                  try clear p1
                  try clear q1
                  try clear hx1
                  try clear c2
                  try clear p2
                  try clear c3
                  try clear c4
                  try clear c4b0
                  try clear c5
                  try clear c5b0
                  try clear c7
                  try clear c7b0
                  try clear c8
                  try clear c8b0
                  try clear c9
                  try clear c9b0
                  try clear c10
                  try clear c10b0
                  try clear c11
                  try clear c11b0
                  try clear c11b1
                  try clear c12
                  try clear c12b0
                  try clear c12b1
                  try clear c13
                  try clear c13b0
                  try clear c14
                  try clear c14b0
                  try clear hx192_0
                  try clear hx193_0
                  try clear hx194_0
                  try clear hx195_0
                  try clear hx196_0
                  try clear hx197_0
                  try clear p192
                  try clear p193
                  try clear p194
                  try clear p195
                  try clear p196
                  try clear p197
                  try clear p2
                  try clear q192
                  try clear q193
                  try clear q194
                  try clear q195
                  try clear q196
                  try clear q197
                  obtain ⟨kq, x46_5, rfl, HA, HJ5, ⟨mc5, rfl⟩⟩ := hcut
                  cases kq with
                  | zero => exact absurd HA.out (by simp [impl_Ranked.j2])
                  | succ kj5 =>
                    have H := HA.out
                    clear HA
                    simp only [impl_Ranked.j2] at H
                    by_cases c15 : x46_5 = true
                    · subst c15
                      have H1 : (some false) = some r := by rw [if_pos rfl] at H; exact H
                      clear H
                      have H := H1
                      clear H1
                      obtain rfl := Option.some.inj H
                      go_wp2
                      go_ret
                      exact ⟨by first | rfl | (simp; done) | (simp [*]; done), by repeat (first | exact Drawn0.refl _ | apply Drawn0.step)⟩
                    · replace c15 := Bool.eq_false_iff.mpr c15
                      subst c15
                      have H1 : (impl_Ranked.l2 kj5 l0 x11_1 x16_2 (l0.length : Int) x11_1 (l0.length : Int) x16_2 (l0.length : Int) 0) = some r := by rw [if_neg (show ¬ (false = true) by decide)] at H; exact H
                      clear H
                      have H := H1
                      clear H1
                      have H' := Aside0.mk H
                      clear H
                      go_wp2
                      go_loopg [49] kj5 (fun kq v49 w' => ∃ (x49_4 : Int), v49 = .int .i64 x49_4 ∧ Aside0 (impl_Ranked.l2 kq l0 x11_1 x16_2 (l0.length : Int) x11_1 (l0.length : Int) x16_2 (l0.length : Int) x49_4 = some r) ∧ Aside0 (kq ≤ kj5) ∧ Drawn0 w w')
                      case atStart => exact ⟨(0), (by first | rfl | (simp; done) | (simp [*]; done)), H', ⟨Nat.le_refl _⟩, by repeat (first | exact Drawn0.refl _ | apply Drawn0.step)⟩
                      case round =>
                        clear H'
                        try clear c1
                        try clear p1
                        try clear q1
                        try clear hx1
                        try clear c2
                        try clear p2
                        try clear c3
                        try clear c4
                        try clear c4b0
                        try clear c5
                        try clear c5b0
                        try clear c7
                        try clear c7b0
                        try clear c8
                        try clear c8b0
                        try clear c9
                        try clear c9b0
                        try clear c10
                        try clear c10b0
                        try clear c11
                        try clear c11b0
                        try clear c11b1
                        try clear c12
                        try clear c12b0
                        try clear c12b1
                        try clear c13
                        try clear c13b0
                        try clear c14
                        try clear c14b0
                        try clear c15
                        try clear hx192_0
                        try clear hx193_0
                        try clear hx194_0
                        try clear hx195_0
                        try clear hx196_0
                        try clear hx197_0
                        try clear p1
                        try clear p192
                        try clear p193
                        try clear p194
                        try clear p195
                        try clear p196
                        try clear p197
                        try clear p2
                        try clear q1
                        try clear q192
                        try clear q193
                        try clear q194
                        try clear q195
                        try clear q196
                        try clear q197
                        obtain ⟨x49_4, rfl, HA, HK4, ⟨m4, rfl⟩⟩ := hrel
                        cases gk with
                        | zero => exact absurd HA.out (by simp [impl_Ranked.l2])
                        | succ k4 =>
                          have H := HA.out
                          clear HA
                          simp only [impl_Ranked.l2] at H
                          by_cases c16 : x49_4 < (l0.length : Int)
                          · rw [if_pos c16] at H
                            have c16b0 : decide (x49_4 < (l0.length : Int)) = true := decide_eq_true c16
                            clear c16
                            by_cases c17 : 0 ≤ x11_1
                            · rw [if_pos c17] at H
                              have c17b0 : decide (0 ≤ x11_1) = true := decide_eq_true c17
                              clear c17
                              by_cases c18 : x11_1 < (l0.length : Int)
                              · rw [if_pos c18] at H
                                have c18b0 : decide (x11_1 < (l0.length : Int)) = true := decide_eq_true c18
                                clear c18
                                by_cases c19 : 0 ≤ x16_2
                                · rw [if_pos c19] at H
                                  have c19b0 : decide (0 ≤ x16_2) = true := decide_eq_true c19
                                  clear c19
                                  by_cases c20 : x16_2 < ((rd_L6 l0 x11_1).length : Int)
                                  · rw [if_pos c20] at H
                                    have c20b0 : decide (x16_2 < ((rd_L6 l0 x11_1).length : Int)) = true := decide_eq_true c20
                                    clear c20
                                    by_cases c21 : (rd (rd_L6 l0 x11_1) x16_2) = 0
                                    · rw [if_pos c21] at H
                                      have c21b0 : ((rd (rd_L6 l0 x11_1) x16_2) == 0) = true := beq_iff_eq.mpr c21
                                      have c21b1 : ((rd (rd_L6 l0 x11_1) x16_2) != 0) = false := bne_eq_false_iff_eq.mpr c21
                                      clear c21
                                      by_cases c22 : x16_2 < (l0.length : Int)
                                      · rw [if_pos c22] at H
                                        have c22b0 : decide (x16_2 < (l0.length : Int)) = true := decide_eq_true c22
                                        clear c22
                                        by_cases c23 : 0 ≤ x49_4
                                        · rw [if_pos c23] at H
                                          have c23b0 : decide (0 ≤ x49_4) = true := decide_eq_true c23
                                          clear c23
                                          by_cases c24 : x49_4 < ((rd_L6 l0 x16_2).length : Int)
                                          · rw [if_pos c24] at H
                                            have c24b0 : decide (x49_4 < ((rd_L6 l0 x16_2).length : Int)) = true := decide_eq_true c24
                                            clear c24
                                            by_cases c25 : (rd (rd_L6 l0 x16_2) x49_4) = 0
                                            · rw [if_pos c25] at H
                                              have c25b0 : ((rd (rd_L6 l0 x16_2) x49_4) == 0) = true := beq_iff_eq.mpr c25
                                              have c25b1 : ((rd (rd_L6 l0 x16_2) x49_4) != 0) = false := bne_eq_false_iff_eq.mpr c25
                                              clear c25
                                              by_cases c26 : x49_4 < ((rd_L6 l0 x11_1).length : Int)
                                              · rw [if_pos c26] at H
                                                have c26b0 : decide (x49_4 < ((rd_L6 l0 x11_1).length : Int)) = true := decide_eq_true c26
                                                clear c26
                                                by_cases c27 : (rd (rd_L6 l0 x11_1) x49_4) = 0
                                                · rw [if_pos c27] at H
                                                  have c27b0 : ((rd (rd_L6 l0 x11_1) x49_4) == 0) = true := beq_iff_eq.mpr c27
                                                  have c27b1 : ((rd (rd_L6 l0 x11_1) x49_4) != 0) = false := bne_eq_false_iff_eq.mpr c27
                                                  clear c27
                                                  have H' := Aside0.mk H
                                                  clear H
                                                  have p198 : 0 ≤ (x11_1 : Int) := of_decide_eq_true (by first | (with_reducible assumption) | assumption)
                                                  have q198 : x11_1 < (l0.length : Int) := of_decide_eq_true (by first | (with_reducible assumption) | assumption)
                                                  obtain ⟨ad198, A198_0, c198_0, e198, hx198_0, hl198_0, hi198_0⟩ := at_L6 HR0.out x11_1 p198 q198
                                                  cases e198
                                                  have HR198_0 := Aside0.mk hi198_0
                                                  have HC198_0 := Aside0.mk hl198_0
                                                  clear hi198_0 hl198_0
                                                  replace p198 := eq_true p198
                                                  replace q198 := eq_true q198
                                                  have p199 : 0 ≤ (x16_2 : Int) := of_decide_eq_true (by first | (with_reducible assumption) | assumption)
                                                  have q199 : x16_2 < ((rd_L6 l0 x11_1).length : Int) := of_decide_eq_true (by first | (with_reducible assumption) | assumption)
                                                  obtain ⟨ad199, e199, hx199_0⟩ := Kd.at_int HR198_0.out x16_2 p199 q199
                                                  cases e199
                                                  replace p199 := eq_true p199
                                                  replace q199 := eq_true q199
                                                  have p200 : 0 ≤ (x16_2 : Int) := of_decide_eq_true (by first | (with_reducible assumption) | assumption)
                                                  have q200 : x16_2 < (l0.length : Int) := of_decide_eq_true (by first | (with_reducible assumption) | assumption)
                                                  obtain ⟨ad200, A200_0, c200_0, e200, hx200_0, hl200_0, hi200_0⟩ := at_L6 HR0.out x16_2 p200 q200
                                                  obtain rfl : ad198 = ad200 := (by injection e200)
                                                  have HR200_0 := Aside0.mk hi200_0
                                                  have HC200_0 := Aside0.mk hl200_0
                                                  clear hi200_0 hl200_0
                                                  replace p200 := eq_true p200
                                                  replace q200 := eq_true q200
                                                  have p201 : 0 ≤ (x49_4 : Int) := of_decide_eq_true (by first | (with_reducible assumption) | assumption)
                                                  have q201 : x49_4 < ((rd_L6 l0 x16_2).length : Int) := of_decide_eq_true (by first | (with_reducible assumption) | assumption)
                                                  obtain ⟨ad201, e201, hx201_0⟩ := Kd.at_int HR200_0.out x49_4 p201 q201
                                                  cases e201
                                                  replace p201 := eq_true p201
                                                  replace q201 := eq_true q201
                                                  have p202 : 0 ≤ (x11_1 : Int) := of_decide_eq_true (by first | (with_reducible assumption) | assumption)
                                                  have q202 : x11_1 < (l0.length : Int) := of_decide_eq_true (by first | (with_reducible assumption) | assumption)
                                                  obtain ⟨ad202, A202_0, c202_0, e202, hx202_0, hl202_0, hi202_0⟩ := at_L6 HR0.out x11_1 p202 q202
                                                  obtain rfl : ad198 = ad202 := (by injection e202)
                                                  have HR202_0 := Aside0.mk hi202_0
                                                  have HC202_0 := Aside0.mk hl202_0
                                                  clear hi202_0 hl202_0
                                                  replace p202 := eq_true p202
                                                  replace q202 := eq_true q202
                                                  have ea_ := Option.some.inj (hx198_0.symm.trans hx202_0)
                                                  injection ea_ with ea_ en_ ec_
                                                  subst ea_
                                                  subst ec_
                                                  clear en_
                                                  have p203 : 0 ≤ (x49_4 : Int) := of_decide_eq_true (by first | (with_reducible assumption) | assumption)
                                                  have q203 : x49_4 < ((rd_L6 l0 x11_1).length : Int) := of_decide_eq_true (by first | (with_reducible assumption) | assumption)
                                                  obtain ⟨ad203, e203, hx203_0⟩ := Kd.at_int HR202_0.out x49_4 p203 q203
                                                  cases e203
                                                  replace p203 := eq_true p203
                                                  replace q203 := eq_true q203
                                                  go_wp2
                                                  go_roundg k4
                                                  case measure => have := HK1.out; have := HK2.out; have := HJ5.out; have := HK4.out; omega
                                                  case rel => exact ⟨(wrap64 (x49_4 + 1)), (by first | rfl | (simp; done) | (simp [*]; done)), H', ⟨by have := HK1.out; have := HK2.out; have := HJ5.out; have := HK4.out; omega⟩, by repeat (first | exact Drawn0.refl _ | apply Drawn0.step)⟩
                                                · rw [if_neg c27] at H
                                                  have c27b0 : ((rd (rd_L6 l0 x11_1) x49_4) == 0) = false := beq_eq_false_iff_ne.mpr c27
                                                  have c27b1 : ((rd (rd_L6 l0 x11_1) x49_4) != 0) = true := bne_iff_ne.mpr c27
                                                  obtain rfl := Option.some.inj H
                                                  have p198 : 0 ≤ (x11_1 : Int) := of_decide_eq_true (by first | (with_reducible assumption) | assumption)
                                                  have q198 : x11_1 < (l0.length : Int) := of_decide_eq_true (by first | (with_reducible assumption) | assumption)
                                                  obtain ⟨ad198, A198_0, c198_0, e198, hx198_0, hl198_0, hi198_0⟩ := at_L6 HR0.out x11_1 p198 q198
                                                  cases e198
                                                  have HR198_0 := Aside0.mk hi198_0
                                                  have HC198_0 := Aside0.mk hl198_0
                                                  clear hi198_0 hl198_0
                                                  replace p198 := eq_true p198
                                                  replace q198 := eq_true q198
                                                  have p199 : 0 ≤ (x16_2 : Int) := of_decide_eq_true (by first | (with_reducible assumption) | assumption)
                                                  have q199 : x16_2 < ((rd_L6 l0 x11_1).length : Int) := of_decide_eq_true (by first | (with_reducible assumption) | assumption)
                                                  obtain ⟨ad199, e199, hx199_0⟩ := Kd.at_int HR198_0.out x16_2 p199 q199
                                                  cases e199
                                                  replace p199 := eq_true p199
                                                  replace q199 := eq_true q199
                                                  have p200 : 0 ≤ (x16_2 : Int) := of_decide_eq_true (by first | (with_reducible assumption) | assumption)
                                                  have q200 : x16_2 < (l0.length : Int) := of_decide_eq_true (by first | (with_reducible assumption) | assumption)
                                                  obtain ⟨ad200, A200_0, c200_0, e200, hx200_0, hl200_0, hi200_0⟩ := at_L6 HR0.out x16_2 p200 q200
                                                  obtain rfl : ad198 = ad200 := (by injection e200)
                                                  have HR200_0 := Aside0.mk hi200_0
                                                  have HC200_0 := Aside0.mk hl200_0
                                                  clear hi200_0 hl200_0
                                                  replace p200 := eq_true p200
                                                  replace q200 := eq_true q200
                                                  have p201 : 0 ≤ (x49_4 : Int) := of_decide_eq_true (by first | (with_reducible assumption) | assumption)
                                                  have q201 : x49_4 < ((rd_L6 l0 x16_2).length : Int) := of_decide_eq_true (by first | (with_reducible assumption) | assumption)
                                                  obtain ⟨ad201, e201, hx201_0⟩ := Kd.at_int HR200_0.out x49_4 p201 q201
                                                  cases e201
                                                  replace p201 := eq_true p201
                                                  replace q201 := eq_true q201
                                                  have p202 : 0 ≤ (x11_1 : Int) := of_decide_eq_true (by first | (with_reducible assumption) | assumption)
                                                  have q202 : x11_1 < (l0.length : Int) := of_decide_eq_true (by first | (with_reducible assumption) | assumption)
                                                  obtain ⟨ad202, A202_0, c202_0, e202, hx202_0, hl202_0, hi202_0⟩ := at_L6 HR0.out x11_1 p202 q202
                                                  obtain rfl : ad198 = ad202 := (by injection e202)
                                                  have HR202_0 := Aside0.mk hi202_0
                                                  have HC202_0 := Aside0.mk hl202_0
                                                  clear hi202_0 hl202_0
                                                  replace p202 := eq_true p202
                                                  replace q202 := eq_true q202
                                                  have ea_ := Option.some.inj (hx198_0.symm.trans hx202_0)
                                                  injection ea_ with ea_ en_ ec_
                                                  subst ea_
                                                  subst ec_
                                                  clear en_
                                                  have p203 : 0 ≤ (x49_4 : Int) := of_decide_eq_true (by first | (with_reducible assumption) | assumption)
                                                  have q203 : x49_4 < ((rd_L6 l0 x11_1).length : Int) := of_decide_eq_true (by first | (with_reducible assumption) | assumption)
                                                  obtain ⟨ad203, e203, hx203_0⟩ := Kd.at_int HR202_0.out x49_4 p203 q203
                                                  cases e203
                                                  replace p203 := eq_true p203
                                                  replace q203 := eq_true q203
                                                  go_wp2
                                                  go_ret
                                                  exact ⟨by first | rfl | (simp; done) | (simp [*]; done), by repeat (first | exact Drawn0.refl _ | apply Drawn0.step)⟩
                                              · rw [if_neg c26] at H
                                                exact absurd H (by simp)
                                            · rw [if_neg c25] at H
                                              have c25b0 : ((rd (rd_L6 l0 x16_2) x49_4) == 0) = false := beq_eq_false_iff_ne.mpr c25
                                              have c25b1 : ((rd (rd_L6 l0 x16_2) x49_4) != 0) = true := bne_iff_ne.mpr c25
                                              have H' := Aside0.mk H
                                              clear H
                                              have p198 : 0 ≤ (x11_1 : Int) := of_decide_eq_true (by first | (with_reducible assumption) | assumption)
                                              have q198 : x11_1 < (l0.length : Int) := of_decide_eq_true (by first | (with_reducible assumption) | assumption)
                                              obtain ⟨ad198, A198_0, c198_0, e198, hx198_0, hl198_0, hi198_0⟩ := at_L6 HR0.out x11_1 p198 q198
                                              cases e198
                                              have HR198_0 := Aside0.mk hi198_0
                                              have HC198_0 := Aside0.mk hl198_0
                                              clear hi198_0 hl198_0
                                              replace p198 := eq_true p198
                                              replace q198 := eq_true q198
                                              have p199 : 0 ≤ (x16_2 : Int) := of_decide_eq_true (by first | (with_reducible assumption) | assumption)
                                              have q199 : x16_2 < ((rd_L6 l0 x11_1).length : Int) := of_decide_eq_true (by first | (with_reducible assumption) | assumption)
                                              obtain ⟨ad199, e199, hx199_0⟩ := Kd.at_int HR198_0.out x16_2 p199 q199
                                              cases e199
                                              replace p199 := eq_true p199
                                              replace q199 := eq_true q199
                                              have p200 : 0 ≤ (x16_2 : Int) := of_decide_eq_true (by first | (with_reducible assumption) | assumption)
                                              have q200 : x16_2 < (l0.length : Int) := of_decide_eq_true (by first | (with_reducible assumption) | assumption)
                                              obtain ⟨ad200, A200_0, c200_0, e200, hx200_0, hl200_0, hi200_0⟩ := at_L6 HR0.out x16_2 p200 q200
                                              obtain rfl : ad198 = ad200 := (by injection e200)
                                              have HR200_0 := Aside0.mk hi200_0
                                              have HC200_0 := Aside0.mk hl200_0
                                              clear hi200_0 hl200_0
                                              replace p200 := eq_true p200
                                              replace q200 := eq_true q200
                                              have p201 : 0 ≤ (x49_4 : Int) := of_decide_eq_true (by first | (with_reducible assumption) | assumption)
                                              have q201 : x49_4 < ((rd_L6 l0 x16_2).length : Int) := of_decide_eq_true (by first | (with_reducible assumption) | assumption)
                                              obtain ⟨ad201, e201, hx201_0⟩ := Kd.at_int HR200_0.out x49_4 p201 q201
                                              cases e201
                                              replace p201 := eq_true p201
                                              replace q201 := eq_true q201
                                              go_wp2
                                              go_roundg k4
                                              case measure => have := HK1.out; have := HK2.out; have := HJ5.out; have := HK4.out; omega
                                              case rel => exact ⟨(wrap64 (x49_4 + 1)), (by first | rfl | (simp; done) | (simp [*]; done)), H', ⟨by have := HK1.out; have := HK2.out; have := HJ5.out; have := HK4.out; omega⟩, by repeat (first | exact Drawn0.refl _ | apply Drawn0.step)⟩
                                          · rw [if_neg c24] at H
                                            exact absurd H (by simp)
                                        · rw [if_neg c23] at H
                                          exact absurd H (by simp)
                                      · rw [if_neg c22] at H
                                        exact absurd H (by simp)
                                    · rw [if_neg c21] at H
                                      have c21b0 : ((rd (rd_L6 l0 x11_1) x16_2) == 0) = false := beq_eq_false_iff_ne.mpr c21
                                      have c21b1 : ((rd (rd_L6 l0 x11_1) x16_2) != 0) = true := bne_iff_ne.mpr c21
                                      have H' := Aside0.mk H
                                      clear H
                                      have p198 : 0 ≤ (x11_1 : Int) := of_decide_eq_true (by first | (with_reducible assumption) | assumption)
                                      have q198 : x11_1 < (l0.length : Int) := of_decide_eq_true (by first | (with_reducible assumption) | assumption)
                                      obtain ⟨ad198, A198_0, c198_0, e198, hx198_0, hl198_0, hi198_0⟩ := at_L6 HR0.out x11_1 p198 q198
                                      cases e198
                                      have HR198_0 := Aside0.mk hi198_0
                                      have HC198_0 := Aside0.mk hl198_0
                                      clear hi198_0 hl198_0
                                      replace p198 := eq_true p198
                                      replace q198 := eq_true q198
                                      have p199 : 0 ≤ (x16_2 : Int) := of_decide_eq_true (by first | (with_reducible assumption) | assumption)
                                      have q199 : x16_2 < ((rd_L6 l0 x11_1).length : Int) := of_decide_eq_true (by first | (with_reducible assumption) | assumption)
                                      obtain ⟨ad199, e199, hx199_0⟩ := Kd.at_int HR198_0.out x16_2 p199 q199
                                      cases e199
                                      replace p199 := eq_true p199
                                      replace q199 := eq_true q199
                                      go_wp2
                                      go_roundg k4
                                      case measure => have := HK1.out; have := HK2.out; have := HJ5.out; have := HK4.out; omega
                                      case rel => exact ⟨(wrap64 (x49_4 + 1)), (by first | rfl | (simp; done) | (simp [*]; done)), H', ⟨by have := HK1.out; have := HK2.out; have := HJ5.out; have := HK4.out; omega⟩, by repeat (first | exact Drawn0.refl _ | apply Drawn0.step)⟩
                                  · rw [if_neg c20] at H
                                    exact absurd H (by simp)
                                · rw [if_neg c19] at H
                                  exact absurd H (by simp)
                              · rw [if_neg c18] at H
                                exact absurd H (by simp)
                            · rw [if_neg c17] at H
                              exact absurd H (by simp)
                          · rw [if_neg c16] at H
                            have c16b0 : decide (x49_4 < (l0.length : Int)) = false := decide_eq_false c16
                            clear c16
                            have H' := Aside0.mk H
                            clear H
                            go_wp2
                            go_roundg k4
                            case measure => have := HK1.out; have := HK2.out; have := HJ5.out; have := HK4.out; omega
                            case rel => exact ⟨(wrap64 (x16_2 + 1)), (by first | rfl | (simp; done) | (simp [*]; done)), H', ⟨by have := HK1.out; have := HK2.out; have := HJ5.out; have := HK4.out; omega⟩, by repeat (first | exact Drawn0.refl _ | apply Drawn0.step)⟩
              · rw [if_neg c5] at H
                have c5b0 : decide (x16_2 < (l0.length : Int)) = false := decide_eq_false c5
                clear c5
                have H' := Aside0.mk H
                clear H
                go_wp2
                go_roundg k2
                case measure => have := HK1.out; have := HK2.out; omega
                case rel => exact ⟨(wrap64 (x11_1 + 1)), (by first | rfl | (simp; done) | (simp [*]; done)), H', ⟨by have := HK1.out; have := HK2.out; omega⟩, by repeat (first | exact Drawn0.refl _ | apply Drawn0.step)⟩
        · rw [if_neg c4] at H
          have c4b0 : decide (x11_1 < (l0.length : Int)) = false := decide_eq_false c4
          clear c4
          obtain rfl := Option.some.inj H
          go_wp2
          go_ret
          exact ⟨by first | rfl | (simp; done) | (simp [*]; done), by repeat (first | exact Drawn0.refl _ | apply Drawn0.step)⟩
  · replace c3 := Bool.eq_false_iff.mpr c3
    subst c3
    have H1 : (some false) = some r := by rw [if_neg (show ¬ (false = true) by decide)] at H; exact H
    clear H
    have H := H1
    clear H1
    obtain rfl := Option.some.inj H
    go_enter Try.func21, Try.ntmps21
    go_wp2_with (first | ((with_reducible refine gate_callee (f := 50) rfl ?_); refine goesL_ (some 7) rfl rfl Try.func50 (by kernel_rfl) rfl #[.slice A0 l0.length c0] rfl (by (try simp only [List.map_toArray, List.map_cons, List.map_nil]); first | done | rfl | (simp only [List.length_drop, List.length_take]; rfl)) ?_; (with_reducible refine (impl_squareOk.calls k _ _ l0 false _ ?side1 ?side2 A2.out).mono ?_); (case side1 => repeat (first | exact HR0.out | (with_reducible refine Kd.C_alloc ?_ _) | (with_reducible refine Kd.C_drewN ?_ _) | (with_reducible refine Kd.C_drew ?_))); (case side2 => exact HC0.out); rintro e w' ⟨rfl, ⟨nd, rfl⟩⟩; refine ⟨_, rfl, ?_⟩))
    go_ret
    exact ⟨by first | rfl | (simp; done) | (simp [*]; done), by repeat (first | exact Drawn0.refl _ | apply Drawn0.step)⟩

end Go.Proofs.Ytkamfnmbidnhdaa.P
