/- Out of the translation, by program (the kit's print program, turned: wip/tools/pp.py). -/
import Derived.Test.YtkamfnmbidnhdaaPf
import Derived.Test.YtkamfnmbidnhdaaPf48
namespace Go.Proofs.Ytkamfnmbidnhdaa.P
open Go.RowKit Go.Proofs.YtkamfnmbidnhdaaW.PrintWords Go.Proofs.YtkamfnmbidnhdaaW.PrintLast Go.Proofs.YtkamfnmbidnhdaaW.PrintMore
attribute [local go_sem] max2_int min2_int max_two min_two max_three min_three max_four min_four   -- for this text's walks alone
set_option linter.unusedVariables false
set_option linter.unusedSimpArgs false

/-! ### spec_Ranked: function 19 -/
mutual
def spec_Ranked.l0 : Nat → List (List Int) → Int → Int → Option (Bool)
  | 0, _, _, _ => none
  | k + 1, x0, x3, x4 => if x4 < x3 then (spec_Ranked.l1 k x0 x3 x4 0) else (some true)
def spec_Ranked.l1 : Nat → List (List Int) → Int → Int → Int → Option (Bool)
  | 0, _, _, _, _ => none
  | k + 1, x0, x3, x4, x5 => if x5 < x3 then (if 0 ≤ x4 then (if x4 < (x0.length : Int) then (if 0 ≤ x5 then (if x5 < ((rd_L6 x0 x4).length : Int) then (if (rd (rd_L6 x0 x4) x5) = 2 then (spec_Ranked.j2 k x0 x3 x4 x5 true) else (if (rd (rd_L6 x0 x4) x5) = 1 then (if x5 < (x0.length : Int) then (if x4 < ((rd_L6 x0 x5).length : Int) then (spec_Ranked.j2 k x0 x3 x4 x5 ((rd (rd_L6 x0 x5) x4) == 1)) else (none)) else (none)) else (spec_Ranked.j2 k x0 x3 x4 x5 false))) else (none)) else (none)) else (none)) else (none)) else (spec_Ranked.l0 k x0 x3 (wrap64 (x4 + 1)))
def spec_Ranked.j2 : Nat → List (List Int) → Int → Int → Int → Bool → Option (Bool)
  | 0, _, _, _, _, _ => none
  | k + 1, x0, x3, x4, x5, x49 => if x49 = true then (some false) else (spec_Ranked.l2 k x0 x3 x4 x5 0)
def spec_Ranked.l2 : Nat → List (List Int) → Int → Int → Int → Int → Option (Bool)
  | 0, _, _, _, _, _ => none
  | k + 1, x0, x3, x4, x5, x6 => if x6 < x3 then (if 0 ≤ x4 then (if x4 < (x0.length : Int) then (if 0 ≤ x5 then (if x5 < ((rd_L6 x0 x4).length : Int) then (spec_Ranked.j4 k x0 x3 x4 x5 x6 ((rd (rd_L6 x0 x4) x5) == 0)) else (none)) else (none)) else (none)) else (none)) else (spec_Ranked.j4 k x0 x3 x4 x5 x6 false)
def spec_Ranked.j4 : Nat → List (List Int) → Int → Int → Int → Int → Bool → Option (Bool)
  | 0, _, _, _, _, _, _ => none
  | k + 1, x0, x3, x4, x5, x6, x62 => if x62 = true then (if 0 ≤ x5 then (if x5 < (x0.length : Int) then (if 0 ≤ x6 then (if x6 < ((rd_L6 x0 x5).length : Int) then (if (rd (rd_L6 x0 x5) x6) = 0 then (if 0 ≤ x4 then (if x4 < (x0.length : Int) then (if x6 < ((rd_L6 x0 x4).length : Int) then (if (rd (rd_L6 x0 x4) x6) = 1 then (some false) else (spec_Ranked.l2 k x0 x3 x4 x5 (wrap64 (x6 + 1)))) else (none)) else (none)) else (none)) else (spec_Ranked.l2 k x0 x3 x4 x5 (wrap64 (x6 + 1)))) else (none)) else (none)) else (none)) else (none)) else (spec_Ranked.l1 k x0 x3 x4 (wrap64 (x5 + 1)))
end
def spec_Ranked.f (k : Nat) (l0 : List (List Int)) : Option (Bool) := (spec_l1square.f k l0).bind fun t163 => (if t163 = true then (spec_Ranked.l0 k l0 (l0.length : Int) 0) else (some false))
theorem spec_Ranked.mono_l : ∀ k, (∀ y0 y1 y2, LeO (spec_Ranked.l0 k y0 y1 y2) (spec_Ranked.l0 (k + 1) y0 y1 y2)) ∧ (∀ y0 y1 y2 y3, LeO (spec_Ranked.l1 k y0 y1 y2 y3) (spec_Ranked.l1 (k + 1) y0 y1 y2 y3)) ∧ (∀ y0 y1 y2 y3 y4, LeO (spec_Ranked.j2 k y0 y1 y2 y3 y4) (spec_Ranked.j2 (k + 1) y0 y1 y2 y3 y4)) ∧ (∀ y0 y1 y2 y3 y4, LeO (spec_Ranked.l2 k y0 y1 y2 y3 y4) (spec_Ranked.l2 (k + 1) y0 y1 y2 y3 y4)) ∧ (∀ y0 y1 y2 y3 y4 y5, LeO (spec_Ranked.j4 k y0 y1 y2 y3 y4 y5) (spec_Ranked.j4 (k + 1) y0 y1 y2 y3 y4 y5))
  | 0 => ⟨fun _ _ _ r h => by simp [spec_Ranked.l0] at h, fun _ _ _ _ r h => by simp [spec_Ranked.l1] at h, fun _ _ _ _ _ r h => by simp [spec_Ranked.j2] at h, fun _ _ _ _ _ r h => by simp [spec_Ranked.l2] at h, fun _ _ _ _ _ _ r h => by simp [spec_Ranked.j4] at h⟩
  | k + 1 => by
    obtain ⟨ih0, ih1, ih2, ih3, ih4⟩ := spec_Ranked.mono_l k
    refine ⟨?_, ?_, ?_, ?_, ?_⟩
    · intro y0 y1 y2
      unfold spec_Ranked.l0
      repeat' first
      | (with_reducible exact ih0 _ _ _)
      | (with_reducible exact ih1 _ _ _ _)
      | (with_reducible exact ih2 _ _ _ _ _)
      | (with_reducible exact ih3 _ _ _ _ _)
      | (with_reducible exact ih4 _ _ _ _ _ _)
      | (with_reducible exact spec_l1square.mono _ _)
      | (with_reducible exact LeO.refl _)
      | (with_reducible exact LeO.none _)
      | (with_reducible refine LeO.ite ?_ ?_)
      | (with_reducible refine LeO.bind ?_ (fun _ => ?_))
      | exact ih0 _ _ _
      | exact ih1 _ _ _ _
      | exact ih2 _ _ _ _ _
      | exact ih3 _ _ _ _ _
      | exact ih4 _ _ _ _ _ _
      | exact spec_l1square.mono _ _
      | exact LeO.none _
      | refine LeO.ite ?_ ?_
      | refine LeO.bind ?_ (fun _ => ?_)
    · intro y0 y1 y2 y3
      unfold spec_Ranked.l1
      repeat' first
      | (with_reducible exact ih0 _ _ _)
      | (with_reducible exact ih1 _ _ _ _)
      | (with_reducible exact ih2 _ _ _ _ _)
      | (with_reducible exact ih3 _ _ _ _ _)
      | (with_reducible exact ih4 _ _ _ _ _ _)
      | (with_reducible exact spec_l1square.mono _ _)
      | (with_reducible exact LeO.refl _)
      | (with_reducible exact LeO.none _)
      | (with_reducible refine LeO.ite ?_ ?_)
      | (with_reducible refine LeO.bind ?_ (fun _ => ?_))
      | exact ih0 _ _ _
      | exact ih1 _ _ _ _
      | exact ih2 _ _ _ _ _
      | exact ih3 _ _ _ _ _
      | exact ih4 _ _ _ _ _ _
      | exact spec_l1square.mono _ _
      | exact LeO.none _
      | refine LeO.ite ?_ ?_
      | refine LeO.bind ?_ (fun _ => ?_)
    · intro y0 y1 y2 y3 y4
      unfold spec_Ranked.j2
      repeat' first
      | (with_reducible exact ih0 _ _ _)
      | (with_reducible exact ih1 _ _ _ _)
      | (with_reducible exact ih2 _ _ _ _ _)
      | (with_reducible exact ih3 _ _ _ _ _)
      | (with_reducible exact ih4 _ _ _ _ _ _)
      | (with_reducible exact spec_l1square.mono _ _)
      | (with_reducible exact LeO.refl _)
      | (with_reducible exact LeO.none _)
      | (with_reducible refine LeO.ite ?_ ?_)
      | (with_reducible refine LeO.bind ?_ (fun _ => ?_))
      | exact ih0 _ _ _
      | exact ih1 _ _ _ _
      | exact ih2 _ _ _ _ _
      | exact ih3 _ _ _ _ _
      | exact ih4 _ _ _ _ _ _
      | exact spec_l1square.mono _ _
      | exact LeO.none _
      | refine LeO.ite ?_ ?_
      | refine LeO.bind ?_ (fun _ => ?_)
    · intro y0 y1 y2 y3 y4
      unfold spec_Ranked.l2
      repeat' first
      | (with_reducible exact ih0 _ _ _)
      | (with_reducible exact ih1 _ _ _ _)
      | (with_reducible exact ih2 _ _ _ _ _)
      | (with_reducible exact ih3 _ _ _ _ _)
      | (with_reducible exact ih4 _ _ _ _ _ _)
      | (with_reducible exact spec_l1square.mono _ _)
      | (with_reducible exact LeO.refl _)
      | (with_reducible exact LeO.none _)
      | (with_reducible refine LeO.ite ?_ ?_)
      | (with_reducible refine LeO.bind ?_ (fun _ => ?_))
      | exact ih0 _ _ _
      | exact ih1 _ _ _ _
      | exact ih2 _ _ _ _ _
      | exact ih3 _ _ _ _ _
      | exact ih4 _ _ _ _ _ _
      | exact spec_l1square.mono _ _
      | exact LeO.none _
      | refine LeO.ite ?_ ?_
      | refine LeO.bind ?_ (fun _ => ?_)
    · intro y0 y1 y2 y3 y4 y5
      unfold spec_Ranked.j4
      repeat' first
      | (with_reducible exact ih0 _ _ _)
      | (with_reducible exact ih1 _ _ _ _)
      | (with_reducible exact ih2 _ _ _ _ _)
      | (with_reducible exact ih3 _ _ _ _ _)
      | (with_reducible exact ih4 _ _ _ _ _ _)
      | (with_reducible exact spec_l1square.mono _ _)
      | (with_reducible exact LeO.refl _)
      | (with_reducible exact LeO.none _)
      | (with_reducible refine LeO.ite ?_ ?_)
      | (with_reducible refine LeO.bind ?_ (fun _ => ?_))
      | exact ih0 _ _ _
      | exact ih1 _ _ _ _
      | exact ih2 _ _ _ _ _
      | exact ih3 _ _ _ _ _
      | exact ih4 _ _ _ _ _ _
      | exact spec_l1square.mono _ _
      | exact LeO.none _
      | refine LeO.ite ?_ ?_
      | refine LeO.bind ?_ (fun _ => ?_)
theorem spec_Ranked.mono : ∀ a0 k, LeO (spec_Ranked.f k a0) (spec_Ranked.f (k + 1) a0) := by
  intro a0 k
  obtain ⟨ih0, ih1, ih2, ih3, ih4⟩ := spec_Ranked.mono_l k
  unfold spec_Ranked.f
  repeat' first
      | (with_reducible exact ih0 _ _ _)
      | (with_reducible exact ih1 _ _ _ _)
      | (with_reducible exact ih2 _ _ _ _ _)
      | (with_reducible exact ih3 _ _ _ _ _)
      | (with_reducible exact ih4 _ _ _ _ _ _)
      | (with_reducible exact spec_l1square.mono _ _)
      | (with_reducible exact LeO.refl _)
      | (with_reducible exact LeO.none _)
      | (with_reducible refine LeO.ite ?_ ?_)
      | (with_reducible refine LeO.bind ?_ (fun _ => ?_))
      | exact ih0 _ _ _
      | exact ih1 _ _ _ _
      | exact ih2 _ _ _ _ _
      | exact ih3 _ _ _ _ _
      | exact ih4 _ _ _ _ _ _
      | exact spec_l1square.mono _ _
      | exact LeO.none _
      | refine LeO.ite ?_ ?_
      | refine LeO.bind ?_ (fun _ => ?_)
set_option maxHeartbeats 8000000 in
set_option maxRecDepth 100000 in
theorem spec_Ranked.calls (k : Nat) (A0 : Option Addr) (c0 : Nat) (l0 : List (List Int)) (r : Bool) (w : World) (hr0 : Kd.C (Kd.slice 3 (Kd.int .i64)) w A0 l0.length l0) (hc0 : l0.length ≤ c0) (h : spec_Ranked.f k l0 = some r) :
    Calls Try.prog 19 #[.slice A0 l0.length c0] w fun e w' => e = .returned (.bool r) ∧ Drawn0 w w' := by
  have HR0 := Aside0.mk hr0
  have HC0 := Aside0.mk hc0
  clear hr0 hc0
  have H : ((spec_l1square.f k l0).bind fun t163 => (if t163 = true then (spec_Ranked.l0 k l0 (l0.length : Int) 0) else (some false))) = some r := h
  clear h
  replace H := Option.bind_eq_some_iff.mp H
  obtain ⟨t163, A20, H⟩ := H
  replace H : (if t163 = true then (spec_Ranked.l0 k l0 (l0.length : Int) 0) else (some false)) = some r := H
  have A2 := Aside0.mk A20
  clear A20
  by_cases c3 : t163 = true
  · subst c3
    have H1 : (spec_Ranked.l0 k l0 (l0.length : Int) 0) = some r := by rw [if_pos rfl] at H; exact H
    clear H
    have H := H1
    clear H1
    have H' := Aside0.mk H
    clear H
    go_enter Try.func19, Try.ntmps19
    go_wp2_with (first | ((with_reducible refine gate_callee (f := 48) rfl ?_); refine goesL_ (some 8) rfl rfl Try.func48 (by kernel_rfl) rfl #[.slice A0 l0.length c0] rfl (by (try simp only [List.map_toArray, List.map_cons, List.map_nil]); first | done | rfl | (simp only [List.length_drop, List.length_take]; rfl)) ?_; (with_reducible refine (spec_l1square.calls k _ _ l0 true _ ?side1 ?side2 A2.out).mono ?_); (case side1 => repeat (first | exact HR0.out | (with_reducible refine Kd.C_alloc ?_ _) | (with_reducible refine Kd.C_drewN ?_ _) | (with_reducible refine Kd.C_drew ?_))); (case side2 => exact HC0.out); rintro e w' ⟨rfl, ⟨nd, rfl⟩⟩; refine ⟨_, rfl, ?_⟩))
    go_loopg [4] k (fun kq v4 w' => ∃ (x4_1 : Int), v4 = .int .i64 x4_1 ∧ Aside0 (spec_Ranked.l0 kq l0 (l0.length : Int) x4_1 = some r) ∧ Aside0 (kq ≤ k) ∧ Drawn0 w w')
    case atStart => exact ⟨(0), (by first | rfl | (simp; done) | (simp [*]; done)), H', ⟨Nat.le_refl _⟩, by repeat (first | exact Drawn0.refl _ | apply Drawn0.step)⟩
    case round =>
      clear H'
      try clear c1
      try clear p2
      try clear c3
      obtain ⟨x4_1, rfl, HA, HK1, ⟨m1, rfl⟩⟩ := hrel
      cases gk with
      | zero => exact absurd HA.out (by simp [spec_Ranked.l0])
      | succ k1 =>
        have H := HA.out
        clear HA
        simp only [spec_Ranked.l0] at H
        by_cases c4 : x4_1 < (l0.length : Int)
        · rw [if_pos c4] at H
          have c4b0 : decide (x4_1 < (l0.length : Int)) = true := decide_eq_true c4
          clear c4
          have H' := Aside0.mk H
          clear H
          go_wp2
          go_loopg [5] k1 (fun kq v5 w' => ∃ (x5_2 : Int), v5 = .int .i64 x5_2 ∧ Aside0 (spec_Ranked.l1 kq l0 (l0.length : Int) x4_1 x5_2 = some r) ∧ Aside0 (kq ≤ k1) ∧ Drawn0 w w')
          case atStart => exact ⟨(0), (by first | rfl | (simp; done) | (simp [*]; done)), H', ⟨Nat.le_refl _⟩, by repeat (first | exact Drawn0.refl _ | apply Drawn0.step)⟩
          case round =>
            clear H'
            try clear c1
            try clear p2
            try clear c3
            try clear c4
            try clear c4b0
            try clear p2
            obtain ⟨x5_2, rfl, HA, HK2, ⟨m2, rfl⟩⟩ := hrel
            cases gk with
            | zero => exact absurd HA.out (by simp [spec_Ranked.l1])
            | succ k2 =>
              have H := HA.out
              clear HA
              simp only [spec_Ranked.l1] at H
              by_cases c5 : x5_2 < (l0.length : Int)
              · rw [if_pos c5] at H
                have c5b0 : decide (x5_2 < (l0.length : Int)) = true := decide_eq_true c5
                clear c5
                have HC6 := Aside0.mk H
                clear H
                go_upto_region 10 with (fail)
                go_cut [49] (fun v49 wc => ∃ (kq : Nat) (x49_5 : Bool), v49 = .bool x49_5 ∧ Aside0 (spec_Ranked.j2 kq l0 (l0.length : Int) x4_1 x5_2 x49_5 = some r) ∧ Aside0 (kq ≤ k2) ∧ Drawn0 w wc)
                case first =>
                  have H := HC6.out
                  clear HC6
                  by_cases c7 : 0 ≤ x4_1
                  · rw [if_pos c7] at H
                    have c7b0 : decide (0 ≤ x4_1) = true := decide_eq_true c7
                    clear c7
                    (first | rw [c7b0] | (simp only [i64_w, i32_w]; rw [c7b0]) | skip)
                    by_cases c8 : x4_1 < (l0.length : Int)
                    · rw [if_pos c8] at H
                      have c8b0 : decide (x4_1 < (l0.length : Int)) = true := decide_eq_true c8
                      clear c8
                      by_cases c9 : 0 ≤ x5_2
                      · rw [if_pos c9] at H
                        have c9b0 : decide (0 ≤ x5_2) = true := decide_eq_true c9
                        clear c9
                        by_cases c10 : x5_2 < ((rd_L6 l0 x4_1).length : Int)
                        · rw [if_pos c10] at H
                          have c10b0 : decide (x5_2 < ((rd_L6 l0 x4_1).length : Int)) = true := decide_eq_true c10
                          clear c10
                          by_cases c11 : (rd (rd_L6 l0 x4_1) x5_2) = 2
                          · rw [if_pos c11] at H
                            have c11b0 : ((rd (rd_L6 l0 x4_1) x5_2) == 2) = true := beq_iff_eq.mpr c11
                            have c11b1 : ((rd (rd_L6 l0 x4_1) x5_2) != 2) = false := bne_eq_false_iff_eq.mpr c11
                            clear c11
                            have H' := Aside0.mk H
                            clear H
                            have p164 : 0 ≤ (x4_1 : Int) := of_decide_eq_true (by first | (with_reducible assumption) | assumption)
                            have q164 : x4_1 < (l0.length : Int) := of_decide_eq_true (by first | (with_reducible assumption) | assumption)
                            obtain ⟨ad164, A164_0, c164_0, e164, hx164_0, hl164_0, hi164_0⟩ := at_L6 HR0.out x4_1 p164 q164
                            cases e164
                            have HR164_0 := Aside0.mk hi164_0
                            have HC164_0 := Aside0.mk hl164_0
                            clear hi164_0 hl164_0
                            replace p164 := eq_true p164
                            replace q164 := eq_true q164
                            have p165 : 0 ≤ (x5_2 : Int) := of_decide_eq_true (by first | (with_reducible assumption) | assumption)
                            have q165 : x5_2 < ((rd_L6 l0 x4_1).length : Int) := of_decide_eq_true (by first | (with_reducible assumption) | assumption)
                            obtain ⟨ad165, e165, hx165_0⟩ := Kd.at_int HR164_0.out x5_2 p165 q165
                            cases e165
                            replace p165 := eq_true p165
                            replace q165 := eq_true q165
                            go_wp2
                            go_meet
                            case rel => exact ⟨_, (true), (by first | rfl | (simp; done) | (simp [*]; done)), H', ⟨by have := HK1.out; have := HK2.out; first | omega | exact Nat.le_refl _⟩, by repeat (first | exact Drawn0.refl _ | apply Drawn0.step)⟩
                          · rw [if_neg c11] at H
                            have c11b0 : ((rd (rd_L6 l0 x4_1) x5_2) == 2) = false := beq_eq_false_iff_ne.mpr c11
                            have c11b1 : ((rd (rd_L6 l0 x4_1) x5_2) != 2) = true := bne_iff_ne.mpr c11
                            by_cases c12 : (rd (rd_L6 l0 x4_1) x5_2) = 1
                            · rw [if_pos c12] at H
                              have c12b0 : ((rd (rd_L6 l0 x4_1) x5_2) == 1) = true := beq_iff_eq.mpr c12
                              have c12b1 : ((rd (rd_L6 l0 x4_1) x5_2) != 1) = false := bne_eq_false_iff_eq.mpr c12
                              clear c12
                              by_cases c13 : x5_2 < (l0.length : Int)
                              · rw [if_pos c13] at H
                                have c13b0 : decide (x5_2 < (l0.length : Int)) = true := decide_eq_true c13
                                clear c13
                                by_cases c14 : x4_1 < ((rd_L6 l0 x5_2).length : Int)
                                · rw [if_pos c14] at H
                                  have c14b0 : decide (x4_1 < ((rd_L6 l0 x5_2).length : Int)) = true := decide_eq_true c14
                                  clear c14
                                  have H' := Aside0.mk H
                                  clear H
                                  have p164 : 0 ≤ (x4_1 : Int) := of_decide_eq_true (by first | (with_reducible assumption) | assumption)
                                  have q164 : x4_1 < (l0.length : Int) := of_decide_eq_true (by first | (with_reducible assumption) | assumption)
                                  obtain ⟨ad164, A164_0, c164_0, e164, hx164_0, hl164_0, hi164_0⟩ := at_L6 HR0.out x4_1 p164 q164
                                  cases e164
                                  have HR164_0 := Aside0.mk hi164_0
                                  have HC164_0 := Aside0.mk hl164_0
                                  clear hi164_0 hl164_0
                                  replace p164 := eq_true p164
                                  replace q164 := eq_true q164
                                  have p165 : 0 ≤ (x5_2 : Int) := of_decide_eq_true (by first | (with_reducible assumption) | assumption)
                                  have q165 : x5_2 < ((rd_L6 l0 x4_1).length : Int) := of_decide_eq_true (by first | (with_reducible assumption) | assumption)
                                  obtain ⟨ad165, e165, hx165_0⟩ := Kd.at_int HR164_0.out x5_2 p165 q165
                                  cases e165
                                  replace p165 := eq_true p165
                                  replace q165 := eq_true q165
                                  have p166 : 0 ≤ (x4_1 : Int) := of_decide_eq_true (by first | (with_reducible assumption) | assumption)
                                  have q166 : x4_1 < (l0.length : Int) := of_decide_eq_true (by first | (with_reducible assumption) | assumption)
                                  obtain ⟨ad166, A166_0, c166_0, e166, hx166_0, hl166_0, hi166_0⟩ := at_L6 HR0.out x4_1 p166 q166
                                  obtain rfl : ad164 = ad166 := (by injection e166)
                                  have HR166_0 := Aside0.mk hi166_0
                                  have HC166_0 := Aside0.mk hl166_0
                                  clear hi166_0 hl166_0
                                  replace p166 := eq_true p166
                                  replace q166 := eq_true q166
                                  have ea_ := Option.some.inj (hx164_0.symm.trans hx166_0)
                                  injection ea_ with ea_ en_ ec_
                                  subst ea_
                                  subst ec_
                                  clear en_
                                  have p167 : 0 ≤ (x5_2 : Int) := of_decide_eq_true (by first | (with_reducible assumption) | assumption)
                                  have q167 : x5_2 < ((rd_L6 l0 x4_1).length : Int) := of_decide_eq_true (by first | (with_reducible assumption) | assumption)
                                  obtain ⟨ad167, e167, hx167_0⟩ := Kd.at_int HR166_0.out x5_2 p167 q167
                                  cases e167
                                  replace p167 := eq_true p167
                                  replace q167 := eq_true q167
                                  have p168 : 0 ≤ (x5_2 : Int) := of_decide_eq_true (by first | (with_reducible assumption) | assumption)
                                  have q168 : x5_2 < (l0.length : Int) := of_decide_eq_true (by first | (with_reducible assumption) | assumption)
                                  obtain ⟨ad168, A168_0, c168_0, e168, hx168_0, hl168_0, hi168_0⟩ := at_L6 HR0.out x5_2 p168 q168
                                  obtain rfl : ad164 = ad168 := (by injection e168)
                                  have HR168_0 := Aside0.mk hi168_0
                                  have HC168_0 := Aside0.mk hl168_0
                                  clear hi168_0 hl168_0
                                  replace p168 := eq_true p168
                                  replace q168 := eq_true q168
                                  have p169 : 0 ≤ (x4_1 : Int) := of_decide_eq_true (by first | (with_reducible assumption) | assumption)
                                  have q169 : x4_1 < ((rd_L6 l0 x5_2).length : Int) := of_decide_eq_true (by first | (with_reducible assumption) | assumption)
                                  obtain ⟨ad169, e169, hx169_0⟩ := Kd.at_int HR168_0.out x4_1 p169 q169
                                  cases e169
                                  replace p169 := eq_true p169
                                  replace q169 := eq_true q169
                                  go_wp2
                                  go_meet
                                  case rel => exact ⟨_, (((rd (rd_L6 l0 x5_2) x4_1) == 1)), (by first | rfl | (simp; done) | (simp [*]; done)), H', ⟨by have := HK1.out; have := HK2.out; first | omega | exact Nat.le_refl _⟩, by repeat (first | exact Drawn0.refl _ | apply Drawn0.step)⟩
                                · rw [if_neg c14] at H
                                  exact absurd H (by simp)
                              · rw [if_neg c13] at H
                                exact absurd H (by simp)
                            · rw [if_neg c12] at H
                              have c12b0 : ((rd (rd_L6 l0 x4_1) x5_2) == 1) = false := beq_eq_false_iff_ne.mpr c12
                              have c12b1 : ((rd (rd_L6 l0 x4_1) x5_2) != 1) = true := bne_iff_ne.mpr c12
                              have H' := Aside0.mk H
                              clear H
                              have p164 : 0 ≤ (x4_1 : Int) := of_decide_eq_true (by first | (with_reducible assumption) | assumption)
                              have q164 : x4_1 < (l0.length : Int) := of_decide_eq_true (by first | (with_reducible assumption) | assumption)
                              obtain ⟨ad164, A164_0, c164_0, e164, hx164_0, hl164_0, hi164_0⟩ := at_L6 HR0.out x4_1 p164 q164
                              cases e164
                              have HR164_0 := Aside0.mk hi164_0
                              have HC164_0 := Aside0.mk hl164_0
                              clear hi164_0 hl164_0
                              replace p164 := eq_true p164
                              replace q164 := eq_true q164
                              have p165 : 0 ≤ (x5_2 : Int) := of_decide_eq_true (by first | (with_reducible assumption) | assumption)
                              have q165 : x5_2 < ((rd_L6 l0 x4_1).length : Int) := of_decide_eq_true (by first | (with_reducible assumption) | assumption)
                              obtain ⟨ad165, e165, hx165_0⟩ := Kd.at_int HR164_0.out x5_2 p165 q165
                              cases e165
                              replace p165 := eq_true p165
                              replace q165 := eq_true q165
                              have p166 : 0 ≤ (x4_1 : Int) := of_decide_eq_true (by first | (with_reducible assumption) | assumption)
                              have q166 : x4_1 < (l0.length : Int) := of_decide_eq_true (by first | (with_reducible assumption) | assumption)
                              obtain ⟨ad166, A166_0, c166_0, e166, hx166_0, hl166_0, hi166_0⟩ := at_L6 HR0.out x4_1 p166 q166
                              obtain rfl : ad164 = ad166 := (by injection e166)
                              have HR166_0 := Aside0.mk hi166_0
                              have HC166_0 := Aside0.mk hl166_0
                              clear hi166_0 hl166_0
                              replace p166 := eq_true p166
                              replace q166 := eq_true q166
                              have ea_ := Option.some.inj (hx164_0.symm.trans hx166_0)
                              injection ea_ with ea_ en_ ec_
                              subst ea_
                              subst ec_
                              clear en_
                              have p167 : 0 ≤ (x5_2 : Int) := of_decide_eq_true (by first | (with_reducible assumption) | assumption)
                              have q167 : x5_2 < ((rd_L6 l0 x4_1).length : Int) := of_decide_eq_true (by first | (with_reducible assumption) | assumption)
                              obtain ⟨ad167, e167, hx167_0⟩ := Kd.at_int HR166_0.out x5_2 p167 q167
                              cases e167
                              replace p167 := eq_true p167
                              replace q167 := eq_true q167
                              go_wp2
                              go_meet
                              case rel => exact ⟨_, (false), (by first | rfl | (simp; done) | (simp [*]; done)), H', ⟨by have := HK1.out; have := HK2.out; first | omega | exact Nat.le_refl _⟩, by repeat (first | exact Drawn0.refl _ | apply Drawn0.step)⟩
                        · rw [if_neg c10] at H
                          exact absurd H (by simp)
                      · rw [if_neg c9] at H
                        exact absurd H (by simp)
                    · rw [if_neg c8] at H
                      exact absurd H (by simp)
                  · rw [if_neg c7] at H
                    exact absurd H (by simp)
                case rest =>
                  clear HC6
                  try clear c1
                  try clear p1
                  try clear q1
                  try clear hx1
                  try clear p2
                  try clear c3
                  try clear c4
                  try clear c4b0
                  try clear c5
                  try clear c5b0
                  try clear c7
                  try clear c7b0
                  try clear c8
                  try clear c8b0
                  try clear c9
                  try clear c9b0
                  try clear c10
                  try clear c10b0
                  try clear c11
                  try clear c11b0
                  try clear c11b1
                  try clear c12
                  try clear c12b0
                  try clear c12b1
                  try clear c13
                  try clear c13b0
                  try clear c14
                  try clear c14b0
                  try clear hx164_0
                  try clear hx165_0
                  try clear hx166_0
                  try clear hx167_0
                  try clear hx168_0
                  try clear hx169_0
                  try clear p164
                  try clear p165
                  try clear p166
                  try clear p167
                  try clear p168
                  try clear p169
                  try clear p2
                  try clear q164
                  try clear q165
                  try clear q166
                  try clear q167
                  try clear q168
                  try clear q169
                  obtain ⟨kq, x49_5, rfl, HA, HJ5, ⟨mc5, rfl⟩⟩ := hcut
                  cases kq with
                  | zero => exact absurd HA.out (by simp [spec_Ranked.j2])
                  | succ kj5 =>
                    have H := HA.out
                    clear HA
                    simp only [spec_Ranked.j2] at H
                    by_cases c15 : x49_5 = true
                    · subst c15
                      have H1 : (some false) = some r := by rw [if_pos rfl] at H; exact H
                      clear H
                      have H := H1
                      clear H1
                      obtain rfl := Option.some.inj H
                      go_wp2
                      go_ret
                      exact ⟨by first | rfl | (simp; done) | (simp [*]; done), by repeat (first | exact Drawn0.refl _ | apply Drawn0.step)⟩
                    · replace c15 := Bool.eq_false_iff.mpr c15
                      subst c15
                      have H1 : (spec_Ranked.l2 kj5 l0 (l0.length : Int) x4_1 x5_2 0) = some r := by rw [if_neg (show ¬ (false = true) by decide)] at H; exact H
                      clear H
                      have H := H1
                      clear H1
                      have H' := Aside0.mk H
                      clear H
                      go_wp2
                      go_loopg [6] kj5 (fun kq v6 w' => ∃ (x6_4 : Int), v6 = .int .i64 x6_4 ∧ Aside0 (spec_Ranked.l2 kq l0 (l0.length : Int) x4_1 x5_2 x6_4 = some r) ∧ Aside0 (kq ≤ kj5) ∧ Drawn0 w w')
                      case atStart => exact ⟨(0), (by first | rfl | (simp; done) | (simp [*]; done)), H', ⟨Nat.le_refl _⟩, by repeat (first | exact Drawn0.refl _ | apply Drawn0.step)⟩
                      case round =>
                        clear H'
                        try clear c1
                        try clear p1
                        try clear q1
                        try clear hx1
                        try clear p2
                        try clear c3
                        try clear c4
                        try clear c4b0
                        try clear c5
                        try clear c5b0
                        try clear c7
                        try clear c7b0
                        try clear c8
                        try clear c8b0
                        try clear c9
                        try clear c9b0
                        try clear c10
                        try clear c10b0
                        try clear c11
                        try clear c11b0
                        try clear c11b1
                        try clear c12
                        try clear c12b0
                        try clear c12b1
                        try clear c13
                        try clear c13b0
                        try clear c14
                        try clear c14b0
                        try clear c15
                        try clear hx164_0
                        try clear hx165_0
                        try clear hx166_0
                        try clear hx167_0
                        try clear hx168_0
                        try clear hx169_0
                        try clear p1
                        try clear p164
                        try clear p165
                        try clear p166
                        try clear p167
                        try clear p168
                        try clear p169
                        try clear p2
                        try clear q1
                        try clear q164
                        try clear q165
                        try clear q166
                        try clear q167
                        try clear q168
                        try clear q169
                        obtain ⟨x6_4, rfl, HA, HK4, ⟨m4, rfl⟩⟩ := hrel
                        cases gk with
                        | zero => exact absurd HA.out (by simp [spec_Ranked.l2])
                        | succ k4 =>
                          have H := HA.out
                          clear HA
                          simp only [spec_Ranked.l2] at H
                          have HC16 := Aside0.mk H
                          clear H
                          go_upto_region 13 with (fail)
                          go_cut [62] (fun v62 wc => ∃ (kq : Nat) (x62_15 : Bool), v62 = .bool x62_15 ∧ Aside0 (spec_Ranked.j4 kq l0 (l0.length : Int) x4_1 x5_2 x6_4 x62_15 = some r) ∧ Aside0 (kq ≤ k4) ∧ Drawn0 w wc)
                          case first =>
                            have H := HC16.out
                            clear HC16
                            by_cases c17 : x6_4 < (l0.length : Int)
                            · rw [if_pos c17] at H
                              have c17b0 : decide (x6_4 < (l0.length : Int)) = true := decide_eq_true c17
                              clear c17
                              (first | rw [c17b0] | (simp only [i64_w, i32_w]; rw [c17b0]) | skip)
                              by_cases c18 : 0 ≤ x4_1
                              · rw [if_pos c18] at H
                                have c18b0 : decide (0 ≤ x4_1) = true := decide_eq_true c18
                                clear c18
                                by_cases c19 : x4_1 < (l0.length : Int)
                                · rw [if_pos c19] at H
                                  have c19b0 : decide (x4_1 < (l0.length : Int)) = true := decide_eq_true c19
                                  clear c19
                                  by_cases c20 : 0 ≤ x5_2
                                  · rw [if_pos c20] at H
                                    have c20b0 : decide (0 ≤ x5_2) = true := decide_eq_true c20
                                    clear c20
                                    by_cases c21 : x5_2 < ((rd_L6 l0 x4_1).length : Int)
                                    · rw [if_pos c21] at H
                                      have c21b0 : decide (x5_2 < ((rd_L6 l0 x4_1).length : Int)) = true := decide_eq_true c21
                                      clear c21
                                      have H' := Aside0.mk H
                                      clear H
                                      have p170 : 0 ≤ (x4_1 : Int) := of_decide_eq_true (by first | (with_reducible assumption) | assumption)
                                      have q170 : x4_1 < (l0.length : Int) := of_decide_eq_true (by first | (with_reducible assumption) | assumption)
                                      obtain ⟨ad170, A170_0, c170_0, e170, hx170_0, hl170_0, hi170_0⟩ := at_L6 HR0.out x4_1 p170 q170
                                      cases e170
                                      have HR170_0 := Aside0.mk hi170_0
                                      have HC170_0 := Aside0.mk hl170_0
                                      clear hi170_0 hl170_0
                                      replace p170 := eq_true p170
                                      replace q170 := eq_true q170
                                      have p171 : 0 ≤ (x5_2 : Int) := of_decide_eq_true (by first | (with_reducible assumption) | assumption)
                                      have q171 : x5_2 < ((rd_L6 l0 x4_1).length : Int) := of_decide_eq_true (by first | (with_reducible assumption) | assumption)
                                      obtain ⟨ad171, e171, hx171_0⟩ := Kd.at_int HR170_0.out x5_2 p171 q171
                                      cases e171
                                      replace p171 := eq_true p171
                                      replace q171 := eq_true q171
                                      go_wp2
                                      go_meet
                                      case rel => exact ⟨_, (((rd (rd_L6 l0 x4_1) x5_2) == 0)), (by first | rfl | (simp; done) | (simp [*]; done)), H', ⟨by have := HK1.out; have := HK2.out; have := HJ5.out; have := HK4.out; first | omega | exact Nat.le_refl _⟩, by repeat (first | exact Drawn0.refl _ | apply Drawn0.step)⟩
                                    · rw [if_neg c21] at H
                                      exact absurd H (by simp)
                                  · rw [if_neg c20] at H
                                    exact absurd H (by simp)
                                · rw [if_neg c19] at H
                                  exact absurd H (by simp)
                              · rw [if_neg c18] at H
                                exact absurd H (by simp)
                            · rw [if_neg c17] at H
                              have c17b0 : decide (x6_4 < (l0.length : Int)) = false := decide_eq_false c17
                              clear c17
                              (first | rw [c17b0] | (simp only [i64_w, i32_w]; rw [c17b0]) | skip)
                              have H' := Aside0.mk H
                              clear H
                              go_wp2
                              go_meet
                              case rel => exact ⟨_, (false), (by first | rfl | (simp; done) | (simp [*]; done)), H', ⟨by have := HK1.out; have := HK2.out; have := HJ5.out; have := HK4.out; first | omega | exact Nat.le_refl _⟩, by repeat (first | exact Drawn0.refl _ | apply Drawn0.step)⟩
                          case rest =>
                            clear HC16
                            try clear c1
                            try clear p1
                            try clear q1
                            try clear hx1
                            try clear c2
                            try clear p2
                            try clear c3
                            try clear c4
                            try clear c4b0
                            try clear c5
                            try clear c5b0
                            try clear c7
                            try clear c7b0
                            try clear c8
                            try clear c8b0
                            try clear c9
                            try clear c9b0
                            try clear c10
                            try clear c10b0
                            try clear c11
                            try clear c11b0
                            try clear c11b1
                            try clear c12
                            try clear c12b0
                            try clear c12b1
                            try clear c13
                            try clear c13b0
                            try clear c14
                            try clear c14b0
                            try clear c15
                            try clear c16
                            try clear p16
                            try clear q16
                            try clear hx16
                            try clear c17
                            try clear c17b0
                            try clear p17
                            try clear q17
                            try clear hx17
                            try clear c18
                            try clear c18b0
                            try clear c19
                            try clear c19b0
                            try clear c20
                            try clear c20b0
                            try clear c21
                            try clear c21b0
                            try clear hx164_0
                            try clear hx165_0
                            try clear hx166_0
                            try clear hx167_0
                            try clear hx168_0
                            try clear hx169_0
                            try clear hx170_0
                            try clear hx171_0
                            try clear p1
                            try clear p164
                            try clear p165
                            try clear p166
                            try clear p167
                            try clear p168
                            try clear p169
                            try clear p170
                            try clear p171
                            try clear p2
                            try clear q1
                            try clear q164
                            try clear q165
                            try clear q166
                            try clear q167
                            try clear q168
                            try clear q169
                            try clear q170
                            try clear q171
                            obtain ⟨kq, x62_15, rfl, HA, HJ15, ⟨mc15, rfl⟩⟩ := hcut
                            cases kq with
                            | zero => exact absurd HA.out (by simp [spec_Ranked.j4])
                            | succ kj15 =>
                              have H := HA.out
                              clear HA
                              simp only [spec_Ranked.j4] at H
                              by_cases c22 : x62_15 = true
                              · subst c22
                                have H1 : (if 0 ≤ x5_2 then (if x5_2 < (l0.length : Int) then (if 0 ≤ x6_4 then (if x6_4 < ((rd_L6 l0 x5_2).length : Int) then (if (rd (rd_L6 l0 x5_2) x6_4) = 0 then (if 0 ≤ x4_1 then (if x4_1 < (l0.length : Int) then (if x6_4 < ((rd_L6 l0 x4_1).length : Int) then (if (rd (rd_L6 l0 x4_1) x6_4) = 1 then (some false) else (spec_Ranked.l2 kj15 l0 (l0.length : Int) x4_1 x5_2 (wrap64 (x6_4 + 1)))) else (none)) else (none)) else (none)) else (spec_Ranked.l2 kj15 l0 (l0.length : Int) x4_1 x5_2 (wrap64 (x6_4 + 1)))) else (none)) else (none)) else (none)) else (none)) = some r := by rw [if_pos rfl] at H; exact H
                                clear H
                                have H := H1
                                clear H1
                                by_cases c23 : 0 ≤ x5_2
                                · rw [if_pos c23] at H
                                  have c23b0 : decide (0 ≤ x5_2) = true := decide_eq_true c23
                                  clear c23
                                  by_cases c24 : x5_2 < (l0.length : Int)
                                  · rw [if_pos c24] at H
                                    have c24b0 : decide (x5_2 < (l0.length : Int)) = true := decide_eq_true c24
                                    clear c24
                                    by_cases c25 : 0 ≤ x6_4
                                    · rw [if_pos c25] at H
                                      have c25b0 : decide (0 ≤ x6_4) = true := decide_eq_true c25
                                      clear c25
                                      by_cases c26 : x6_4 < ((rd_L6 l0 x5_2).length : Int)
                                      · rw [if_pos c26] at H
                                        have c26b0 : decide (x6_4 < ((rd_L6 l0 x5_2).length : Int)) = true := decide_eq_true c26
                                        clear c26
                                        by_cases c27 : (rd (rd_L6 l0 x5_2) x6_4) = 0
                                        · rw [if_pos c27] at H
                                          have c27b0 : ((rd (rd_L6 l0 x5_2) x6_4) == 0) = true := beq_iff_eq.mpr c27
                                          have c27b1 : ((rd (rd_L6 l0 x5_2) x6_4) != 0) = false := bne_eq_false_iff_eq.mpr c27
                                          clear c27
                                          by_cases c28 : 0 ≤ x4_1
                                          · rw [if_pos c28] at H
                                            have c28b0 : decide (0 ≤ x4_1) = true := decide_eq_true c28
                                            clear c28
                                            by_cases c29 : x4_1 < (l0.length : Int)
                                            · rw [if_pos c29] at H
                                              have c29b0 : decide (x4_1 < (l0.length : Int)) = true := decide_eq_true c29
                                              clear c29
                                              by_cases c30 : x6_4 < ((rd_L6 l0 x4_1).length : Int)
                                              · rw [if_pos c30] at H
                                                have c30b0 : decide (x6_4 < ((rd_L6 l0 x4_1).length : Int)) = true := decide_eq_true c30
                                                clear c30
                                                by_cases c31 : (rd (rd_L6 l0 x4_1) x6_4) = 1
                                                · rw [if_pos c31] at H
                                                  have c31b0 : ((rd (rd_L6 l0 x4_1) x6_4) == 1) = true := beq_iff_eq.mpr c31
                                                  have c31b1 : ((rd (rd_L6 l0 x4_1) x6_4) != 1) = false := bne_eq_false_iff_eq.mpr c31
                                                  clear c31
                                                  obtain rfl := Option.some.inj H
                                                  have p172 : 0 ≤ (x5_2 : Int) := of_decide_eq_true (by first | (with_reducible assumption) | assumption)
                                                  have q172 : x5_2 < (l0.length : Int) := of_decide_eq_true (by first | (with_reducible assumption) | assumption)
                                                  obtain ⟨ad172, A172_0, c172_0, e172, hx172_0, hl172_0, hi172_0⟩ := at_L6 HR0.out x5_2 p172 q172
                                                  cases e172
                                                  have HR172_0 := Aside0.mk hi172_0
                                                  have HC172_0 := Aside0.mk hl172_0
                                                  clear hi172_0 hl172_0
                                                  replace p172 := eq_true p172
                                                  replace q172 := eq_true q172
                                                  have p173 : 0 ≤ (x6_4 : Int) := of_decide_eq_true (by first | (with_reducible assumption) | assumption)
                                                  have q173 : x6_4 < ((rd_L6 l0 x5_2).length : Int) := of_decide_eq_true (by first | (with_reducible assumption) | assumption)
                                                  obtain ⟨ad173, e173, hx173_0⟩ := Kd.at_int HR172_0.out x6_4 p173 q173
                                                  cases e173
                                                  replace p173 := eq_true p173
                                                  replace q173 := eq_true q173
                                                  have p174 : 0 ≤ (x4_1 : Int) := of_decide_eq_true (by first | (with_reducible assumption) | assumption)
                                                  have q174 : x4_1 < (l0.length : Int) := of_decide_eq_true (by first | (with_reducible assumption) | assumption)
                                                  obtain ⟨ad174, A174_0, c174_0, e174, hx174_0, hl174_0, hi174_0⟩ := at_L6 HR0.out x4_1 p174 q174
                                                  obtain rfl : ad172 = ad174 := (by injection e174)
                                                  have HR174_0 := Aside0.mk hi174_0
                                                  have HC174_0 := Aside0.mk hl174_0
                                                  clear hi174_0 hl174_0
                                                  replace p174 := eq_true p174
                                                  replace q174 := eq_true q174
                                                  have p175 : 0 ≤ (x6_4 : Int) := of_decide_eq_true (by first | (with_reducible assumption) | assumption)
                                                  have q175 : x6_4 < ((rd_L6 l0 x4_1).length : Int) := of_decide_eq_true (by first | (with_reducible assumption) | assumption)
                                                  obtain ⟨ad175, e175, hx175_0⟩ := Kd.at_int HR174_0.out x6_4 p175 q175
                                                  cases e175
                                                  replace p175 := eq_true p175
                                                  replace q175 := eq_true q175
                                                  go_wp2
                                                  go_ret
                                                  exact ⟨by first | rfl | (simp; done) | (simp [*]; done), by repeat (first | exact Drawn0.refl _ | apply Drawn0.step)⟩
                                                · rw [if_neg c31] at H
                                                  have c31b0 : ((rd (rd_L6 l0 x4_1) x6_4) == 1) = false := beq_eq_false_iff_ne.mpr c31
                                                  have c31b1 : ((rd (rd_L6 l0 x4_1) x6_4) != 1) = true := bne_iff_ne.mpr c31
                                                  have H' := Aside0.mk H
                                                  clear H
                                                  have p172 : 0 ≤ (x5_2 : Int) := of_decide_eq_true (by first | (with_reducible assumption) | assumption)
                                                  have q172 : x5_2 < (l0.length : Int) := of_decide_eq_true (by first | (with_reducible assumption) | assumption)
                                                  obtain ⟨ad172, A172_0, c172_0, e172, hx172_0, hl172_0, hi172_0⟩ := at_L6 HR0.out x5_2 p172 q172
                                                  cases e172
                                                  have HR172_0 := Aside0.mk hi172_0
                                                  have HC172_0 := Aside0.mk hl172_0
                                                  clear hi172_0 hl172_0
                                                  replace p172 := eq_true p172
                                                  replace q172 := eq_true q172
                                                  have p173 : 0 ≤ (x6_4 : Int) := of_decide_eq_true (by first | (with_reducible assumption) | assumption)
                                                  have q173 : x6_4 < ((rd_L6 l0 x5_2).length : Int) := of_decide_eq_true (by first | (with_reducible assumption) | assumption)
                                                  obtain ⟨ad173, e173, hx173_0⟩ := Kd.at_int HR172_0.out x6_4 p173 q173
                                                  cases e173
                                                  replace p173 := eq_true p173
                                                  replace q173 := eq_true q173
                                                  have p174 : 0 ≤ (x4_1 : Int) := of_decide_eq_true (by first | (with_reducible assumption) | assumption)
                                                  have q174 : x4_1 < (l0.length : Int) := of_decide_eq_true (by first | (with_reducible assumption) | assumption)
                                                  obtain ⟨ad174, A174_0, c174_0, e174, hx174_0, hl174_0, hi174_0⟩ := at_L6 HR0.out x4_1 p174 q174
                                                  obtain rfl : ad172 = ad174 := (by injection e174)
                                                  have HR174_0 := Aside0.mk hi174_0
                                                  have HC174_0 := Aside0.mk hl174_0
                                                  clear hi174_0 hl174_0
                                                  replace p174 := eq_true p174
                                                  replace q174 := eq_true q174
                                                  have p175 : 0 ≤ (x6_4 : Int) := of_decide_eq_true (by first | (with_reducible assumption) | assumption)
                                                  have q175 : x6_4 < ((rd_L6 l0 x4_1).length : Int) := of_decide_eq_true (by first | (with_reducible assumption) | assumption)
                                                  obtain ⟨ad175, e175, hx175_0⟩ := Kd.at_int HR174_0.out x6_4 p175 q175
                                                  cases e175
                                                  replace p175 := eq_true p175
                                                  replace q175 := eq_true q175
                                                  go_wp2
                                                  go_roundg kj15
                                                  case measure => have := HK1.out; have := HK2.out; have := HJ5.out; have := HK4.out; have := HJ15.out; omega
                                                  case rel => exact ⟨(wrap64 (x6_4 + 1)), (by first | rfl | (simp; done) | (simp [*]; done)), H', ⟨by have := HK1.out; have := HK2.out; have := HJ5.out; have := HK4.out; have := HJ15.out; omega⟩, by repeat (first | exact Drawn0.refl _ | apply Drawn0.step)⟩
                                              · rw [if_neg c30] at H
                                                exact absurd H (by simp)
                                            · rw [if_neg c29] at H
                                              exact absurd H (by simp)
                                          · rw [if_neg c28] at H
                                            exact absurd H (by simp)
                                        · rw [if_neg c27] at H
                                          have c27b0 : ((rd (rd_L6 l0 x5_2) x6_4) == 0) = false := beq_eq_false_iff_ne.mpr c27
                                          have c27b1 : ((rd (rd_L6 l0 x5_2) x6_4) != 0) = true := bne_iff_ne.mpr c27
                                          have H' := Aside0.mk H
                                          clear H
                                          have p172 : 0 ≤ (x5_2 : Int) := of_decide_eq_true (by first | (with_reducible assumption) | assumption)
                                          have q172 : x5_2 < (l0.length : Int) := of_decide_eq_true (by first | (with_reducible assumption) | assumption)
                                          obtain ⟨ad172, A172_0, c172_0, e172, hx172_0, hl172_0, hi172_0⟩ := at_L6 HR0.out x5_2 p172 q172
                                          cases e172
                                          have HR172_0 := Aside0.mk hi172_0
                                          have HC172_0 := Aside0.mk hl172_0
                                          clear hi172_0 hl172_0
                                          replace p172 := eq_true p172
                                          replace q172 := eq_true q172
                                          have p173 : 0 ≤ (x6_4 : Int) := of_decide_eq_true (by first | (with_reducible assumption) | assumption)
                                          have q173 : x6_4 < ((rd_L6 l0 x5_2).length : Int) := of_decide_eq_true (by first | (with_reducible assumption) | assumption)
                                          obtain ⟨ad173, e173, hx173_0⟩ := Kd.at_int HR172_0.out x6_4 p173 q173
                                          cases e173
                                          replace p173 := eq_true p173
                                          replace q173 := eq_true q173
                                          go_wp2
                                          go_roundg kj15
                                          case measure => have := HK1.out; have := HK2.out; have := HJ5.out; have := HK4.out; have := HJ15.out; omega
                                          case rel => exact ⟨(wrap64 (x6_4 + 1)), (by first | rfl | (simp; done) | (simp [*]; done)), H', ⟨by have := HK1.out; have := HK2.out; have := HJ5.out; have := HK4.out; have := HJ15.out; omega⟩, by repeat (first | exact Drawn0.refl _ | apply Drawn0.step)⟩
                                      · rw [if_neg c26] at H
                                        exact absurd H (by simp)
                                    · rw [if_neg c25] at H
                                      exact absurd H (by simp)
                                  · rw [if_neg c24] at H
                                    exact absurd H (by simp)
                                · rw [if_neg c23] at H
                                  exact absurd H (by simp)
                              · replace c22 := Bool.eq_false_iff.mpr c22
                                subst c22
                                have H1 : (spec_Ranked.l1 kj15 l0 (l0.length : Int) x4_1 (wrap64 (x5_2 + 1))) = some r := by rw [if_neg (show ¬ (false = true) by decide)] at H; exact H
                                clear H
                                have H := H1
                                clear H1
                                have H' := Aside0.mk H
                                clear H
                                go_wp2
                                go_roundg kj15
                                case measure => have := HK1.out; have := HK2.out; have := HJ5.out; have := HK4.out; have := HJ15.out; omega
                                case rel => exact ⟨(wrap64 (x5_2 + 1)), (by first | rfl | (simp; done) | (simp [*]; done)), H', ⟨by have := HK1.out; have := HK2.out; have := HJ5.out; have := HK4.out; have := HJ15.out; omega⟩, by repeat (first | exact Drawn0.refl _ | apply Drawn0.step)⟩
              · rw [if_neg c5] at H
                have c5b0 : decide (x5_2 < (l0.length : Int)) = false := decide_eq_false c5
                clear c5
                have H' := Aside0.mk H
                clear H
                go_wp2
                go_roundg k2
                case measure => have := HK1.out; have := HK2.out; omega
                case rel => exact ⟨(wrap64 (x4_1 + 1)), (by first | rfl | (simp; done) | (simp [*]; done)), H', ⟨by have := HK1.out; have := HK2.out; omega⟩, by repeat (first | exact Drawn0.refl _ | apply Drawn0.step)⟩
        · rw [if_neg c4] at H
          have c4b0 : decide (x4_1 < (l0.length : Int)) = false := decide_eq_false c4
          clear c4
          obtain rfl := Option.some.inj H
          go_wp2
          go_ret
          exact ⟨by first | rfl | (simp; done) | (simp [*]; done), by repeat (first | exact Drawn0.refl _ | apply Drawn0.step)⟩
  · replace c3 := Bool.eq_false_iff.mpr c3
    subst c3
    have H1 : (some false) = some r := by rw [if_neg (show ¬ (false = true) by decide)] at H; exact H
    clear H
    have H := H1
    clear H1
    obtain rfl := Option.some.inj H
    go_enter Try.func19, Try.ntmps19
    go_wp2_with (first | ((with_reducible refine gate_callee (f := 48) rfl ?_); refine goesL_ (some 8) rfl rfl Try.func48 (by kernel_rfl) rfl #[.slice A0 l0.length c0] rfl (by (try simp only [List.map_toArray, List.map_cons, List.map_nil]); first | done | rfl | (simp only [List.length_drop, List.length_take]; rfl)) ?_; (with_reducible refine (spec_l1square.calls k _ _ l0 false _ ?side1 ?side2 A2.out).mono ?_); (case side1 => repeat (first | exact HR0.out | (with_reducible refine Kd.C_alloc ?_ _) | (with_reducible refine Kd.C_drewN ?_ _) | (with_reducible refine Kd.C_drew ?_))); (case side2 => exact HC0.out); rintro e w' ⟨rfl, ⟨nd, rfl⟩⟩; refine ⟨_, rfl, ?_⟩))
    go_ret
    exact ⟨by first | rfl | (simp; done) | (simp [*]; done), by repeat (first | exact Drawn0.refl _ | apply Drawn0.step)⟩

end Go.Proofs.Ytkamfnmbidnhdaa.P
