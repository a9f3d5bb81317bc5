/- Out of the translation, by program (the kit's print program, turned: wip/tools/pp.py). -/
import Derived.Test.YtkamfnmbidnhdaaPf
import Derived.Test.YtkamfnmbidnhdaaPfq1
import Derived.Test.YtkamfnmbidnhdaaPf56
import Derived.Test.YtkamfnmbidnhdaaPf43
namespace Go.Proofs.Ytkamfnmbidnhdaa.P
open Go.RowKit Go.Proofs.YtkamfnmbidnhdaaW.PrintWords Go.Proofs.YtkamfnmbidnhdaaW.PrintLast Go.Proofs.YtkamfnmbidnhdaaW.PrintMore
attribute [local go_sem] max2_int min2_int max_two min_two max_three min_three max_four min_four   -- for this text's walks alone
set_option linter.unusedVariables false
set_option linter.unusedSimpArgs false

attribute [local go_sem high] eqA29
/-! ### spec_GraphOk: function 25 -/
mutual
def spec_GraphOk.j0 : Nat → Bool → Int → Int → ByteArray → Int → List (S80) → Option (Bool)
  | 0, _, _, _, _, _, _ => none
  | k + 1, x18, x121000, x121001, x121002, x121003, x121004 => if x18 = true then (some false) else (spec_GraphOk.l0 k x121004 (x121004.length : Int) 0 x121000 x121001 x121002 x121003 x121004)
def spec_GraphOk.l0 : Nat → List (S80) → Int → Int → Int → Int → ByteArray → Int → List (S80) → Option (Bool)
  | 0, _, _, _, _, _, _, _, _ => none
  | k + 1, x20, x21, x22, x121000, x121001, x121002, x121003, x121004 => if x22 < x21 then (if 0 ≤ x22 then (if x22 < (x20.length : Int) then (if (((rd_T80 x20 x22).f0).length : Int) > 100 then (some false) else (spec_GraphOk.l1 k x20 x21 x22 ((rd_T80 x20 x22).f0) (((rd_T80 x20 x22).f0).length : Int) 0 x121000 x121001 x121002 x121003 x121004 ((rd_T80 x20 x22).f0))) else (none)) else (none)) else (some true)
def spec_GraphOk.l1 : Nat → List (S80) → Int → Int → List (S82) → Int → Int → Int → Int → ByteArray → Int → List (S80) → List (S82) → Option (Bool)
  | 0, _, _, _, _, _, _, _, _, _, _, _, _ => none
  | k + 1, x20, x21, x22, x31, x32, x33, x121000, x121001, x121002, x121003, x121004, x124000 => if x33 < x32 then (if 0 ≤ x33 then (if x33 < (x31.length : Int) then ((spec_l2key.f ((rd_T82 x31 x33).f0.f0) ((rd_T82 x31 x33).f0.f1) ((rd_T82 x31 x33).f0.f2) ((rd_T82 x31 x33).f0.f3)).bind fun t126 => (if t126 = true then ((spec_l2val.f x121000 x121001 x121002 x121003 x121004 ((rd_T82 x31 x33).f1.f0) ((rd_T82 x31 x33).f1.f1) ((rd_T82 x31 x33).f1.f2) ((rd_T82 x31 x33).f1.f3)).bind fun t127 => (if t127 = true then (spec_GraphOk.j3 k x33 x20 x21 x22 x31 x32 x33 (((rd_T82 x31 x33).f1.f0) == 0) x121000 x121001 x121002 x121003 x121004 x124000 ((rd_T82 x31 x33).f0.f0) ((rd_T82 x31 x33).f0.f1) ((rd_T82 x31 x33).f0.f2) ((rd_T82 x31 x33).f0.f3) ((rd_T82 x31 x33).f1.f0) ((rd_T82 x31 x33).f1.f1) ((rd_T82 x31 x33).f1.f2) ((rd_T82 x31 x33).f1.f3)) else (spec_GraphOk.j3 k x33 x20 x21 x22 x31 x32 x33 true x121000 x121001 x121002 x121003 x121004 x124000 ((rd_T82 x31 x33).f0.f0) ((rd_T82 x31 x33).f0.f1) ((rd_T82 x31 x33).f0.f2) ((rd_T82 x31 x33).f0.f3) ((rd_T82 x31 x33).f1.f0) ((rd_T82 x31 x33).f1.f1) ((rd_T82 x31 x33).f1.f2) ((rd_T82 x31 x33).f1.f3)))) else (spec_GraphOk.j3 k x33 x20 x21 x22 x31 x32 x33 true x121000 x121001 x121002 x121003 x121004 x124000 ((rd_T82 x31 x33).f0.f0) ((rd_T82 x31 x33).f0.f1) ((rd_T82 x31 x33).f0.f2) ((rd_T82 x31 x33).f0.f3) ((rd_T82 x31 x33).f1.f0) ((rd_T82 x31 x33).f1.f1) ((rd_T82 x31 x33).f1.f2) ((rd_T82 x31 x33).f1.f3)))) else (none)) else (none)) else (spec_GraphOk.l0 k x20 x21 (wrap64 (x22 + 1)) x121000 x121001 x121002 x121003 x121004)
def spec_GraphOk.j3 : Nat → Int → List (S80) → Int → Int → List (S82) → Int → Int → Bool → Int → Int → ByteArray → Int → List (S80) → List (S82) → Int → Int → ByteArray → Int → Int → Int → ByteArray → Int → Option (Bool)
  | 0, _, _, _, _, _, _, _, _, _, _, _, _, _, _, _, _, _, _, _, _, _, _ => none
  | k + 1, x5, x20, x21, x22, x31, x32, x33, x54, x121000, x121001, x121002, x121003, x121004, x124000, x126000, x126001, x126002, x126003, x126004, x126005, x126006, x126007 => if x54 = true then (some false) else (spec_GraphOk.l2 k x5 0 x20 x21 x22 x31 x32 x33 x121000 x121001 x121002 x121003 x121004 x124000 x126000 x126001 x126002 x126003 x126004 x126005 x126006 x126007)
def spec_GraphOk.l2 : Nat → Int → Int → List (S80) → Int → Int → List (S82) → Int → Int → Int → Int → ByteArray → Int → List (S80) → List (S82) → Int → Int → ByteArray → Int → Int → Int → ByteArray → Int → Option (Bool)
  | 0, _, _, _, _, _, _, _, _, _, _, _, _, _, _, _, _, _, _, _, _, _, _ => none
  | k + 1, x5, x7, x20, x21, x22, x31, x32, x33, x121000, x121001, x121002, x121003, x121004, x124000, x126000, x126001, x126002, x126003, x126004, x126005, x126006, x126007 => if x7 < x5 then (if 0 ≤ x7 then (if x7 < (x124000.length : Int) then (if (((rd_T82 x124000 x7).f0.f0) == x126000 && (((rd_T82 x124000 x7).f0.f1) == x126001 && ((((rd_T82 x124000 x7).f0.f2).toList) == x126002.toList && (((rd_T82 x124000 x7).f0.f3) == x126003)))) = true then (some false) else (spec_GraphOk.l2 k x5 (wrap64 (x7 + 1)) x20 x21 x22 x31 x32 x33 x121000 x121001 x121002 x121003 x121004 x124000 x126000 x126001 x126002 x126003 x126004 x126005 x126006 x126007)) else (none)) else (none)) else (spec_GraphOk.l1 k x20 x21 x22 x31 x32 (wrap64 (x33 + 1)) x121000 x121001 x121002 x121003 x121004 x124000)
end
def spec_GraphOk.f (k : Nat) (a0_0 : Int) (a0_1 : Int) (a0_2 : ByteArray) (a0_3 : Int) (l0_4 : List (S80)) : Option (Bool) := if (l0_4.length : Int) > 200 then (spec_GraphOk.j0 k true a0_0 a0_1 a0_2 a0_3 l0_4) else ((spec_l2val.f a0_0 a0_1 a0_2 a0_3 l0_4 a0_0 a0_1 a0_2 a0_3).bind fun t121 => (spec_GraphOk.j0 k (!t121) a0_0 a0_1 a0_2 a0_3 l0_4))
theorem spec_GraphOk.mono_l : ∀ k, (∀ y0 y1 y2 y3 y4 y5, LeO (spec_GraphOk.j0 k y0 y1 y2 y3 y4 y5) (spec_GraphOk.j0 (k + 1) y0 y1 y2 y3 y4 y5)) ∧ (∀ y0 y1 y2 y3 y4 y5 y6 y7, LeO (spec_GraphOk.l0 k y0 y1 y2 y3 y4 y5 y6 y7) (spec_GraphOk.l0 (k + 1) y0 y1 y2 y3 y4 y5 y6 y7)) ∧ (∀ y0 y1 y2 y3 y4 y5 y6 y7 y8 y9 y10 y11, LeO (spec_GraphOk.l1 k y0 y1 y2 y3 y4 y5 y6 y7 y8 y9 y10 y11) (spec_GraphOk.l1 (k + 1) y0 y1 y2 y3 y4 y5 y6 y7 y8 y9 y10 y11)) ∧ (∀ y0 y1 y2 y3 y4 y5 y6 y7 y8 y9 y10 y11 y12 y13 y14 y15 y16 y17 y18 y19 y20 y21, LeO (spec_GraphOk.j3 k y0 y1 y2 y3 y4 y5 y6 y7 y8 y9 y10 y11 y12 y13 y14 y15 y16 y17 y18 y19 y20 y21) (spec_GraphOk.j3 (k + 1) y0 y1 y2 y3 y4 y5 y6 y7 y8 y9 y10 y11 y12 y13 y14 y15 y16 y17 y18 y19 y20 y21)) ∧ (∀ y0 y1 y2 y3 y4 y5 y6 y7 y8 y9 y10 y11 y12 y13 y14 y15 y16 y17 y18 y19 y20 y21, LeO (spec_GraphOk.l2 k y0 y1 y2 y3 y4 y5 y6 y7 y8 y9 y10 y11 y12 y13 y14 y15 y16 y17 y18 y19 y20 y21) (spec_GraphOk.l2 (k + 1) y0 y1 y2 y3 y4 y5 y6 y7 y8 y9 y10 y11 y12 y13 y14 y15 y16 y17 y18 y19 y20 y21))
  | 0 => ⟨fun _ _ _ _ _ _ r h => by simp [spec_GraphOk.j0] at h, fun _ _ _ _ _ _ _ _ r h => by simp [spec_GraphOk.l0] at h, fun _ _ _ _ _ _ _ _ _ _ _ _ r h => by simp [spec_GraphOk.l1] at h, fun _ _ _ _ _ _ _ _ _ _ _ _ _ _ _ _ _ _ _ _ _ _ r h => by simp [spec_GraphOk.j3] at h, fun _ _ _ _ _ _ _ _ _ _ _ _ _ _ _ _ _ _ _ _ _ _ r h => by simp [spec_GraphOk.l2] at h⟩
  | k + 1 => by
    obtain ⟨ih0, ih1, ih2, ih3, ih4⟩ := spec_GraphOk.mono_l k
    refine ⟨?_, ?_, ?_, ?_, ?_⟩
    · intro y0 y1 y2 y3 y4 y5
      unfold spec_GraphOk.j0
      repeat' first
      | (with_reducible exact ih0 _ _ _ _ _ _)
      | (with_reducible exact ih1 _ _ _ _ _ _ _ _)
      | (with_reducible exact ih2 _ _ _ _ _ _ _ _ _ _ _ _)
      | (with_reducible exact ih3 _ _ _ _ _ _ _ _ _ _ _ _ _ _ _ _ _ _ _ _ _ _)
      | (with_reducible exact ih4 _ _ _ _ _ _ _ _ _ _ _ _ _ _ _ _ _ _ _ _ _ _)
      | (with_reducible exact LeO.refl _)
      | (with_reducible exact LeO.none _)
      | (with_reducible refine LeO.ite ?_ ?_)
      | (with_reducible refine LeO.bind ?_ (fun _ => ?_))
      | exact ih0 _ _ _ _ _ _
      | exact ih1 _ _ _ _ _ _ _ _
      | exact ih2 _ _ _ _ _ _ _ _ _ _ _ _
      | exact ih3 _ _ _ _ _ _ _ _ _ _ _ _ _ _ _ _ _ _ _ _ _ _
      | exact ih4 _ _ _ _ _ _ _ _ _ _ _ _ _ _ _ _ _ _ _ _ _ _
      | exact LeO.none _
      | refine LeO.ite ?_ ?_
      | refine LeO.bind ?_ (fun _ => ?_)
    · intro y0 y1 y2 y3 y4 y5 y6 y7
      unfold spec_GraphOk.l0
      repeat' first
      | (with_reducible exact ih0 _ _ _ _ _ _)
      | (with_reducible exact ih1 _ _ _ _ _ _ _ _)
      | (with_reducible exact ih2 _ _ _ _ _ _ _ _ _ _ _ _)
      | (with_reducible exact ih3 _ _ _ _ _ _ _ _ _ _ _ _ _ _ _ _ _ _ _ _ _ _)
      | (with_reducible exact ih4 _ _ _ _ _ _ _ _ _ _ _ _ _ _ _ _ _ _ _ _ _ _)
      | (with_reducible exact LeO.refl _)
      | (with_reducible exact LeO.none _)
      | (with_reducible refine LeO.ite ?_ ?_)
      | (with_reducible refine LeO.bind ?_ (fun _ => ?_))
      | exact ih0 _ _ _ _ _ _
      | exact ih1 _ _ _ _ _ _ _ _
      | exact ih2 _ _ _ _ _ _ _ _ _ _ _ _
      | exact ih3 _ _ _ _ _ _ _ _ _ _ _ _ _ _ _ _ _ _ _ _ _ _
      | exact ih4 _ _ _ _ _ _ _ _ _ _ _ _ _ _ _ _ _ _ _ _ _ _
      | exact LeO.none _
      | refine LeO.ite ?_ ?_
      | refine LeO.bind ?_ (fun _ => ?_)
    · intro y0 y1 y2 y3 y4 y5 y6 y7 y8 y9 y10 y11
      unfold spec_GraphOk.l1
      repeat' first
      | (with_reducible exact ih0 _ _ _ _ _ _)
      | (with_reducible exact ih1 _ _ _ _ _ _ _ _)
      | (with_reducible exact ih2 _ _ _ _ _ _ _ _ _ _ _ _)
      | (with_reducible exact ih3 _ _ _ _ _ _ _ _ _ _ _ _ _ _ _ _ _ _ _ _ _ _)
      | (with_reducible exact ih4 _ _ _ _ _ _ _ _ _ _ _ _ _ _ _ _ _ _ _ _ _ _)
      | (with_reducible exact LeO.refl _)
      | (with_reducible exact LeO.none _)
      | (with_reducible refine LeO.ite ?_ ?_)
      | (with_reducible refine LeO.bind ?_ (fun _ => ?_))
      | exact ih0 _ _ _ _ _ _
      | exact ih1 _ _ _ _ _ _ _ _
      | exact ih2 _ _ _ _ _ _ _ _ _ _ _ _
      | exact ih3 _ _ _ _ _ _ _ _ _ _ _ _ _ _ _ _ _ _ _ _ _ _
      | exact ih4 _ _ _ _ _ _ _ _ _ _ _ _ _ _ _ _ _ _ _ _ _ _
      | exact LeO.none _
      | refine LeO.ite ?_ ?_
      | refine LeO.bind ?_ (fun _ => ?_)
    · intro y0 y1 y2 y3 y4 y5 y6 y7 y8 y9 y10 y11 y12 y13 y14 y15 y16 y17 y18 y19 y20 y21
      unfold spec_GraphOk.j3
      repeat' first
      | (with_reducible exact ih0 _ _ _ _ _ _)
      | (with_reducible exact ih1 _ _ _ _ _ _ _ _)
      | (with_reducible exact ih2 _ _ _ _ _ _ _ _ _ _ _ _)
      | (with_reducible exact ih3 _ _ _ _ _ _ _ _ _ _ _ _ _ _ _ _ _ _ _ _ _ _)
      | (with_reducible exact ih4 _ _ _ _ _ _ _ _ _ _ _ _ _ _ _ _ _ _ _ _ _ _)
      | (with_reducible exact LeO.refl _)
      | (with_reducible exact LeO.none _)
      | (with_reducible refine LeO.ite ?_ ?_)
      | (with_reducible refine LeO.bind ?_ (fun _ => ?_))
      | exact ih0 _ _ _ _ _ _
      | exact ih1 _ _ _ _ _ _ _ _
      | exact ih2 _ _ _ _ _ _ _ _ _ _ _ _
      | exact ih3 _ _ _ _ _ _ _ _ _ _ _ _ _ _ _ _ _ _ _ _ _ _
      | exact ih4 _ _ _ _ _ _ _ _ _ _ _ _ _ _ _ _ _ _ _ _ _ _
      | exact LeO.none _
      | refine LeO.ite ?_ ?_
      | refine LeO.bind ?_ (fun _ => ?_)
    · intro y0 y1 y2 y3 y4 y5 y6 y7 y8 y9 y10 y11 y12 y13 y14 y15 y16 y17 y18 y19 y20 y21
      unfold spec_GraphOk.l2
      repeat' first
      | (with_reducible exact ih0 _ _ _ _ _ _)
      | (with_reducible exact ih1 _ _ _ _ _ _ _ _)
      | (with_reducible exact ih2 _ _ _ _ _ _ _ _ _ _ _ _)
      | (with_reducible exact ih3 _ _ _ _ _ _ _ _ _ _ _ _ _ _ _ _ _ _ _ _ _ _)
      | (with_reducible exact ih4 _ _ _ _ _ _ _ _ _ _ _ _ _ _ _ _ _ _ _ _ _ _)
      | (with_reducible exact LeO.refl _)
      | (with_reducible exact LeO.none _)
      | (with_reducible refine LeO.ite ?_ ?_)
      | (with_reducible refine LeO.bind ?_ (fun _ => ?_))
      | exact ih0 _ _ _ _ _ _
      | exact ih1 _ _ _ _ _ _ _ _
      | exact ih2 _ _ _ _ _ _ _ _ _ _ _ _
      | exact ih3 _ _ _ _ _ _ _ _ _ _ _ _ _ _ _ _ _ _ _ _ _ _
      | exact ih4 _ _ _ _ _ _ _ _ _ _ _ _ _ _ _ _ _ _ _ _ _ _
      | exact LeO.none _
      | refine LeO.ite ?_ ?_
      | refine LeO.bind ?_ (fun _ => ?_)
theorem spec_GraphOk.mono : ∀ a0 a1 a2 a3 a4 k, LeO (spec_GraphOk.f k a0 a1 a2 a3 a4) (spec_GraphOk.f (k + 1) a0 a1 a2 a3 a4) := by
  intro a0 a1 a2 a3 a4 k
  obtain ⟨ih0, ih1, ih2, ih3, ih4⟩ := spec_GraphOk.mono_l k
  unfold spec_GraphOk.f
  repeat' first
      | (with_reducible exact ih0 _ _ _ _ _ _)
      | (with_reducible exact ih1 _ _ _ _ _ _ _ _)
      | (with_reducible exact ih2 _ _ _ _ _ _ _ _ _ _ _ _)
      | (with_reducible exact ih3 _ _ _ _ _ _ _ _ _ _ _ _ _ _ _ _ _ _ _ _ _ _)
      | (with_reducible exact ih4 _ _ _ _ _ _ _ _ _ _ _ _ _ _ _ _ _ _ _ _ _ _)
      | (with_reducible exact LeO.refl _)
      | (with_reducible exact LeO.none _)
      | (with_reducible refine LeO.ite ?_ ?_)
      | (with_reducible refine LeO.bind ?_ (fun _ => ?_))
      | exact ih0 _ _ _ _ _ _
      | exact ih1 _ _ _ _ _ _ _ _
      | exact ih2 _ _ _ _ _ _ _ _ _ _ _ _
      | exact ih3 _ _ _ _ _ _ _ _ _ _ _ _ _ _ _ _ _ _ _ _ _ _
      | exact ih4 _ _ _ _ _ _ _ _ _ _ _ _ _ _ _ _ _ _ _ _ _ _
      | exact LeO.none _
      | refine LeO.ite ?_ ?_
      | refine LeO.bind ?_ (fun _ => ?_)
set_option maxHeartbeats 8000000 in
set_option maxRecDepth 100000 in
theorem spec_GraphOk.calls (k : Nat) (a0_0 : Int) (a0_1 : Int) (a0_2 : ByteArray) (a0_3 : Int) (A0_4 : Option Addr) (c0_4 : Nat) (l0_4 : List (S80)) (r : Bool) (w : World) (hr0_4 : Kd.C k80 w A0_4 l0_4.length l0_4) (hc0_4 : l0_4.length ≤ c0_4) (h : spec_GraphOk.f k a0_0 a0_1 a0_2 a0_3 l0_4 = some r) :
    Calls Try.prog 25 #[.agg #[.int .i64 a0_0, .int .i64 a0_1, .string a0_2, .int .i64 a0_3, .slice A0_4 l0_4.length c0_4]] w fun e w' => e = .returned (.bool r) ∧ Below w.heap.size w w' := by
  have hu48 := Try.underlying48
  have hu29 := Try.underlying29
  have hu80 := Try.underlying80
  have hu82 := Try.underlying82
  have HR0_4 := Aside0.mk hr0_4
  have HC0_4 := Aside0.mk hc0_4
  clear hr0_4 hc0_4
  have HB := Aside0.mk (Below.refl w.heap.size w)
  have H : (if (l0_4.length : Int) > 200 then (spec_GraphOk.j0 k true a0_0 a0_1 a0_2 a0_3 l0_4) else ((spec_l2val.f a0_0 a0_1 a0_2 a0_3 l0_4 a0_0 a0_1 a0_2 a0_3).bind fun t121 => (spec_GraphOk.j0 k (!t121) a0_0 a0_1 a0_2 a0_3 l0_4))) = some r := h
  clear h
  have HC2 := Aside0.mk H
  clear H
  go_enter Try.func25, Try.ntmps25
  go_upto_region 1 with (first | ((with_reducible refine gate_dst (N := 1) rfl ?_); refine box_event ?hg (N := 1) ?hd (cs := #[.int .i64 a0_0, .int .i64 a0_1, .string a0_2, .int .i64 a0_3, .slice A0_4 l0_4.length c0_4]) (t := 48) ?hr ?_; (case hd => rfl); (case hg => rfl); (case hr => first | (go_simp; done) | (go_simp; rfl)); intro gb120 hg w3 hbox hb; have n0_ := Aside0.mk (below_step (by repeat (first | (with_reducible first | exact HB.out | apply below_alloc | apply pw_below_drewN | apply below_drew1) | exact HB.out)) hb); have n1_ := Aside0.mk (hbox); have n2_ := Aside0.mk ((by rw [hg]; exact (below_size (by repeat (first | (with_reducible first | exact HB.out | apply below_alloc | apply pw_below_drewN | apply below_drew1) | exact HB.out))) : w.heap.size ≤ gb120)); have n3_ := Aside0.mk ((by rw [hg]; exact (below_size (by repeat (first | (with_reducible first | exact HB.out | apply below_alloc | apply pw_below_drewN | apply below_drew1) | exact HB.out))) : w.heap.size ≤ gb120)); clear HB; have HB := n0_; have BK120 := n1_; have GW120 := n2_; have GE120 := n3_; clear n0_ n1_ n2_ n3_; clear hb hbox hg))
  repeat (go_quiet (first | ((with_reducible refine gate_dst (N := 1) rfl ?_); refine box_event ?hg (N := 1) ?hd (cs := #[.int .i64 a0_0, .int .i64 a0_1, .string a0_2, .int .i64 a0_3, .slice A0_4 l0_4.length c0_4]) (t := 48) ?hr ?_; (case hd => rfl); (case hg => rfl); (case hr => first | (go_simp; done) | (go_simp; rfl)); intro gb120 hg w3 hbox hb; have n0_ := Aside0.mk (below_step (by repeat (first | (with_reducible first | exact HB.out | apply below_alloc | apply pw_below_drewN | apply below_drew1) | exact HB.out)) hb); have n1_ := Aside0.mk (hbox); have n2_ := Aside0.mk ((by rw [hg]; exact (below_size (by repeat (first | (with_reducible first | exact HB.out | apply below_alloc | apply pw_below_drewN | apply below_drew1) | exact HB.out))) : w.heap.size ≤ gb120)); have n3_ := Aside0.mk ((by rw [hg]; exact (below_size (by repeat (first | (with_reducible first | exact HB.out | apply below_alloc | apply pw_below_drewN | apply below_drew1) | exact HB.out))) : w.heap.size ≤ gb120)); clear HB; have HB := n0_; have BK120 := n1_; have GW120 := n2_; have GE120 := n3_; clear n0_ n1_ n2_ n3_; clear hb hbox hg)); go_upto_region 1 with (first | ((with_reducible refine gate_dst (N := 1) rfl ?_); refine box_event ?hg (N := 1) ?hd (cs := #[.int .i64 a0_0, .int .i64 a0_1, .string a0_2, .int .i64 a0_3, .slice A0_4 l0_4.length c0_4]) (t := 48) ?hr ?_; (case hd => rfl); (case hg => rfl); (case hr => first | (go_simp; done) | (go_simp; rfl)); intro gb120 hg w3 hbox hb; have n0_ := Aside0.mk (below_step (by repeat (first | (with_reducible first | exact HB.out | apply below_alloc | apply pw_below_drewN | apply below_drew1) | exact HB.out)) hb); have n1_ := Aside0.mk (hbox); have n2_ := Aside0.mk ((by rw [hg]; exact (below_size (by repeat (first | (with_reducible first | exact HB.out | apply below_alloc | apply pw_below_drewN | apply below_drew1) | exact HB.out))) : w.heap.size ≤ gb120)); have n3_ := Aside0.mk ((by rw [hg]; exact (below_size (by repeat (first | (with_reducible first | exact HB.out | apply below_alloc | apply pw_below_drewN | apply below_drew1) | exact HB.out))) : w.heap.size ≤ gb120)); clear HB; have HB := n0_; have BK120 := n1_; have GW120 := n2_; have GE120 := n3_; clear n0_ n1_ n2_ n3_; clear hb hbox hg)))
  (try simp only [Act.put, List.setIfInBounds_toArray, List.set_cons_zero, List.set_cons_succ])
  go_cut [18] (fun v18 wc => ∃ (kq : Nat) (x18_1 : Bool), v18 = .bool x18_1 ∧ Aside0 (spec_GraphOk.j0 kq x18_1 a0_0 a0_1 a0_2 a0_3 l0_4 = some r) ∧ Aside0 (kq ≤ k) ∧ Aside0 (wc.heap[gb120]? = some (.cells #[.int .i64 a0_0, .int .i64 a0_1, .string a0_2, .int .i64 a0_3, (.slice A0_4 l0_4.length c0_4)] 48 (0, 0))) ∧ Aside0 (Below w.heap.size w wc))
  case first =>
    have H := HC2.out
    clear HC2
    by_cases c4 : (l0_4.length : Int) > 200
    · rw [if_pos c4] at H
      have c4b0 : decide (200 < (l0_4.length : Int)) = true := decide_eq_true c4
      have c4b1 : decide (200 < l0_4.length) = true := decide_eq_true (by omega)
      clear c4
      (first | rw [c4b0] | (simp only [i64_w, i32_w]; rw [c4b0]) | skip)
      have H' := Aside0.mk H
      clear H
      have hcz5_0 : w3.cell? ⟨gb120, 0, none⟩ = some (.int .i64 a0_0) := (blk_cell BK120.out 0).trans rfl
      have hcz5_1 : w3.cell? ⟨gb120, 1, none⟩ = some (.int .i64 a0_1) := (blk_cell BK120.out 1).trans rfl
      have hcz5_2 : w3.cell? ⟨gb120, 2, none⟩ = some (.string a0_2) := (blk_cell BK120.out 2).trans rfl
      have hcz5_3 : w3.cell? ⟨gb120, 3, none⟩ = some (.int .i64 a0_3) := (blk_cell BK120.out 3).trans rfl
      have hcz5_4 : w3.cell? ⟨gb120, 4, none⟩ = some (.slice A0_4 l0_4.length c0_4) := (blk_cell BK120.out 4).trans rfl
      have hfz5_0 := blk_frozen BK120.out 0
      have hfz5_1 := blk_frozen BK120.out 1
      have hfz5_2 := blk_frozen BK120.out 2
      have hfz5_3 := blk_frozen BK120.out 3
      have hfz5_4 := blk_frozen BK120.out 4
      go_wp2
      repeat (go_quiet (fail); try go_wp2)
      go_meet
      case rel => exact ⟨_, (true), (by first | rfl | (simp; done) | (simp [*]; done)), H', ⟨by first | omega | exact Nat.le_refl _⟩, ⟨by (with_reducible repeat (first | refine blk_drewN ?_ _ | refine blk_drew ?_ | refine blk_alloc ?_ _)); exact BK120.out⟩, ⟨by repeat (first | (with_reducible first | exact HB.out | apply below_alloc | apply pw_below_drewN | apply below_drew1 | refine below_set ?_ GE120.out) | exact HB.out)⟩⟩
    · rw [if_neg c4] at H
      have c4b0 : decide (200 < (l0_4.length : Int)) = false := decide_eq_false c4
      have c4b1 : decide (200 < l0_4.length) = false := decide_eq_false (by omega)
      clear c4
      (first | rw [c4b0] | (simp only [i64_w, i32_w]; rw [c4b0]) | skip)
      replace H := Option.bind_eq_some_iff.mp H
      obtain ⟨t121, A60, H⟩ := H
      replace H : (spec_GraphOk.j0 k (!t121) a0_0 a0_1 a0_2 a0_3 l0_4) = some r := H
      have A6 := Aside0.mk A60
      clear A60
      have H' := Aside0.mk H
      clear H
      have hcz7_0 : w3.cell? ⟨gb120, 0, none⟩ = some (.int .i64 a0_0) := (blk_cell BK120.out 0).trans rfl
      have hcz7_1 : w3.cell? ⟨gb120, 1, none⟩ = some (.int .i64 a0_1) := (blk_cell BK120.out 1).trans rfl
      have hcz7_2 : w3.cell? ⟨gb120, 2, none⟩ = some (.string a0_2) := (blk_cell BK120.out 2).trans rfl
      have hcz7_3 : w3.cell? ⟨gb120, 3, none⟩ = some (.int .i64 a0_3) := (blk_cell BK120.out 3).trans rfl
      have hcz7_4 : w3.cell? ⟨gb120, 4, none⟩ = some (.slice A0_4 l0_4.length c0_4) := (blk_cell BK120.out 4).trans rfl
      have hfz7_0 := blk_frozen BK120.out 0
      have hfz7_1 := blk_frozen BK120.out 1
      have hfz7_2 := blk_frozen BK120.out 2
      have hfz7_3 := blk_frozen BK120.out 3
      have hfz7_4 := blk_frozen BK120.out 4
      go_wp2_with (first | (go_at_call 56; (with_reducible refine (spec_l2val.calls a0_0 a0_1 a0_2 a0_3 _ _ l0_4 a0_0 a0_1 a0_2 a0_3 t121 _ ?side1 ?side2 A6.out).mono ?_); (case side1 => repeat (first | exact (Kd.C_below HR0_4.out HB.out) | (with_reducible refine Kd.C_alloc ?_ _) | (with_reducible refine Kd.C_drewN ?_ _) | (with_reducible refine Kd.C_drew ?_))); (case side2 => exact HC0_4.out); rintro e w8 ⟨rfl, hb⟩; have n0_ := Aside0.mk (blk_below (g := gb120) (o := .cells #[.int .i64 a0_0, .int .i64 a0_1, .string a0_2, .int .i64 a0_3, .slice A0_4 l0_4.length c0_4] 48 (0, 0)) (by (with_reducible repeat (first | refine blk_drewN ?_ _ | refine blk_drew ?_ | refine blk_alloc ?_ _)); exact BK120.out) hb); have n1_ := Aside0.mk (below_step (by repeat (first | (with_reducible first | exact HB.out | apply below_alloc | apply pw_below_drewN | apply below_drew1 | refine below_set ?_ GE120.out) | exact HB.out)) hb); clear BK120; clear HB; have BK120 := n0_; have HB := n1_; clear n0_ n1_; (try clear hb); (try clear hb2); (try clear hk); (try clear hi)))
      repeat (go_quiet (first | (go_at_call 56; (with_reducible refine (spec_l2val.calls a0_0 a0_1 a0_2 a0_3 _ _ l0_4 a0_0 a0_1 a0_2 a0_3 t121 _ ?side1 ?side2 A6.out).mono ?_); (case side1 => repeat (first | exact (Kd.C_below HR0_4.out HB.out) | (with_reducible refine Kd.C_alloc ?_ _) | (with_reducible refine Kd.C_drewN ?_ _) | (with_reducible refine Kd.C_drew ?_))); (case side2 => exact HC0_4.out); rintro e w8 ⟨rfl, hb⟩; have n0_ := Aside0.mk (blk_below (g := gb120) (o := .cells #[.int .i64 a0_0, .int .i64 a0_1, .string a0_2, .int .i64 a0_3, .slice A0_4 l0_4.length c0_4] 48 (0, 0)) (by (with_reducible repeat (first | refine blk_drewN ?_ _ | refine blk_drew ?_ | refine blk_alloc ?_ _)); exact BK120.out) hb); have n1_ := Aside0.mk (below_step (by repeat (first | (with_reducible first | exact HB.out | apply below_alloc | apply pw_below_drewN | apply below_drew1 | refine below_set ?_ GE120.out) | exact HB.out)) hb); clear BK120; clear HB; have BK120 := n0_; have HB := n1_; clear n0_ n1_; (try clear hb); (try clear hb2); (try clear hk); (try clear hi))); try go_wp2_with (first | (go_at_call 56; (with_reducible refine (spec_l2val.calls a0_0 a0_1 a0_2 a0_3 _ _ l0_4 a0_0 a0_1 a0_2 a0_3 t121 _ ?side1 ?side2 A6.out).mono ?_); (case side1 => repeat (first | exact (Kd.C_below HR0_4.out HB.out) | (with_reducible refine Kd.C_alloc ?_ _) | (with_reducible refine Kd.C_drewN ?_ _) | (with_reducible refine Kd.C_drew ?_))); (case side2 => exact HC0_4.out); rintro e w8 ⟨rfl, hb⟩; have n0_ := Aside0.mk (blk_below (g := gb120) (o := .cells #[.int .i64 a0_0, .int .i64 a0_1, .string a0_2, .int .i64 a0_3, .slice A0_4 l0_4.length c0_4] 48 (0, 0)) (by (with_reducible repeat (first | refine blk_drewN ?_ _ | refine blk_drew ?_ | refine blk_alloc ?_ _)); exact BK120.out) hb); have n1_ := Aside0.mk (below_step (by repeat (first | (with_reducible first | exact HB.out | apply below_alloc | apply pw_below_drewN | apply below_drew1 | refine below_set ?_ GE120.out) | exact HB.out)) hb); clear BK120; clear HB; have BK120 := n0_; have HB := n1_; clear n0_ n1_; (try clear hb); (try clear hb2); (try clear hk); (try clear hi))))
      go_meet
      case rel => exact ⟨_, (!t121), (by first | rfl | (simp; done) | (simp [*]; done)), H', ⟨by first | omega | exact Nat.le_refl _⟩, ⟨by (with_reducible repeat (first | refine blk_drewN ?_ _ | refine blk_drew ?_ | refine blk_alloc ?_ _)); exact BK120.out⟩, ⟨by repeat (first | (with_reducible first | exact HB.out | apply below_alloc | apply pw_below_drewN | apply below_drew1 | refine below_set ?_ GE120.out) | exact HB.out)⟩⟩
  case rest =>
    clear HC2
    try clear c2
    try clear p2
    try clear c4
    try clear c4b0
    try clear c4b1
    try clear hcz5_0
    try clear hcz5_1
    try clear hcz5_2
    try clear hcz5_3
    try clear hcz5_4
    try clear hcz7_0
    try clear hcz7_1
    try clear hcz7_2
    try clear hcz7_3
    try clear hcz7_4
    try clear hfz5_0
    try clear hfz5_1
    try clear hfz5_2
    try clear hfz5_3
    try clear hfz5_4
    try clear hfz7_0
    try clear hfz7_1
    try clear hfz7_2
    try clear hfz7_3
    try clear hfz7_4
    obtain ⟨kq, x18_1, rfl, HA, HJ1, BK120, HB⟩ := hcut
    cases kq with
    | zero => exact absurd HA.out (by simp [spec_GraphOk.j0])
    | succ kj1 =>
      have H := HA.out
      clear HA
      simp only [spec_GraphOk.j0] at H
      by_cases c9 : x18_1 = true
      · subst c9
        have H1 : (some false) = some r := by rw [if_pos rfl] at H; exact H
        clear H
        have H := H1
        clear H1
        obtain rfl := Option.some.inj H
        go_wp2
        repeat (go_quiet (fail); try go_wp2)
        go_ret
        exact ⟨by first | rfl | (simp [errW_none, errW_some] <;> rfl) | (simp [*, errW_none, errW_some] <;> rfl), by repeat (first | (with_reducible first | exact HB.out | apply below_alloc | apply pw_below_drewN | apply below_drew1 | refine below_set ?_ GE120.out) | exact HB.out)⟩
      · replace c9 := Bool.eq_false_iff.mpr c9
        subst c9
        have H1 : (spec_GraphOk.l0 kj1 l0_4 (l0_4.length : Int) 0 a0_0 a0_1 a0_2 a0_3 l0_4) = some r := by rw [if_neg (show ¬ (false = true) by decide)] at H; exact H
        clear H
        have H := H1
        clear H1
        have H' := Aside0.mk H
        clear H
        have hcz10_0 : wc.cell? ⟨gb120, 0, none⟩ = some (.int .i64 a0_0) := (blk_cell BK120.out 0).trans rfl
        have hcz10_1 : wc.cell? ⟨gb120, 1, none⟩ = some (.int .i64 a0_1) := (blk_cell BK120.out 1).trans rfl
        have hcz10_2 : wc.cell? ⟨gb120, 2, none⟩ = some (.string a0_2) := (blk_cell BK120.out 2).trans rfl
        have hcz10_3 : wc.cell? ⟨gb120, 3, none⟩ = some (.int .i64 a0_3) := (blk_cell BK120.out 3).trans rfl
        have hcz10_4 : wc.cell? ⟨gb120, 4, none⟩ = some (.slice A0_4 l0_4.length c0_4) := (blk_cell BK120.out 4).trans rfl
        have hfz10_0 := blk_frozen BK120.out 0
        have hfz10_1 := blk_frozen BK120.out 1
        have hfz10_2 := blk_frozen BK120.out 2
        have hfz10_3 := blk_frozen BK120.out 3
        have hfz10_4 := blk_frozen BK120.out 4
        go_wp2
        repeat (go_quiet (fail); try go_wp2)
        go_loopg [22] kj1 (fun kq v22 w' => ∃ (x22_2 : Int), v22 = .int .i64 x22_2 ∧ Aside0 (spec_GraphOk.l0 kq l0_4 (l0_4.length : Int) x22_2 a0_0 a0_1 a0_2 a0_3 l0_4 = some r) ∧ Aside0 (kq ≤ kj1) ∧ Aside0 (w'.heap[gb120]? = some (.cells #[.int .i64 a0_0, .int .i64 a0_1, .string a0_2, .int .i64 a0_3, (.slice A0_4 l0_4.length c0_4)] 48 (0, 0))) ∧ Aside0 (Below w.heap.size w w'))
        case atStart => exact ⟨(0), (by first | rfl | (simp; done) | (simp [*]; done)), H', ⟨Nat.le_refl _⟩, ⟨by (with_reducible repeat (first | refine blk_drewN ?_ _ | refine blk_drew ?_ | refine blk_alloc ?_ _)); exact BK120.out⟩, ⟨by repeat (first | (with_reducible first | exact HB.out | apply below_alloc | apply pw_below_drewN | apply below_drew1 | refine below_set ?_ GE120.out) | exact HB.out)⟩⟩
        case round =>
          clear H'
          try clear c2
          try clear p2
          try clear c4
          try clear c4b0
          try clear c4b1
          try clear c9
          try clear hcz10_0
          try clear hcz10_1
          try clear hcz10_2
          try clear hcz10_3
          try clear hcz10_4
          try clear hcz5_0
          try clear hcz5_1
          try clear hcz5_2
          try clear hcz5_3
          try clear hcz5_4
          try clear hcz7_0
          try clear hcz7_1
          try clear hcz7_2
          try clear hcz7_3
          try clear hcz7_4
          try clear hfz10_0
          try clear hfz10_1
          try clear hfz10_2
          try clear hfz10_3
          try clear hfz10_4
          try clear hfz5_0
          try clear hfz5_1
          try clear hfz5_2
          try clear hfz5_3
          try clear hfz5_4
          try clear hfz7_0
          try clear hfz7_1
          try clear hfz7_2
          try clear hfz7_3
          try clear hfz7_4
          try clear p2
          obtain ⟨x22_2, rfl, HA, HK2, BK120, HB⟩ := hrel
          cases gk with
          | zero => exact absurd HA.out (by simp [spec_GraphOk.l0])
          | succ k2 =>
            have H := HA.out
            clear HA
            simp only [spec_GraphOk.l0] at H
            by_cases c11 : x22_2 < (l0_4.length : Int)
            · rw [if_pos c11] at H
              have c11b0 : decide (x22_2 < (l0_4.length : Int)) = true := decide_eq_true c11
              clear c11
              by_cases c12 : 0 ≤ x22_2
              · rw [if_pos c12] at H
                have c12b0 : decide (0 ≤ x22_2) = true := decide_eq_true c12
                clear c12
                by_cases c13 : x22_2 < (l0_4.length : Int)
                · rw [if_pos c13] at H
                  have c13b0 : decide (x22_2 < (l0_4.length : Int)) = true := decide_eq_true c13
                  clear c13
                  by_cases c14 : (((rd_T80 l0_4 x22_2).f0).length : Int) > 100
                  · rw [if_pos c14] at H
                    have c14b0 : decide (100 < (((rd_T80 l0_4 x22_2).f0).length : Int)) = true := decide_eq_true c14
                    have c14b1 : decide (100 < ((rd_T80 l0_4 x22_2).f0).length) = true := decide_eq_true (by omega)
                    clear c14
                    obtain rfl := Option.some.inj H
                    have p122 : 0 ≤ (x22_2 : Int) := of_decide_eq_true (by first | (with_reducible assumption) | assumption)
                    have q122 : x22_2 < (l0_4.length : Int) := of_decide_eq_true (by first | (with_reducible assumption) | assumption)
                    obtain ⟨ad122, A122_0, c122_0, e122, hx122_0, hl122_0, hi122_0⟩ := at_T80 HR0_4.out x22_2 p122 q122
                    cases e122
                    replace hx122_0 := (HB.out.cell (World.block_lt_of_cell? w _ hx122_0)).trans hx122_0
                    have HR122_0 := Aside0.mk hi122_0
                    have HC122_0 := Aside0.mk hl122_0
                    clear hi122_0 hl122_0
                    replace p122 := eq_true p122
                    replace q122 := eq_true q122
                    go_wp2_with (first | ((with_reducible refine gate_dst (N := 4) rfl ?_); refine box_event ?hg (N := 4) ?hd (cs := #[.slice none 0 0]) (t := 80) ?hr ?_; (case hd => rfl); (case hg => rfl); (case hr => first | (go_simp; done) | (go_simp; rfl)); intro gb123 hg w15 hbox hb; have n0_ := Aside0.mk (blk_below (g := gb120) (o := .cells #[.int .i64 a0_0, .int .i64 a0_1, .string a0_2, .int .i64 a0_3, .slice (some ad122) l0_4.length c0_4] 48 (0, 0)) (by (with_reducible repeat (first | refine blk_drewN ?_ _ | refine blk_drew ?_ | refine blk_alloc ?_ _)); exact BK120.out) hb); have n1_ := Aside0.mk (below_step (by repeat (first | (with_reducible first | exact HB.out | apply below_alloc | apply pw_below_drewN | apply below_drew1 | refine below_set ?_ GE120.out) | exact HB.out)) hb); have n2_ := Aside0.mk (hbox); have n3_ := Aside0.mk ((by rw [hg]; exact (below_size (by repeat (first | (with_reducible first | exact HB.out | apply below_alloc | apply pw_below_drewN | apply below_drew1 | refine below_set ?_ GE120.out) | exact HB.out))) : w.heap.size ≤ gb123)); have n4_ := Aside0.mk ((by rw [hg]; exact (below_size (by repeat (first | (with_reducible first | exact HB.out | apply below_alloc | apply pw_below_drewN | apply below_drew1 | refine below_set ?_ GE120.out) | exact HB.out))) : w.heap.size ≤ gb123)); have n5_ := Aside0.mk ((by rw [hg]; exact Nat.ne_of_lt (blk_lt (g := gb120) (o := .cells #[.int .i64 a0_0, .int .i64 a0_1, .string a0_2, .int .i64 a0_3, .slice (some ad122) l0_4.length c0_4] 48 (0, 0)) (by (with_reducible repeat (first | refine blk_drewN ?_ _ | refine blk_drew ?_ | refine blk_alloc ?_ _)); exact BK120.out)) : gb120 ≠ gb123)); have n6_ := Aside0.mk ((by rw [hg]; exact Nat.ne_of_gt (blk_lt (g := gb120) (o := .cells #[.int .i64 a0_0, .int .i64 a0_1, .string a0_2, .int .i64 a0_3, .slice (some ad122) l0_4.length c0_4] 48 (0, 0)) (by (with_reducible repeat (first | refine blk_drewN ?_ _ | refine blk_drew ?_ | refine blk_alloc ?_ _)); exact BK120.out)) : gb123 ≠ gb120)); clear BK120; clear HB; have BK120 := n0_; have HB := n1_; have BK123 := n2_; have GW123 := n3_; have GE123 := n4_; have NB120_123 := n5_; have NB123_120 := n6_; clear n0_ n1_ n2_ n3_ n4_ n5_ n6_; clear hb hbox hg; have hnb16 := NB123_120.out; have hnc16 := NB120_123.out; have hcz17_0 : w15.cell? ⟨gb123, 0, none⟩ = some (.slice none 0 0) := (blk_cell BK123.out 0).trans rfl; have hfz17_0 := blk_frozen BK123.out 0))
                    repeat (go_quiet (first | ((with_reducible refine gate_dst (N := 4) rfl ?_); refine box_event ?hg (N := 4) ?hd (cs := #[.slice none 0 0]) (t := 80) ?hr ?_; (case hd => rfl); (case hg => rfl); (case hr => first | (go_simp; done) | (go_simp; rfl)); intro gb123 hg w15 hbox hb; have n0_ := Aside0.mk (blk_below (g := gb120) (o := .cells #[.int .i64 a0_0, .int .i64 a0_1, .string a0_2, .int .i64 a0_3, .slice (some ad122) l0_4.length c0_4] 48 (0, 0)) (by (with_reducible repeat (first | refine blk_drewN ?_ _ | refine blk_drew ?_ | refine blk_alloc ?_ _)); exact BK120.out) hb); have n1_ := Aside0.mk (below_step (by repeat (first | (with_reducible first | exact HB.out | apply below_alloc | apply pw_below_drewN | apply below_drew1 | refine below_set ?_ GE120.out) | exact HB.out)) hb); have n2_ := Aside0.mk (hbox); have n3_ := Aside0.mk ((by rw [hg]; exact (below_size (by repeat (first | (with_reducible first | exact HB.out | apply below_alloc | apply pw_below_drewN | apply below_drew1 | refine below_set ?_ GE120.out) | exact HB.out))) : w.heap.size ≤ gb123)); have n4_ := Aside0.mk ((by rw [hg]; exact (below_size (by repeat (first | (with_reducible first | exact HB.out | apply below_alloc | apply pw_below_drewN | apply below_drew1 | refine below_set ?_ GE120.out) | exact HB.out))) : w.heap.size ≤ gb123)); have n5_ := Aside0.mk ((by rw [hg]; exact Nat.ne_of_lt (blk_lt (g := gb120) (o := .cells #[.int .i64 a0_0, .int .i64 a0_1, .string a0_2, .int .i64 a0_3, .slice (some ad122) l0_4.length c0_4] 48 (0, 0)) (by (with_reducible repeat (first | refine blk_drewN ?_ _ | refine blk_drew ?_ | refine blk_alloc ?_ _)); exact BK120.out)) : gb120 ≠ gb123)); have n6_ := Aside0.mk ((by rw [hg]; exact Nat.ne_of_gt (blk_lt (g := gb120) (o := .cells #[.int .i64 a0_0, .int .i64 a0_1, .string a0_2, .int .i64 a0_3, .slice (some ad122) l0_4.length c0_4] 48 (0, 0)) (by (with_reducible repeat (first | refine blk_drewN ?_ _ | refine blk_drew ?_ | refine blk_alloc ?_ _)); exact BK120.out)) : gb123 ≠ gb120)); clear BK120; clear HB; have BK120 := n0_; have HB := n1_; have BK123 := n2_; have GW123 := n3_; have GE123 := n4_; have NB120_123 := n5_; have NB123_120 := n6_; clear n0_ n1_ n2_ n3_ n4_ n5_ n6_; clear hb hbox hg; have hnb16 := NB123_120.out; have hnc16 := NB120_123.out; have hcz17_0 : w15.cell? ⟨gb123, 0, none⟩ = some (.slice none 0 0) := (blk_cell BK123.out 0).trans rfl; have hfz17_0 := blk_frozen BK123.out 0)); try go_wp2_with (first | ((with_reducible refine gate_dst (N := 4) rfl ?_); refine box_event ?hg (N := 4) ?hd (cs := #[.slice none 0 0]) (t := 80) ?hr ?_; (case hd => rfl); (case hg => rfl); (case hr => first | (go_simp; done) | (go_simp; rfl)); intro gb123 hg w15 hbox hb; have n0_ := Aside0.mk (blk_below (g := gb120) (o := .cells #[.int .i64 a0_0, .int .i64 a0_1, .string a0_2, .int .i64 a0_3, .slice (some ad122) l0_4.length c0_4] 48 (0, 0)) (by (with_reducible repeat (first | refine blk_drewN ?_ _ | refine blk_drew ?_ | refine blk_alloc ?_ _)); exact BK120.out) hb); have n1_ := Aside0.mk (below_step (by repeat (first | (with_reducible first | exact HB.out | apply below_alloc | apply pw_below_drewN | apply below_drew1 | refine below_set ?_ GE120.out) | exact HB.out)) hb); have n2_ := Aside0.mk (hbox); have n3_ := Aside0.mk ((by rw [hg]; exact (below_size (by repeat (first | (with_reducible first | exact HB.out | apply below_alloc | apply pw_below_drewN | apply below_drew1 | refine below_set ?_ GE120.out) | exact HB.out))) : w.heap.size ≤ gb123)); have n4_ := Aside0.mk ((by rw [hg]; exact (below_size (by repeat (first | (with_reducible first | exact HB.out | apply below_alloc | apply pw_below_drewN | apply below_drew1 | refine below_set ?_ GE120.out) | exact HB.out))) : w.heap.size ≤ gb123)); have n5_ := Aside0.mk ((by rw [hg]; exact Nat.ne_of_lt (blk_lt (g := gb120) (o := .cells #[.int .i64 a0_0, .int .i64 a0_1, .string a0_2, .int .i64 a0_3, .slice (some ad122) l0_4.length c0_4] 48 (0, 0)) (by (with_reducible repeat (first | refine blk_drewN ?_ _ | refine blk_drew ?_ | refine blk_alloc ?_ _)); exact BK120.out)) : gb120 ≠ gb123)); have n6_ := Aside0.mk ((by rw [hg]; exact Nat.ne_of_gt (blk_lt (g := gb120) (o := .cells #[.int .i64 a0_0, .int .i64 a0_1, .string a0_2, .int .i64 a0_3, .slice (some ad122) l0_4.length c0_4] 48 (0, 0)) (by (with_reducible repeat (first | refine blk_drewN ?_ _ | refine blk_drew ?_ | refine blk_alloc ?_ _)); exact BK120.out)) : gb123 ≠ gb120)); clear BK120; clear HB; have BK120 := n0_; have HB := n1_; have BK123 := n2_; have GW123 := n3_; have GE123 := n4_; have NB120_123 := n5_; have NB123_120 := n6_; clear n0_ n1_ n2_ n3_ n4_ n5_ n6_; clear hb hbox hg; have hnb16 := NB123_120.out; have hnc16 := NB120_123.out; have hcz17_0 : w15.cell? ⟨gb123, 0, none⟩ = some (.slice none 0 0) := (blk_cell BK123.out 0).trans rfl; have hfz17_0 := blk_frozen BK123.out 0)))
                    go_ret
                    exact ⟨by first | rfl | (simp [errW_none, errW_some] <;> rfl) | (simp [*, errW_none, errW_some] <;> rfl), by repeat (first | (with_reducible first | exact HB.out | apply below_alloc | apply pw_below_drewN | apply below_drew1 | refine below_set ?_ GE120.out | refine below_set ?_ GE123.out) | exact HB.out)⟩
                  · rw [if_neg c14] at H
                    have c14b0 : decide (100 < (((rd_T80 l0_4 x22_2).f0).length : Int)) = false := decide_eq_false c14
                    have c14b1 : decide (100 < ((rd_T80 l0_4 x22_2).f0).length) = false := decide_eq_false (by omega)
                    clear c14
                    have H' := Aside0.mk H
                    clear H
                    have p122 : 0 ≤ (x22_2 : Int) := of_decide_eq_true (by first | (with_reducible assumption) | assumption)
                    have q122 : x22_2 < (l0_4.length : Int) := of_decide_eq_true (by first | (with_reducible assumption) | assumption)
                    obtain ⟨ad122, A122_0, c122_0, e122, hx122_0, hl122_0, hi122_0⟩ := at_T80 HR0_4.out x22_2 p122 q122
                    cases e122
                    replace hx122_0 := (HB.out.cell (World.block_lt_of_cell? w _ hx122_0)).trans hx122_0
                    have HR122_0 := Aside0.mk hi122_0
                    have HC122_0 := Aside0.mk hl122_0
                    clear hi122_0 hl122_0
                    replace p122 := eq_true p122
                    replace q122 := eq_true q122
                    go_wp2_with (first | ((with_reducible refine gate_dst (N := 4) rfl ?_); refine box_event ?hg (N := 4) ?hd (cs := #[.slice none 0 0]) (t := 80) ?hr ?_; (case hd => rfl); (case hg => rfl); (case hr => first | (go_simp; done) | (go_simp; rfl)); intro gb123 hg w18 hbox hb; have n0_ := Aside0.mk (blk_below (g := gb120) (o := .cells #[.int .i64 a0_0, .int .i64 a0_1, .string a0_2, .int .i64 a0_3, .slice (some ad122) l0_4.length c0_4] 48 (0, 0)) (by (with_reducible repeat (first | refine blk_drewN ?_ _ | refine blk_drew ?_ | refine blk_alloc ?_ _)); exact BK120.out) hb); have n1_ := Aside0.mk (below_step (by repeat (first | (with_reducible first | exact HB.out | apply below_alloc | apply pw_below_drewN | apply below_drew1 | refine below_set ?_ GE120.out) | exact HB.out)) hb); have n2_ := Aside0.mk (hbox); have n3_ := Aside0.mk ((by rw [hg]; exact (below_size (by repeat (first | (with_reducible first | exact HB.out | apply below_alloc | apply pw_below_drewN | apply below_drew1 | refine below_set ?_ GE120.out) | exact HB.out))) : w.heap.size ≤ gb123)); have n4_ := Aside0.mk ((by rw [hg]; exact (below_size (by repeat (first | (with_reducible first | exact HB.out | apply below_alloc | apply pw_below_drewN | apply below_drew1 | refine below_set ?_ GE120.out) | exact HB.out))) : w.heap.size ≤ gb123)); have n5_ := Aside0.mk ((by rw [hg]; exact Nat.ne_of_lt (blk_lt (g := gb120) (o := .cells #[.int .i64 a0_0, .int .i64 a0_1, .string a0_2, .int .i64 a0_3, .slice (some ad122) l0_4.length c0_4] 48 (0, 0)) (by (with_reducible repeat (first | refine blk_drewN ?_ _ | refine blk_drew ?_ | refine blk_alloc ?_ _)); exact BK120.out)) : gb120 ≠ gb123)); have n6_ := Aside0.mk ((by rw [hg]; exact Nat.ne_of_gt (blk_lt (g := gb120) (o := .cells #[.int .i64 a0_0, .int .i64 a0_1, .string a0_2, .int .i64 a0_3, .slice (some ad122) l0_4.length c0_4] 48 (0, 0)) (by (with_reducible repeat (first | refine blk_drewN ?_ _ | refine blk_drew ?_ | refine blk_alloc ?_ _)); exact BK120.out)) : gb123 ≠ gb120)); clear BK120; clear HB; have BK120 := n0_; have HB := n1_; have BK123 := n2_; have GW123 := n3_; have GE123 := n4_; have NB120_123 := n5_; have NB123_120 := n6_; clear n0_ n1_ n2_ n3_ n4_ n5_ n6_; clear hb hbox hg; have hnb19 := NB123_120.out; have hnc19 := NB120_123.out; have hcz20_0 : w18.cell? ⟨gb123, 0, none⟩ = some (.slice none 0 0) := (blk_cell BK123.out 0).trans rfl; have hfz20_0 := blk_frozen BK123.out 0))
                    repeat (go_quiet (first | ((with_reducible refine gate_dst (N := 4) rfl ?_); refine box_event ?hg (N := 4) ?hd (cs := #[.slice none 0 0]) (t := 80) ?hr ?_; (case hd => rfl); (case hg => rfl); (case hr => first | (go_simp; done) | (go_simp; rfl)); intro gb123 hg w18 hbox hb; have n0_ := Aside0.mk (blk_below (g := gb120) (o := .cells #[.int .i64 a0_0, .int .i64 a0_1, .string a0_2, .int .i64 a0_3, .slice (some ad122) l0_4.length c0_4] 48 (0, 0)) (by (with_reducible repeat (first | refine blk_drewN ?_ _ | refine blk_drew ?_ | refine blk_alloc ?_ _)); exact BK120.out) hb); have n1_ := Aside0.mk (below_step (by repeat (first | (with_reducible first | exact HB.out | apply below_alloc | apply pw_below_drewN | apply below_drew1 | refine below_set ?_ GE120.out) | exact HB.out)) hb); have n2_ := Aside0.mk (hbox); have n3_ := Aside0.mk ((by rw [hg]; exact (below_size (by repeat (first | (with_reducible first | exact HB.out | apply below_alloc | apply pw_below_drewN | apply below_drew1 | refine below_set ?_ GE120.out) | exact HB.out))) : w.heap.size ≤ gb123)); have n4_ := Aside0.mk ((by rw [hg]; exact (below_size (by repeat (first | (with_reducible first | exact HB.out | apply below_alloc | apply pw_below_drewN | apply below_drew1 | refine below_set ?_ GE120.out) | exact HB.out))) : w.heap.size ≤ gb123)); have n5_ := Aside0.mk ((by rw [hg]; exact Nat.ne_of_lt (blk_lt (g := gb120) (o := .cells #[.int .i64 a0_0, .int .i64 a0_1, .string a0_2, .int .i64 a0_3, .slice (some ad122) l0_4.length c0_4] 48 (0, 0)) (by (with_reducible repeat (first | refine blk_drewN ?_ _ | refine blk_drew ?_ | refine blk_alloc ?_ _)); exact BK120.out)) : gb120 ≠ gb123)); have n6_ := Aside0.mk ((by rw [hg]; exact Nat.ne_of_gt (blk_lt (g := gb120) (o := .cells #[.int .i64 a0_0, .int .i64 a0_1, .string a0_2, .int .i64 a0_3, .slice (some ad122) l0_4.length c0_4] 48 (0, 0)) (by (with_reducible repeat (first | refine blk_drewN ?_ _ | refine blk_drew ?_ | refine blk_alloc ?_ _)); exact BK120.out)) : gb123 ≠ gb120)); clear BK120; clear HB; have BK120 := n0_; have HB := n1_; have BK123 := n2_; have GW123 := n3_; have GE123 := n4_; have NB120_123 := n5_; have NB123_120 := n6_; clear n0_ n1_ n2_ n3_ n4_ n5_ n6_; clear hb hbox hg; have hnb19 := NB123_120.out; have hnc19 := NB120_123.out; have hcz20_0 : w18.cell? ⟨gb123, 0, none⟩ = some (.slice none 0 0) := (blk_cell BK123.out 0).trans rfl; have hfz20_0 := blk_frozen BK123.out 0)); try go_wp2_with (first | ((with_reducible refine gate_dst (N := 4) rfl ?_); refine box_event ?hg (N := 4) ?hd (cs := #[.slice none 0 0]) (t := 80) ?hr ?_; (case hd => rfl); (case hg => rfl); (case hr => first | (go_simp; done) | (go_simp; rfl)); intro gb123 hg w18 hbox hb; have n0_ := Aside0.mk (blk_below (g := gb120) (o := .cells #[.int .i64 a0_0, .int .i64 a0_1, .string a0_2, .int .i64 a0_3, .slice (some ad122) l0_4.length c0_4] 48 (0, 0)) (by (with_reducible repeat (first | refine blk_drewN ?_ _ | refine blk_drew ?_ | refine blk_alloc ?_ _)); exact BK120.out) hb); have n1_ := Aside0.mk (below_step (by repeat (first | (with_reducible first | exact HB.out | apply below_alloc | apply pw_below_drewN | apply below_drew1 | refine below_set ?_ GE120.out) | exact HB.out)) hb); have n2_ := Aside0.mk (hbox); have n3_ := Aside0.mk ((by rw [hg]; exact (below_size (by repeat (first | (with_reducible first | exact HB.out | apply below_alloc | apply pw_below_drewN | apply below_drew1 | refine below_set ?_ GE120.out) | exact HB.out))) : w.heap.size ≤ gb123)); have n4_ := Aside0.mk ((by rw [hg]; exact (below_size (by repeat (first | (with_reducible first | exact HB.out | apply below_alloc | apply pw_below_drewN | apply below_drew1 | refine below_set ?_ GE120.out) | exact HB.out))) : w.heap.size ≤ gb123)); have n5_ := Aside0.mk ((by rw [hg]; exact Nat.ne_of_lt (blk_lt (g := gb120) (o := .cells #[.int .i64 a0_0, .int .i64 a0_1, .string a0_2, .int .i64 a0_3, .slice (some ad122) l0_4.length c0_4] 48 (0, 0)) (by (with_reducible repeat (first | refine blk_drewN ?_ _ | refine blk_drew ?_ | refine blk_alloc ?_ _)); exact BK120.out)) : gb120 ≠ gb123)); have n6_ := Aside0.mk ((by rw [hg]; exact Nat.ne_of_gt (blk_lt (g := gb120) (o := .cells #[.int .i64 a0_0, .int .i64 a0_1, .string a0_2, .int .i64 a0_3, .slice (some ad122) l0_4.length c0_4] 48 (0, 0)) (by (with_reducible repeat (first | refine blk_drewN ?_ _ | refine blk_drew ?_ | refine blk_alloc ?_ _)); exact BK120.out)) : gb123 ≠ gb120)); clear BK120; clear HB; have BK120 := n0_; have HB := n1_; have BK123 := n2_; have GW123 := n3_; have GE123 := n4_; have NB120_123 := n5_; have NB123_120 := n6_; clear n0_ n1_ n2_ n3_ n4_ n5_ n6_; clear hb hbox hg; have hnb19 := NB123_120.out; have hnc19 := NB120_123.out; have hcz20_0 : w18.cell? ⟨gb123, 0, none⟩ = some (.slice none 0 0) := (blk_cell BK123.out 0).trans rfl; have hfz20_0 := blk_frozen BK123.out 0)))
                    go_loopg [33] k2 (fun kq v33 w' => ∃ (x33_3 : Int), v33 = .int .i64 x33_3 ∧ Aside0 (spec_GraphOk.l1 kq l0_4 (l0_4.length : Int) x22_2 ((rd_T80 l0_4 x22_2).f0) (((rd_T80 l0_4 x22_2).f0).length : Int) x33_3 a0_0 a0_1 a0_2 a0_3 l0_4 ((rd_T80 l0_4 x22_2).f0) = some r) ∧ Aside0 (kq ≤ k2) ∧ Aside0 (w'.heap[gb120]? = some (.cells #[.int .i64 a0_0, .int .i64 a0_1, .string a0_2, .int .i64 a0_3, (.slice (some ad122) l0_4.length c0_4)] 48 (0, 0))) ∧ Aside0 (w'.heap[gb123]? = some (.cells #[(.slice A122_0 ((rd_T80 l0_4 x22_2).f0).length c122_0)] 80 (0, 0))) ∧ Aside0 (Below w.heap.size w w'))
                    case atStart => exact ⟨(0), (by first | rfl | (simp; done) | (simp [*]; done)), H', ⟨Nat.le_refl _⟩, ⟨by (with_reducible repeat (first | refine blk_drewN ?_ _ | refine blk_drew ?_ | refine blk_alloc ?_ _)); refine blk_far ?_ NB120_123.out _; (with_reducible repeat (first | refine blk_drewN ?_ _ | refine blk_drew ?_ | refine blk_alloc ?_ _)); exact BK120.out⟩, ⟨by (with_reducible repeat (first | refine blk_drewN ?_ _ | refine blk_drew ?_ | refine blk_alloc ?_ _)); refine blk_put (cs := #[.slice none 0 0]) ?_ 0 _ rfl; (with_reducible repeat (first | refine blk_drewN ?_ _ | refine blk_drew ?_ | refine blk_alloc ?_ _)); exact BK123.out⟩, ⟨by repeat (first | (with_reducible first | exact HB.out | apply below_alloc | apply pw_below_drewN | apply below_drew1 | refine below_set ?_ GE120.out | refine below_set ?_ GE123.out) | exact HB.out)⟩⟩
                    case round =>
                      clear H'
                      try clear c1
                      try clear p1
                      try clear q1
                      try clear hx1
                      try clear c2
                      try clear p2
                      try clear c4
                      try clear c4b0
                      try clear c4b1
                      try clear c9
                      try clear c11
                      try clear c11b0
                      try clear c12
                      try clear c12b0
                      try clear p12
                      try clear q12
                      try clear hx12
                      try clear c13
                      try clear c13b0
                      try clear c14
                      try clear c14b0
                      try clear c14b1
                      try clear c16
                      try clear c19
                      try clear hcz10_0
                      try clear hcz10_1
                      try clear hcz10_2
                      try clear hcz10_3
                      try clear hcz10_4
                      try clear hcz17_0
                      try clear hcz20_0
                      try clear hcz5_0
                      try clear hcz5_1
                      try clear hcz5_2
                      try clear hcz5_3
                      try clear hcz5_4
                      try clear hcz7_0
                      try clear hcz7_1
                      try clear hcz7_2
                      try clear hcz7_3
                      try clear hcz7_4
                      try clear hfz10_0
                      try clear hfz10_1
                      try clear hfz10_2
                      try clear hfz10_3
                      try clear hfz10_4
                      try clear hfz17_0
                      try clear hfz20_0
                      try clear hfz5_0
                      try clear hfz5_1
                      try clear hfz5_2
                      try clear hfz5_3
                      try clear hfz5_4
                      try clear hfz7_0
                      try clear hfz7_1
                      try clear hfz7_2
                      try clear hfz7_3
                      try clear hfz7_4
                      try clear hx122_0
                      try clear p122
                      try clear p2
                      try clear q122
                      obtain ⟨x33_3, rfl, HA, HK3, BK120, BK123, HB⟩ := hrel
                      cases gk with
                      | zero => exact absurd HA.out (by simp [spec_GraphOk.l1])
                      | succ k3 =>
                        have H := HA.out
                        clear HA
                        simp only [spec_GraphOk.l1] at H
                        by_cases c21 : x33_3 < (((rd_T80 l0_4 x22_2).f0).length : Int)
                        · rw [if_pos c21] at H
                          have c21b0 : decide (x33_3 < (((rd_T80 l0_4 x22_2).f0).length : Int)) = true := decide_eq_true c21
                          clear c21
                          by_cases c22 : 0 ≤ x33_3
                          · rw [if_pos c22] at H
                            have c22b0 : decide (0 ≤ x33_3) = true := decide_eq_true c22
                            clear c22
                            by_cases c23 : x33_3 < (((rd_T80 l0_4 x22_2).f0).length : Int)
                            · rw [if_pos c23] at H
                              have c23b0 : decide (x33_3 < (((rd_T80 l0_4 x22_2).f0).length : Int)) = true := decide_eq_true c23
                              clear c23
                              have HC24 := Aside0.mk H
                              clear H
                              have p124 : 0 ≤ (x33_3 : Int) := of_decide_eq_true (by first | (with_reducible assumption) | assumption)
                              have q124 : x33_3 < (((rd_T80 l0_4 x22_2).f0).length : Int) := of_decide_eq_true (by first | (with_reducible assumption) | assumption)
                              obtain ⟨ad124, e124, hx124_0, hx124_1, hx124_2, hx124_3, hx124_4, hx124_5, hx124_6, hx124_7⟩ := at_T82 HR122_0.out x33_3 p124 q124
                              cases e124
                              replace hx124_0 := (HB.out.cell (World.block_lt_of_cell? w _ hx124_0)).trans hx124_0
                              replace hx124_1 := (HB.out.cell (World.block_lt_of_cell? w _ hx124_1)).trans hx124_1
                              replace hx124_2 := (HB.out.cell (World.block_lt_of_cell? w _ hx124_2)).trans hx124_2
                              replace hx124_3 := (HB.out.cell (World.block_lt_of_cell? w _ hx124_3)).trans hx124_3
                              replace hx124_4 := (HB.out.cell (World.block_lt_of_cell? w _ hx124_4)).trans hx124_4
                              replace hx124_5 := (HB.out.cell (World.block_lt_of_cell? w _ hx124_5)).trans hx124_5
                              replace hx124_6 := (HB.out.cell (World.block_lt_of_cell? w _ hx124_6)).trans hx124_6
                              replace hx124_7 := (HB.out.cell (World.block_lt_of_cell? w _ hx124_7)).trans hx124_7
                              replace p124 := eq_true p124
                              replace q124 := eq_true q124
                              go_upto_region 11 with (first | ((with_reducible refine gate_dst (N := 6) rfl ?_); refine box_event ?hg (N := 6) ?hd (cs := #[.int .i64 0, .int .i64 0, .string (⟨#[]⟩ : ByteArray), .int .i64 0, .int .i64 0, .int .i64 0, .string (⟨#[]⟩ : ByteArray), .int .i64 0]) (t := 82) ?hr ?_; (case hd => rfl); (case hg => rfl); (case hr => first | (go_simp; done) | (go_simp; rfl)); intro gb125 hg w25 hbox hb; have n0_ := Aside0.mk (blk_below (g := gb120) (o := .cells #[.int .i64 a0_0, .int .i64 a0_1, .string a0_2, .int .i64 a0_3, .slice (some ad122) l0_4.length c0_4] 48 (0, 0)) (by (with_reducible repeat (first | refine blk_drewN ?_ _ | refine blk_drew ?_ | refine blk_alloc ?_ _)); exact BK120.out) hb); have n1_ := Aside0.mk (blk_below (g := gb123) (o := .cells #[.slice (some ad124) ((rd_T80 l0_4 x22_2).f0).length c122_0] 80 (0, 0)) (by (with_reducible repeat (first | refine blk_drewN ?_ _ | refine blk_drew ?_ | refine blk_alloc ?_ _)); exact BK123.out) hb); have n2_ := Aside0.mk (below_step (by repeat (first | (with_reducible first | exact HB.out | apply below_alloc | apply pw_below_drewN | apply below_drew1 | refine below_set ?_ GE120.out | refine below_set ?_ GE123.out) | exact HB.out)) hb); have n3_ := Aside0.mk (hbox); have n4_ := Aside0.mk ((by rw [hg]; exact (below_size (by repeat (first | (with_reducible first | exact HB.out | apply below_alloc | apply pw_below_drewN | apply below_drew1 | refine below_set ?_ GE120.out | refine below_set ?_ GE123.out) | exact HB.out))) : w.heap.size ≤ gb125)); have n5_ := Aside0.mk ((by rw [hg]; exact (below_size (by repeat (first | (with_reducible first | exact HB.out | apply below_alloc | apply pw_below_drewN | apply below_drew1 | refine below_set ?_ GE120.out | refine below_set ?_ GE123.out) | exact HB.out))) : w.heap.size ≤ gb125)); have n6_ := Aside0.mk ((by rw [hg]; exact Nat.ne_of_lt (blk_lt (g := gb120) (o := .cells #[.int .i64 a0_0, .int .i64 a0_1, .string a0_2, .int .i64 a0_3, .slice (some ad122) l0_4.length c0_4] 48 (0, 0)) (by (with_reducible repeat (first | refine blk_drewN ?_ _ | refine blk_drew ?_ | refine blk_alloc ?_ _)); exact BK120.out)) : gb120 ≠ gb125)); have n7_ := Aside0.mk ((by rw [hg]; exact Nat.ne_of_gt (blk_lt (g := gb120) (o := .cells #[.int .i64 a0_0, .int .i64 a0_1, .string a0_2, .int .i64 a0_3, .slice (some ad122) l0_4.length c0_4] 48 (0, 0)) (by (with_reducible repeat (first | refine blk_drewN ?_ _ | refine blk_drew ?_ | refine blk_alloc ?_ _)); exact BK120.out)) : gb125 ≠ gb120)); have n8_ := Aside0.mk ((by rw [hg]; exact Nat.ne_of_lt (blk_lt (g := gb123) (o := .cells #[.slice (some ad124) ((rd_T80 l0_4 x22_2).f0).length c122_0] 80 (0, 0)) (by (with_reducible repeat (first | refine blk_drewN ?_ _ | refine blk_drew ?_ | refine blk_alloc ?_ _)); exact BK123.out)) : gb123 ≠ gb125)); have n9_ := Aside0.mk ((by rw [hg]; exact Nat.ne_of_gt (blk_lt (g := gb123) (o := .cells #[.slice (some ad124) ((rd_T80 l0_4 x22_2).f0).length c122_0] 80 (0, 0)) (by (with_reducible repeat (first | refine blk_drewN ?_ _ | refine blk_drew ?_ | refine blk_alloc ?_ _)); exact BK123.out)) : gb125 ≠ gb123)); clear BK120; clear BK123; clear HB; have BK120 := n0_; have BK123 := n1_; have HB := n2_; have BK125 := n3_; have GW125 := n4_; have GE125 := n5_; have NB120_125 := n6_; have NB125_120 := n7_; have NB123_125 := n8_; have NB125_123 := n9_; clear n0_ n1_ n2_ n3_ n4_ n5_ n6_ n7_ n8_ n9_; clear hb hbox hg; have hnb26 := NB125_120.out; have hnc26 := NB120_125.out; have hnb27 := NB125_123.out; have hnc27 := NB123_125.out; have hcz28_0 : w25.cell? ⟨gb125, 0, none⟩ = some (.int .i64 0) := (blk_cell BK125.out 0).trans rfl; have hcz28_1 : w25.cell? ⟨gb125, 1, none⟩ = some (.int .i64 0) := (blk_cell BK125.out 1).trans rfl; have hcz28_2 : w25.cell? ⟨gb125, 2, none⟩ = some (.string (⟨#[]⟩ : ByteArray)) := (blk_cell BK125.out 2).trans rfl; have hcz28_3 : w25.cell? ⟨gb125, 3, none⟩ = some (.int .i64 0) := (blk_cell BK125.out 3).trans rfl; have hcz28_4 : w25.cell? ⟨gb125, 4, none⟩ = some (.int .i64 0) := (blk_cell BK125.out 4).trans rfl; have hcz28_5 : w25.cell? ⟨gb125, 5, none⟩ = some (.int .i64 0) := (blk_cell BK125.out 5).trans rfl; have hcz28_6 : w25.cell? ⟨gb125, 6, none⟩ = some (.string (⟨#[]⟩ : ByteArray)) := (blk_cell BK125.out 6).trans rfl; have hcz28_7 : w25.cell? ⟨gb125, 7, none⟩ = some (.int .i64 0) := (blk_cell BK125.out 7).trans rfl; have hfz28_0 := blk_frozen BK125.out 0; have hfz28_1 := blk_frozen BK125.out 1; have hfz28_2 := blk_frozen BK125.out 2; have hfz28_3 := blk_frozen BK125.out 3; have hfz28_4 := blk_frozen BK125.out 4; have hfz28_5 := blk_frozen BK125.out 5; have hfz28_6 := blk_frozen BK125.out 6; have hfz28_7 := blk_frozen BK125.out 7))
                              repeat (go_quiet (first | ((with_reducible refine gate_dst (N := 6) rfl ?_); refine box_event ?hg (N := 6) ?hd (cs := #[.int .i64 0, .int .i64 0, .string (⟨#[]⟩ : ByteArray), .int .i64 0, .int .i64 0, .int .i64 0, .string (⟨#[]⟩ : ByteArray), .int .i64 0]) (t := 82) ?hr ?_; (case hd => rfl); (case hg => rfl); (case hr => first | (go_simp; done) | (go_simp; rfl)); intro gb125 hg w25 hbox hb; have n0_ := Aside0.mk (blk_below (g := gb120) (o := .cells #[.int .i64 a0_0, .int .i64 a0_1, .string a0_2, .int .i64 a0_3, .slice (some ad122) l0_4.length c0_4] 48 (0, 0)) (by (with_reducible repeat (first | refine blk_drewN ?_ _ | refine blk_drew ?_ | refine blk_alloc ?_ _)); exact BK120.out) hb); have n1_ := Aside0.mk (blk_below (g := gb123) (o := .cells #[.slice (some ad124) ((rd_T80 l0_4 x22_2).f0).length c122_0] 80 (0, 0)) (by (with_reducible repeat (first | refine blk_drewN ?_ _ | refine blk_drew ?_ | refine blk_alloc ?_ _)); exact BK123.out) hb); have n2_ := Aside0.mk (below_step (by repeat (first | (with_reducible first | exact HB.out | apply below_alloc | apply pw_below_drewN | apply below_drew1 | refine below_set ?_ GE120.out | refine below_set ?_ GE123.out) | exact HB.out)) hb); have n3_ := Aside0.mk (hbox); have n4_ := Aside0.mk ((by rw [hg]; exact (below_size (by repeat (first | (with_reducible first | exact HB.out | apply below_alloc | apply pw_below_drewN | apply below_drew1 | refine below_set ?_ GE120.out | refine below_set ?_ GE123.out) | exact HB.out))) : w.heap.size ≤ gb125)); have n5_ := Aside0.mk ((by rw [hg]; exact (below_size (by repeat (first | (with_reducible first | exact HB.out | apply below_alloc | apply pw_below_drewN | apply below_drew1 | refine below_set ?_ GE120.out | refine below_set ?_ GE123.out) | exact HB.out))) : w.heap.size ≤ gb125)); have n6_ := Aside0.mk ((by rw [hg]; exact Nat.ne_of_lt (blk_lt (g := gb120) (o := .cells #[.int .i64 a0_0, .int .i64 a0_1, .string a0_2, .int .i64 a0_3, .slice (some ad122) l0_4.length c0_4] 48 (0, 0)) (by (with_reducible repeat (first | refine blk_drewN ?_ _ | refine blk_drew ?_ | refine blk_alloc ?_ _)); exact BK120.out)) : gb120 ≠ gb125)); have n7_ := Aside0.mk ((by rw [hg]; exact Nat.ne_of_gt (blk_lt (g := gb120) (o := .cells #[.int .i64 a0_0, .int .i64 a0_1, .string a0_2, .int .i64 a0_3, .slice (some ad122) l0_4.length c0_4] 48 (0, 0)) (by (with_reducible repeat (first | refine blk_drewN ?_ _ | refine blk_drew ?_ | refine blk_alloc ?_ _)); exact BK120.out)) : gb125 ≠ gb120)); have n8_ := Aside0.mk ((by rw [hg]; exact Nat.ne_of_lt (blk_lt (g := gb123) (o := .cells #[.slice (some ad124) ((rd_T80 l0_4 x22_2).f0).length c122_0] 80 (0, 0)) (by (with_reducible repeat (first | refine blk_drewN ?_ _ | refine blk_drew ?_ | refine blk_alloc ?_ _)); exact BK123.out)) : gb123 ≠ gb125)); have n9_ := Aside0.mk ((by rw [hg]; exact Nat.ne_of_gt (blk_lt (g := gb123) (o := .cells #[.slice (some ad124) ((rd_T80 l0_4 x22_2).f0).length c122_0] 80 (0, 0)) (by (with_reducible repeat (first | refine blk_drewN ?_ _ | refine blk_drew ?_ | refine blk_alloc ?_ _)); exact BK123.out)) : gb125 ≠ gb123)); clear BK120; clear BK123; clear HB; have BK120 := n0_; have BK123 := n1_; have HB := n2_; have BK125 := n3_; have GW125 := n4_; have GE125 := n5_; have NB120_125 := n6_; have NB125_120 := n7_; have NB123_125 := n8_; have NB125_123 := n9_; clear n0_ n1_ n2_ n3_ n4_ n5_ n6_ n7_ n8_ n9_; clear hb hbox hg; have hnb26 := NB125_120.out; have hnc26 := NB120_125.out; have hnb27 := NB125_123.out; have hnc27 := NB123_125.out; have hcz28_0 : w25.cell? ⟨gb125, 0, none⟩ = some (.int .i64 0) := (blk_cell BK125.out 0).trans rfl; have hcz28_1 : w25.cell? ⟨gb125, 1, none⟩ = some (.int .i64 0) := (blk_cell BK125.out 1).trans rfl; have hcz28_2 : w25.cell? ⟨gb125, 2, none⟩ = some (.string (⟨#[]⟩ : ByteArray)) := (blk_cell BK125.out 2).trans rfl; have hcz28_3 : w25.cell? ⟨gb125, 3, none⟩ = some (.int .i64 0) := (blk_cell BK125.out 3).trans rfl; have hcz28_4 : w25.cell? ⟨gb125, 4, none⟩ = some (.int .i64 0) := (blk_cell BK125.out 4).trans rfl; have hcz28_5 : w25.cell? ⟨gb125, 5, none⟩ = some (.int .i64 0) := (blk_cell BK125.out 5).trans rfl; have hcz28_6 : w25.cell? ⟨gb125, 6, none⟩ = some (.string (⟨#[]⟩ : ByteArray)) := (blk_cell BK125.out 6).trans rfl; have hcz28_7 : w25.cell? ⟨gb125, 7, none⟩ = some (.int .i64 0) := (blk_cell BK125.out 7).trans rfl; have hfz28_0 := blk_frozen BK125.out 0; have hfz28_1 := blk_frozen BK125.out 1; have hfz28_2 := blk_frozen BK125.out 2; have hfz28_3 := blk_frozen BK125.out 3; have hfz28_4 := blk_frozen BK125.out 4; have hfz28_5 := blk_frozen BK125.out 5; have hfz28_6 := blk_frozen BK125.out 6; have hfz28_7 := blk_frozen BK125.out 7)); go_upto_region 11 with (first | ((with_reducible refine gate_dst (N := 6) rfl ?_); refine box_event ?hg (N := 6) ?hd (cs := #[.int .i64 0, .int .i64 0, .string (⟨#[]⟩ : ByteArray), .int .i64 0, .int .i64 0, .int .i64 0, .string (⟨#[]⟩ : ByteArray), .int .i64 0]) (t := 82) ?hr ?_; (case hd => rfl); (case hg => rfl); (case hr => first | (go_simp; done) | (go_simp; rfl)); intro gb125 hg w25 hbox hb; have n0_ := Aside0.mk (blk_below (g := gb120) (o := .cells #[.int .i64 a0_0, .int .i64 a0_1, .string a0_2, .int .i64 a0_3, .slice (some ad122) l0_4.length c0_4] 48 (0, 0)) (by (with_reducible repeat (first | refine blk_drewN ?_ _ | refine blk_drew ?_ | refine blk_alloc ?_ _)); exact BK120.out) hb); have n1_ := Aside0.mk (blk_below (g := gb123) (o := .cells #[.slice (some ad124) ((rd_T80 l0_4 x22_2).f0).length c122_0] 80 (0, 0)) (by (with_reducible repeat (first | refine blk_drewN ?_ _ | refine blk_drew ?_ | refine blk_alloc ?_ _)); exact BK123.out) hb); have n2_ := Aside0.mk (below_step (by repeat (first | (with_reducible first | exact HB.out | apply below_alloc | apply pw_below_drewN | apply below_drew1 | refine below_set ?_ GE120.out | refine below_set ?_ GE123.out) | exact HB.out)) hb); have n3_ := Aside0.mk (hbox); have n4_ := Aside0.mk ((by rw [hg]; exact (below_size (by repeat (first | (with_reducible first | exact HB.out | apply below_alloc | apply pw_below_drewN | apply below_drew1 | refine below_set ?_ GE120.out | refine below_set ?_ GE123.out) | exact HB.out))) : w.heap.size ≤ gb125)); have n5_ := Aside0.mk ((by rw [hg]; exact (below_size (by repeat (first | (with_reducible first | exact HB.out | apply below_alloc | apply pw_below_drewN | apply below_drew1 | refine below_set ?_ GE120.out | refine below_set ?_ GE123.out) | exact HB.out))) : w.heap.size ≤ gb125)); have n6_ := Aside0.mk ((by rw [hg]; exact Nat.ne_of_lt (blk_lt (g := gb120) (o := .cells #[.int .i64 a0_0, .int .i64 a0_1, .string a0_2, .int .i64 a0_3, .slice (some ad122) l0_4.length c0_4] 48 (0, 0)) (by (with_reducible repeat (first | refine blk_drewN ?_ _ | refine blk_drew ?_ | refine blk_alloc ?_ _)); exact BK120.out)) : gb120 ≠ gb125)); have n7_ := Aside0.mk ((by rw [hg]; exact Nat.ne_of_gt (blk_lt (g := gb120) (o := .cells #[.int .i64 a0_0, .int .i64 a0_1, .string a0_2, .int .i64 a0_3, .slice (some ad122) l0_4.length c0_4] 48 (0, 0)) (by (with_reducible repeat (first | refine blk_drewN ?_ _ | refine blk_drew ?_ | refine blk_alloc ?_ _)); exact BK120.out)) : gb125 ≠ gb120)); have n8_ := Aside0.mk ((by rw [hg]; exact Nat.ne_of_lt (blk_lt (g := gb123) (o := .cells #[.slice (some ad124) ((rd_T80 l0_4 x22_2).f0).length c122_0] 80 (0, 0)) (by (with_reducible repeat (first | refine blk_drewN ?_ _ | refine blk_drew ?_ | refine blk_alloc ?_ _)); exact BK123.out)) : gb123 ≠ gb125)); have n9_ := Aside0.mk ((by rw [hg]; exact Nat.ne_of_gt (blk_lt (g := gb123) (o := .cells #[.slice (some ad124) ((rd_T80 l0_4 x22_2).f0).length c122_0] 80 (0, 0)) (by (with_reducible repeat (first | refine blk_drewN ?_ _ | refine blk_drew ?_ | refine blk_alloc ?_ _)); exact BK123.out)) : gb125 ≠ gb123)); clear BK120; clear BK123; clear HB; have BK120 := n0_; have BK123 := n1_; have HB := n2_; have BK125 := n3_; have GW125 := n4_; have GE125 := n5_; have NB120_125 := n6_; have NB125_120 := n7_; have NB123_125 := n8_; have NB125_123 := n9_; clear n0_ n1_ n2_ n3_ n4_ n5_ n6_ n7_ n8_ n9_; clear hb hbox hg; have hnb26 := NB125_120.out; have hnc26 := NB120_125.out; have hnb27 := NB125_123.out; have hnc27 := NB123_125.out; have hcz28_0 : w25.cell? ⟨gb125, 0, none⟩ = some (.int .i64 0) := (blk_cell BK125.out 0).trans rfl; have hcz28_1 : w25.cell? ⟨gb125, 1, none⟩ = some (.int .i64 0) := (blk_cell BK125.out 1).trans rfl; have hcz28_2 : w25.cell? ⟨gb125, 2, none⟩ = some (.string (⟨#[]⟩ : ByteArray)) := (blk_cell BK125.out 2).trans rfl; have hcz28_3 : w25.cell? ⟨gb125, 3, none⟩ = some (.int .i64 0) := (blk_cell BK125.out 3).trans rfl; have hcz28_4 : w25.cell? ⟨gb125, 4, none⟩ = some (.int .i64 0) := (blk_cell BK125.out 4).trans rfl; have hcz28_5 : w25.cell? ⟨gb125, 5, none⟩ = some (.int .i64 0) := (blk_cell BK125.out 5).trans rfl; have hcz28_6 : w25.cell? ⟨gb125, 6, none⟩ = some (.string (⟨#[]⟩ : ByteArray)) := (blk_cell BK125.out 6).trans rfl; have hcz28_7 : w25.cell? ⟨gb125, 7, none⟩ = some (.int .i64 0) := (blk_cell BK125.out 7).trans rfl; have hfz28_0 := blk_frozen BK125.out 0; have hfz28_1 := blk_frozen BK125.out 1; have hfz28_2 := blk_frozen BK125.out 2; have hfz28_3 := blk_frozen BK125.out 3; have hfz28_4 := blk_frozen BK125.out 4; have hfz28_5 := blk_frozen BK125.out 5; have hfz28_6 := blk_frozen BK125.out 6; have hfz28_7 := blk_frozen BK125.out 7)))
                              (try simp only [Act.put, List.setIfInBounds_toArray, List.set_cons_zero, List.set_cons_succ])
                              go_cut [54] (fun v54 wc => ∃ (kq : Nat) (x54_23 : Bool), v54 = .bool x54_23 ∧ Aside0 (spec_GraphOk.j3 kq x33_3 l0_4 (l0_4.length : Int) x22_2 ((rd_T80 l0_4 x22_2).f0) (((rd_T80 l0_4 x22_2).f0).length : Int) x33_3 x54_23 a0_0 a0_1 a0_2 a0_3 l0_4 ((rd_T80 l0_4 x22_2).f0) ((rd_T82 ((rd_T80 l0_4 x22_2).f0) x33_3).f0.f0) ((rd_T82 ((rd_T80 l0_4 x22_2).f0) x33_3).f0.f1) ((rd_T82 ((rd_T80 l0_4 x22_2).f0) x33_3).f0.f2) ((rd_T82 ((rd_T80 l0_4 x22_2).f0) x33_3).f0.f3) ((rd_T82 ((rd_T80 l0_4 x22_2).f0) x33_3).f1.f0) ((rd_T82 ((rd_T80 l0_4 x22_2).f0) x33_3).f1.f1) ((rd_T82 ((rd_T80 l0_4 x22_2).f0) x33_3).f1.f2) ((rd_T82 ((rd_T80 l0_4 x22_2).f0) x33_3).f1.f3) = some r) ∧ Aside0 (kq ≤ k3) ∧ Aside0 (wc.heap[gb120]? = some (.cells #[.int .i64 a0_0, .int .i64 a0_1, .string a0_2, .int .i64 a0_3, (.slice (some ad122) l0_4.length c0_4)] 48 (0, 0))) ∧ Aside0 (wc.heap[gb123]? = some (.cells #[(.slice (some ad124) ((rd_T80 l0_4 x22_2).f0).length c122_0)] 80 (0, 0))) ∧ Aside0 (wc.heap[gb125]? = some (.cells #[.int .i64 ((rd_T82 ((rd_T80 l0_4 x22_2).f0) x33_3).f0.f0), .int .i64 ((rd_T82 ((rd_T80 l0_4 x22_2).f0) x33_3).f0.f1), .string ((rd_T82 ((rd_T80 l0_4 x22_2).f0) x33_3).f0.f2), .int .i64 ((rd_T82 ((rd_T80 l0_4 x22_2).f0) x33_3).f0.f3), .int .i64 ((rd_T82 ((rd_T80 l0_4 x22_2).f0) x33_3).f1.f0), .int .i64 ((rd_T82 ((rd_T80 l0_4 x22_2).f0) x33_3).f1.f1), .string ((rd_T82 ((rd_T80 l0_4 x22_2).f0) x33_3).f1.f2), .int .i64 ((rd_T82 ((rd_T80 l0_4 x22_2).f0) x33_3).f1.f3)] 82 (0, 0))) ∧ Aside0 (Below w.heap.size w wc))
                              case first =>
                                have H := HC24.out
                                clear HC24
                                replace H := Option.bind_eq_some_iff.mp H
                                obtain ⟨t126, A290, H⟩ := H
                                replace H : (if t126 = true then ((spec_l2val.f a0_0 a0_1 a0_2 a0_3 l0_4 ((rd_T82 ((rd_T80 l0_4 x22_2).f0) x33_3).f1.f0) ((rd_T82 ((rd_T80 l0_4 x22_2).f0) x33_3).f1.f1) ((rd_T82 ((rd_T80 l0_4 x22_2).f0) x33_3).f1.f2) ((rd_T82 ((rd_T80 l0_4 x22_2).f0) x33_3).f1.f3)).bind fun t127 => (if t127 = true then (spec_GraphOk.j3 k3 x33_3 l0_4 (l0_4.length : Int) x22_2 ((rd_T80 l0_4 x22_2).f0) (((rd_T80 l0_4 x22_2).f0).length : Int) x33_3 (((rd_T82 ((rd_T80 l0_4 x22_2).f0) x33_3).f1.f0) == 0) a0_0 a0_1 a0_2 a0_3 l0_4 ((rd_T80 l0_4 x22_2).f0) ((rd_T82 ((rd_T80 l0_4 x22_2).f0) x33_3).f0.f0) ((rd_T82 ((rd_T80 l0_4 x22_2).f0) x33_3).f0.f1) ((rd_T82 ((rd_T80 l0_4 x22_2).f0) x33_3).f0.f2) ((rd_T82 ((rd_T80 l0_4 x22_2).f0) x33_3).f0.f3) ((rd_T82 ((rd_T80 l0_4 x22_2).f0) x33_3).f1.f0) ((rd_T82 ((rd_T80 l0_4 x22_2).f0) x33_3).f1.f1) ((rd_T82 ((rd_T80 l0_4 x22_2).f0) x33_3).f1.f2) ((rd_T82 ((rd_T80 l0_4 x22_2).f0) x33_3).f1.f3)) else (spec_GraphOk.j3 k3 x33_3 l0_4 (l0_4.length : Int) x22_2 ((rd_T80 l0_4 x22_2).f0) (((rd_T80 l0_4 x22_2).f0).length : Int) x33_3 true a0_0 a0_1 a0_2 a0_3 l0_4 ((rd_T80 l0_4 x22_2).f0) ((rd_T82 ((rd_T80 l0_4 x22_2).f0) x33_3).f0.f0) ((rd_T82 ((rd_T80 l0_4 x22_2).f0) x33_3).f0.f1) ((rd_T82 ((rd_T80 l0_4 x22_2).f0) x33_3).f0.f2) ((rd_T82 ((rd_T80 l0_4 x22_2).f0) x33_3).f0.f3) ((rd_T82 ((rd_T80 l0_4 x22_2).f0) x33_3).f1.f0) ((rd_T82 ((rd_T80 l0_4 x22_2).f0) x33_3).f1.f1) ((rd_T82 ((rd_T80 l0_4 x22_2).f0) x33_3).f1.f2) ((rd_T82 ((rd_T80 l0_4 x22_2).f0) x33_3).f1.f3)))) else (spec_GraphOk.j3 k3 x33_3 l0_4 (l0_4.length : Int) x22_2 ((rd_T80 l0_4 x22_2).f0) (((rd_T80 l0_4 x22_2).f0).length : Int) x33_3 true a0_0 a0_1 a0_2 a0_3 l0_4 ((rd_T80 l0_4 x22_2).f0) ((rd_T82 ((rd_T80 l0_4 x22_2).f0) x33_3).f0.f0) ((rd_T82 ((rd_T80 l0_4 x22_2).f0) x33_3).f0.f1) ((rd_T82 ((rd_T80 l0_4 x22_2).f0) x33_3).f0.f2) ((rd_T82 ((rd_T80 l0_4 x22_2).f0) x33_3).f0.f3) ((rd_T82 ((rd_T80 l0_4 x22_2).f0) x33_3).f1.f0) ((rd_T82 ((rd_T80 l0_4 x22_2).f0) x33_3).f1.f1) ((rd_T82 ((rd_T80 l0_4 x22_2).f0) x33_3).f1.f2) ((rd_T82 ((rd_T80 l0_4 x22_2).f0) x33_3).f1.f3))) = some r := H
                                have A29 := Aside0.mk A290
                                clear A290
                                by_cases c30 : t126 = true
                                · subst c30
                                  have H1 : ((spec_l2val.f a0_0 a0_1 a0_2 a0_3 l0_4 ((rd_T82 ((rd_T80 l0_4 x22_2).f0) x33_3).f1.f0) ((rd_T82 ((rd_T80 l0_4 x22_2).f0) x33_3).f1.f1) ((rd_T82 ((rd_T80 l0_4 x22_2).f0) x33_3).f1.f2) ((rd_T82 ((rd_T80 l0_4 x22_2).f0) x33_3).f1.f3)).bind fun t127 => (if t127 = true then (spec_GraphOk.j3 k3 x33_3 l0_4 (l0_4.length : Int) x22_2 ((rd_T80 l0_4 x22_2).f0) (((rd_T80 l0_4 x22_2).f0).length : Int) x33_3 (((rd_T82 ((rd_T80 l0_4 x22_2).f0) x33_3).f1.f0) == 0) a0_0 a0_1 a0_2 a0_3 l0_4 ((rd_T80 l0_4 x22_2).f0) ((rd_T82 ((rd_T80 l0_4 x22_2).f0) x33_3).f0.f0) ((rd_T82 ((rd_T80 l0_4 x22_2).f0) x33_3).f0.f1) ((rd_T82 ((rd_T80 l0_4 x22_2).f0) x33_3).f0.f2) ((rd_T82 ((rd_T80 l0_4 x22_2).f0) x33_3).f0.f3) ((rd_T82 ((rd_T80 l0_4 x22_2).f0) x33_3).f1.f0) ((rd_T82 ((rd_T80 l0_4 x22_2).f0) x33_3).f1.f1) ((rd_T82 ((rd_T80 l0_4 x22_2).f0) x33_3).f1.f2) ((rd_T82 ((rd_T80 l0_4 x22_2).f0) x33_3).f1.f3)) else (spec_GraphOk.j3 k3 x33_3 l0_4 (l0_4.length : Int) x22_2 ((rd_T80 l0_4 x22_2).f0) (((rd_T80 l0_4 x22_2).f0).length : Int) x33_3 true a0_0 a0_1 a0_2 a0_3 l0_4 ((rd_T80 l0_4 x22_2).f0) ((rd_T82 ((rd_T80 l0_4 x22_2).f0) x33_3).f0.f0) ((rd_T82 ((rd_T80 l0_4 x22_2).f0) x33_3).f0.f1) ((rd_T82 ((rd_T80 l0_4 x22_2).f0) x33_3).f0.f2) ((rd_T82 ((rd_T80 l0_4 x22_2).f0) x33_3).f0.f3) ((rd_T82 ((rd_T80 l0_4 x22_2).f0) x33_3).f1.f0) ((rd_T82 ((rd_T80 l0_4 x22_2).f0) x33_3).f1.f1) ((rd_T82 ((rd_T80 l0_4 x22_2).f0) x33_3).f1.f2) ((rd_T82 ((rd_T80 l0_4 x22_2).f0) x33_3).f1.f3)))) = some r := by rw [if_pos rfl] at H; exact H
                                  clear H
                                  have H := H1
                                  clear H1
                                  replace H := Option.bind_eq_some_iff.mp H
                                  obtain ⟨t127, A310, H⟩ := H
                                  replace H : (if t127 = true then (spec_GraphOk.j3 k3 x33_3 l0_4 (l0_4.length : Int) x22_2 ((rd_T80 l0_4 x22_2).f0) (((rd_T80 l0_4 x22_2).f0).length : Int) x33_3 (((rd_T82 ((rd_T80 l0_4 x22_2).f0) x33_3).f1.f0) == 0) a0_0 a0_1 a0_2 a0_3 l0_4 ((rd_T80 l0_4 x22_2).f0) ((rd_T82 ((rd_T80 l0_4 x22_2).f0) x33_3).f0.f0) ((rd_T82 ((rd_T80 l0_4 x22_2).f0) x33_3).f0.f1) ((rd_T82 ((rd_T80 l0_4 x22_2).f0) x33_3).f0.f2) ((rd_T82 ((rd_T80 l0_4 x22_2).f0) x33_3).f0.f3) ((rd_T82 ((rd_T80 l0_4 x22_2).f0) x33_3).f1.f0) ((rd_T82 ((rd_T80 l0_4 x22_2).f0) x33_3).f1.f1) ((rd_T82 ((rd_T80 l0_4 x22_2).f0) x33_3).f1.f2) ((rd_T82 ((rd_T80 l0_4 x22_2).f0) x33_3).f1.f3)) else (spec_GraphOk.j3 k3 x33_3 l0_4 (l0_4.length : Int) x22_2 ((rd_T80 l0_4 x22_2).f0) (((rd_T80 l0_4 x22_2).f0).length : Int) x33_3 true a0_0 a0_1 a0_2 a0_3 l0_4 ((rd_T80 l0_4 x22_2).f0) ((rd_T82 ((rd_T80 l0_4 x22_2).f0) x33_3).f0.f0) ((rd_T82 ((rd_T80 l0_4 x22_2).f0) x33_3).f0.f1) ((rd_T82 ((rd_T80 l0_4 x22_2).f0) x33_3).f0.f2) ((rd_T82 ((rd_T80 l0_4 x22_2).f0) x33_3).f0.f3) ((rd_T82 ((rd_T80 l0_4 x22_2).f0) x33_3).f1.f0) ((rd_T82 ((rd_T80 l0_4 x22_2).f0) x33_3).f1.f1) ((rd_T82 ((rd_T80 l0_4 x22_2).f0) x33_3).f1.f2) ((rd_T82 ((rd_T80 l0_4 x22_2).f0) x33_3).f1.f3))) = some r := H
                                  have A31 := Aside0.mk A310
                                  clear A310
                                  by_cases c32 : t127 = true
                                  · subst c32
                                    have H1 : (spec_GraphOk.j3 k3 x33_3 l0_4 (l0_4.length : Int) x22_2 ((rd_T80 l0_4 x22_2).f0) (((rd_T80 l0_4 x22_2).f0).length : Int) x33_3 (((rd_T82 ((rd_T80 l0_4 x22_2).f0) x33_3).f1.f0) == 0) a0_0 a0_1 a0_2 a0_3 l0_4 ((rd_T80 l0_4 x22_2).f0) ((rd_T82 ((rd_T80 l0_4 x22_2).f0) x33_3).f0.f0) ((rd_T82 ((rd_T80 l0_4 x22_2).f0) x33_3).f0.f1) ((rd_T82 ((rd_T80 l0_4 x22_2).f0) x33_3).f0.f2) ((rd_T82 ((rd_T80 l0_4 x22_2).f0) x33_3).f0.f3) ((rd_T82 ((rd_T80 l0_4 x22_2).f0) x33_3).f1.f0) ((rd_T82 ((rd_T80 l0_4 x22_2).f0) x33_3).f1.f1) ((rd_T82 ((rd_T80 l0_4 x22_2).f0) x33_3).f1.f2) ((rd_T82 ((rd_T80 l0_4 x22_2).f0) x33_3).f1.f3)) = some r := by rw [if_pos rfl] at H; exact H
                                    clear H
                                    have H := H1
                                    clear H1
                                    have H' := Aside0.mk H
                                    clear H
                                    have hnb33 := NB125_120.out
                                    have hnc33 := NB120_125.out
                                    have hnb34 := NB125_123.out
                                    have hnc34 := NB123_125.out
                                    have hcz35_0 : w25.cell? ⟨gb125, 0, none⟩ = some (.int .i64 0) := (blk_cell BK125.out 0).trans rfl
                                    have hcz35_1 : w25.cell? ⟨gb125, 1, none⟩ = some (.int .i64 0) := (blk_cell BK125.out 1).trans rfl
                                    have hcz35_2 : w25.cell? ⟨gb125, 2, none⟩ = some (.string (⟨#[]⟩ : ByteArray)) := (blk_cell BK125.out 2).trans rfl
                                    have hcz35_3 : w25.cell? ⟨gb125, 3, none⟩ = some (.int .i64 0) := (blk_cell BK125.out 3).trans rfl
                                    have hcz35_4 : w25.cell? ⟨gb125, 4, none⟩ = some (.int .i64 0) := (blk_cell BK125.out 4).trans rfl
                                    have hcz35_5 : w25.cell? ⟨gb125, 5, none⟩ = some (.int .i64 0) := (blk_cell BK125.out 5).trans rfl
                                    have hcz35_6 : w25.cell? ⟨gb125, 6, none⟩ = some (.string (⟨#[]⟩ : ByteArray)) := (blk_cell BK125.out 6).trans rfl
                                    have hcz35_7 : w25.cell? ⟨gb125, 7, none⟩ = some (.int .i64 0) := (blk_cell BK125.out 7).trans rfl
                                    have hfz35_0 := blk_frozen BK125.out 0
                                    have hfz35_1 := blk_frozen BK125.out 1
                                    have hfz35_2 := blk_frozen BK125.out 2
                                    have hfz35_3 := blk_frozen BK125.out 3
                                    have hfz35_4 := blk_frozen BK125.out 4
                                    have hfz35_5 := blk_frozen BK125.out 5
                                    have hfz35_6 := blk_frozen BK125.out 6
                                    have hfz35_7 := blk_frozen BK125.out 7
                                    go_wp2_with (first | (go_at_call 43; (with_reducible refine (spec_l2key.calls ((rd_T82 ((rd_T80 l0_4 x22_2).f0) x33_3).f0.f0) ((rd_T82 ((rd_T80 l0_4 x22_2).f0) x33_3).f0.f1) ((rd_T82 ((rd_T80 l0_4 x22_2).f0) x33_3).f0.f2) ((rd_T82 ((rd_T80 l0_4 x22_2).f0) x33_3).f0.f3) true _ A29.out).mono ?_); rintro e w36 ⟨rfl, hb⟩; have n0_ := Aside0.mk (blk_below (g := gb120) (o := .cells #[.int .i64 a0_0, .int .i64 a0_1, .string a0_2, .int .i64 a0_3, .slice (some ad122) l0_4.length c0_4] 48 (0, 0)) (by (with_reducible repeat (first | refine blk_drewN ?_ _ | refine blk_drew ?_ | refine blk_alloc ?_ _)); refine blk_far ?_ NB120_125.out _; (with_reducible repeat (first | refine blk_drewN ?_ _ | refine blk_drew ?_ | refine blk_alloc ?_ _)); refine blk_far ?_ NB120_125.out _; (with_reducible repeat (first | refine blk_drewN ?_ _ | refine blk_drew ?_ | refine blk_alloc ?_ _)); refine blk_far ?_ NB120_125.out _; (with_reducible repeat (first | refine blk_drewN ?_ _ | refine blk_drew ?_ | refine blk_alloc ?_ _)); refine blk_far ?_ NB120_125.out _; (with_reducible repeat (first | refine blk_drewN ?_ _ | refine blk_drew ?_ | refine blk_alloc ?_ _)); refine blk_far ?_ NB120_125.out _; (with_reducible repeat (first | refine blk_drewN ?_ _ | refine blk_drew ?_ | refine blk_alloc ?_ _)); refine blk_far ?_ NB120_125.out _; (with_reducible repeat (first | refine blk_drewN ?_ _ | refine blk_drew ?_ | refine blk_alloc ?_ _)); refine blk_far ?_ NB120_125.out _; (with_reducible repeat (first | refine blk_drewN ?_ _ | refine blk_drew ?_ | refine blk_alloc ?_ _)); refine blk_far ?_ NB120_125.out _; (with_reducible repeat (first | refine blk_drewN ?_ _ | refine blk_drew ?_ | refine blk_alloc ?_ _)); exact BK120.out) hb); have n1_ := Aside0.mk (blk_below (g := gb123) (o := .cells #[.slice (some ad124) ((rd_T80 l0_4 x22_2).f0).length c122_0] 80 (0, 0)) (by (with_reducible repeat (first | refine blk_drewN ?_ _ | refine blk_drew ?_ | refine blk_alloc ?_ _)); refine blk_far ?_ NB123_125.out _; (with_reducible repeat (first | refine blk_drewN ?_ _ | refine blk_drew ?_ | refine blk_alloc ?_ _)); refine blk_far ?_ NB123_125.out _; (with_reducible repeat (first | refine blk_drewN ?_ _ | refine blk_drew ?_ | refine blk_alloc ?_ _)); refine blk_far ?_ NB123_125.out _; (with_reducible repeat (first | refine blk_drewN ?_ _ | refine blk_drew ?_ | refine blk_alloc ?_ _)); refine blk_far ?_ NB123_125.out _; (with_reducible repeat (first | refine blk_drewN ?_ _ | refine blk_drew ?_ | refine blk_alloc ?_ _)); refine blk_far ?_ NB123_125.out _; (with_reducible repeat (first | refine blk_drewN ?_ _ | refine blk_drew ?_ | refine blk_alloc ?_ _)); refine blk_far ?_ NB123_125.out _; (with_reducible repeat (first | refine blk_drewN ?_ _ | refine blk_drew ?_ | refine blk_alloc ?_ _)); refine blk_far ?_ NB123_125.out _; (with_reducible repeat (first | refine blk_drewN ?_ _ | refine blk_drew ?_ | refine blk_alloc ?_ _)); refine blk_far ?_ NB123_125.out _; (with_reducible repeat (first | refine blk_drewN ?_ _ | refine blk_drew ?_ | refine blk_alloc ?_ _)); exact BK123.out) hb); have n2_ := Aside0.mk (blk_below (g := gb125) (o := .cells #[.int .i64 ((rd_T82 ((rd_T80 l0_4 x22_2).f0) x33_3).f0.f0), .int .i64 ((rd_T82 ((rd_T80 l0_4 x22_2).f0) x33_3).f0.f1), .string ((rd_T82 ((rd_T80 l0_4 x22_2).f0) x33_3).f0.f2), .int .i64 ((rd_T82 ((rd_T80 l0_4 x22_2).f0) x33_3).f0.f3), .int .i64 ((rd_T82 ((rd_T80 l0_4 x22_2).f0) x33_3).f1.f0), .int .i64 ((rd_T82 ((rd_T80 l0_4 x22_2).f0) x33_3).f1.f1), .string ((rd_T82 ((rd_T80 l0_4 x22_2).f0) x33_3).f1.f2), .int .i64 ((rd_T82 ((rd_T80 l0_4 x22_2).f0) x33_3).f1.f3)] 82 (0, 0)) (by (with_reducible repeat (first | refine blk_drewN ?_ _ | refine blk_drew ?_ | refine blk_alloc ?_ _)); refine blk_put (cs := #[.int .i64 ((rd_T82 ((rd_T80 l0_4 x22_2).f0) x33_3).f0.f0), .int .i64 ((rd_T82 ((rd_T80 l0_4 x22_2).f0) x33_3).f0.f1), .string ((rd_T82 ((rd_T80 l0_4 x22_2).f0) x33_3).f0.f2), .int .i64 ((rd_T82 ((rd_T80 l0_4 x22_2).f0) x33_3).f0.f3), .int .i64 ((rd_T82 ((rd_T80 l0_4 x22_2).f0) x33_3).f1.f0), .int .i64 ((rd_T82 ((rd_T80 l0_4 x22_2).f0) x33_3).f1.f1), .string ((rd_T82 ((rd_T80 l0_4 x22_2).f0) x33_3).f1.f2), .int .i64 0]) ?_ 7 _ rfl; (with_reducible repeat (first | refine blk_drewN ?_ _ | refine blk_drew ?_ | refine blk_alloc ?_ _)); refine blk_put (cs := #[.int .i64 ((rd_T82 ((rd_T80 l0_4 x22_2).f0) x33_3).f0.f0), .int .i64 ((rd_T82 ((rd_T80 l0_4 x22_2).f0) x33_3).f0.f1), .string ((rd_T82 ((rd_T80 l0_4 x22_2).f0) x33_3).f0.f2), .int .i64 ((rd_T82 ((rd_T80 l0_4 x22_2).f0) x33_3).f0.f3), .int .i64 ((rd_T82 ((rd_T80 l0_4 x22_2).f0) x33_3).f1.f0), .int .i64 ((rd_T82 ((rd_T80 l0_4 x22_2).f0) x33_3).f1.f1), .string (⟨#[]⟩ : ByteArray), .int .i64 0]) ?_ 6 _ rfl; (with_reducible repeat (first | refine blk_drewN ?_ _ | refine blk_drew ?_ | refine blk_alloc ?_ _)); refine blk_put (cs := #[.int .i64 ((rd_T82 ((rd_T80 l0_4 x22_2).f0) x33_3).f0.f0), .int .i64 ((rd_T82 ((rd_T80 l0_4 x22_2).f0) x33_3).f0.f1), .string ((rd_T82 ((rd_T80 l0_4 x22_2).f0) x33_3).f0.f2), .int .i64 ((rd_T82 ((rd_T80 l0_4 x22_2).f0) x33_3).f0.f3), .int .i64 ((rd_T82 ((rd_T80 l0_4 x22_2).f0) x33_3).f1.f0), .int .i64 0, .string (⟨#[]⟩ : ByteArray), .int .i64 0]) ?_ 5 _ rfl; (with_reducible repeat (first | refine blk_drewN ?_ _ | refine blk_drew ?_ | refine blk_alloc ?_ _)); refine blk_put (cs := #[.int .i64 ((rd_T82 ((rd_T80 l0_4 x22_2).f0) x33_3).f0.f0), .int .i64 ((rd_T82 ((rd_T80 l0_4 x22_2).f0) x33_3).f0.f1), .string ((rd_T82 ((rd_T80 l0_4 x22_2).f0) x33_3).f0.f2), .int .i64 ((rd_T82 ((rd_T80 l0_4 x22_2).f0) x33_3).f0.f3), .int .i64 0, .int .i64 0, .string (⟨#[]⟩ : ByteArray), .int .i64 0]) ?_ 4 _ rfl; (with_reducible repeat (first | refine blk_drewN ?_ _ | refine blk_drew ?_ | refine blk_alloc ?_ _)); refine blk_put (cs := #[.int .i64 ((rd_T82 ((rd_T80 l0_4 x22_2).f0) x33_3).f0.f0), .int .i64 ((rd_T82 ((rd_T80 l0_4 x22_2).f0) x33_3).f0.f1), .string ((rd_T82 ((rd_T80 l0_4 x22_2).f0) x33_3).f0.f2), .int .i64 0, .int .i64 0, .int .i64 0, .string (⟨#[]⟩ : ByteArray), .int .i64 0]) ?_ 3 _ rfl; (with_reducible repeat (first | refine blk_drewN ?_ _ | refine blk_drew ?_ | refine blk_alloc ?_ _)); refine blk_put (cs := #[.int .i64 ((rd_T82 ((rd_T80 l0_4 x22_2).f0) x33_3).f0.f0), .int .i64 ((rd_T82 ((rd_T80 l0_4 x22_2).f0) x33_3).f0.f1), .string (⟨#[]⟩ : ByteArray), .int .i64 0, .int .i64 0, .int .i64 0, .string (⟨#[]⟩ : ByteArray), .int .i64 0]) ?_ 2 _ rfl; (with_reducible repeat (first | refine blk_drewN ?_ _ | refine blk_drew ?_ | refine blk_alloc ?_ _)); refine blk_put (cs := #[.int .i64 ((rd_T82 ((rd_T80 l0_4 x22_2).f0) x33_3).f0.f0), .int .i64 0, .string (⟨#[]⟩ : ByteArray), .int .i64 0, .int .i64 0, .int .i64 0, .string (⟨#[]⟩ : ByteArray), .int .i64 0]) ?_ 1 _ rfl; (with_reducible repeat (first | refine blk_drewN ?_ _ | refine blk_drew ?_ | refine blk_alloc ?_ _)); refine blk_put (cs := #[.int .i64 0, .int .i64 0, .string (⟨#[]⟩ : ByteArray), .int .i64 0, .int .i64 0, .int .i64 0, .string (⟨#[]⟩ : ByteArray), .int .i64 0]) ?_ 0 _ rfl; (with_reducible repeat (first | refine blk_drewN ?_ _ | refine blk_drew ?_ | refine blk_alloc ?_ _)); exact BK125.out) hb); have n3_ := Aside0.mk (below_step (by repeat (first | (with_reducible first | exact HB.out | apply below_alloc | apply pw_below_drewN | apply below_drew1 | refine below_set ?_ GE120.out | refine below_set ?_ GE123.out | refine below_set ?_ GE125.out) | exact HB.out)) hb); clear BK120; clear BK123; clear BK125; clear HB; have BK120 := n0_; have BK123 := n1_; have BK125 := n2_; have HB := n3_; clear n0_ n1_ n2_ n3_; (try clear hb); (try clear hb2); (try clear hk); (try clear hi); have hnb37 := NB120_123.out; have hnc37 := NB123_120.out; have hcz38_0 : w36.cell? ⟨gb120, 0, none⟩ = some (.int .i64 a0_0) := (blk_cell BK120.out 0).trans rfl; have hcz38_1 : w36.cell? ⟨gb120, 1, none⟩ = some (.int .i64 a0_1) := (blk_cell BK120.out 1).trans rfl; have hcz38_2 : w36.cell? ⟨gb120, 2, none⟩ = some (.string a0_2) := (blk_cell BK120.out 2).trans rfl; have hcz38_3 : w36.cell? ⟨gb120, 3, none⟩ = some (.int .i64 a0_3) := (blk_cell BK120.out 3).trans rfl; have hcz38_4 : w36.cell? ⟨gb120, 4, none⟩ = some (.slice (some ad122) l0_4.length c0_4) := (blk_cell BK120.out 4).trans rfl; have hfz38_0 := blk_frozen BK120.out 0; have hfz38_1 := blk_frozen BK120.out 1; have hfz38_2 := blk_frozen BK120.out 2; have hfz38_3 := blk_frozen BK120.out 3; have hfz38_4 := blk_frozen BK120.out 4; have hcz39_0 : w36.cell? ⟨gb125, 0, none⟩ = some (.int .i64 ((rd_T82 ((rd_T80 l0_4 x22_2).f0) x33_3).f0.f0)) := (blk_cell BK125.out 0).trans rfl; have hcz39_1 : w36.cell? ⟨gb125, 1, none⟩ = some (.int .i64 ((rd_T82 ((rd_T80 l0_4 x22_2).f0) x33_3).f0.f1)) := (blk_cell BK125.out 1).trans rfl; have hcz39_2 : w36.cell? ⟨gb125, 2, none⟩ = some (.string ((rd_T82 ((rd_T80 l0_4 x22_2).f0) x33_3).f0.f2)) := (blk_cell BK125.out 2).trans rfl; have hcz39_3 : w36.cell? ⟨gb125, 3, none⟩ = some (.int .i64 ((rd_T82 ((rd_T80 l0_4 x22_2).f0) x33_3).f0.f3)) := (blk_cell BK125.out 3).trans rfl; have hcz39_4 : w36.cell? ⟨gb125, 4, none⟩ = some (.int .i64 ((rd_T82 ((rd_T80 l0_4 x22_2).f0) x33_3).f1.f0)) := (blk_cell BK125.out 4).trans rfl; have hcz39_5 : w36.cell? ⟨gb125, 5, none⟩ = some (.int .i64 ((rd_T82 ((rd_T80 l0_4 x22_2).f0) x33_3).f1.f1)) := (blk_cell BK125.out 5).trans rfl; have hcz39_6 : w36.cell? ⟨gb125, 6, none⟩ = some (.string ((rd_T82 ((rd_T80 l0_4 x22_2).f0) x33_3).f1.f2)) := (blk_cell BK125.out 6).trans rfl; have hcz39_7 : w36.cell? ⟨gb125, 7, none⟩ = some (.int .i64 ((rd_T82 ((rd_T80 l0_4 x22_2).f0) x33_3).f1.f3)) := (blk_cell BK125.out 7).trans rfl; have hfz39_0 := blk_frozen BK125.out 0; have hfz39_1 := blk_frozen BK125.out 1; have hfz39_2 := blk_frozen BK125.out 2; have hfz39_3 := blk_frozen BK125.out 3; have hfz39_4 := blk_frozen BK125.out 4; have hfz39_5 := blk_frozen BK125.out 5; have hfz39_6 := blk_frozen BK125.out 6; have hfz39_7 := blk_frozen BK125.out 7) | (go_at_call 56; (with_reducible refine (spec_l2val.calls a0_0 a0_1 a0_2 a0_3 _ _ l0_4 ((rd_T82 ((rd_T80 l0_4 x22_2).f0) x33_3).f1.f0) ((rd_T82 ((rd_T80 l0_4 x22_2).f0) x33_3).f1.f1) ((rd_T82 ((rd_T80 l0_4 x22_2).f0) x33_3).f1.f2) ((rd_T82 ((rd_T80 l0_4 x22_2).f0) x33_3).f1.f3) true _ ?side1 ?side2 A31.out).mono ?_); (case side1 => repeat (first | exact (Kd.C_below HR0_4.out HB.out) | (with_reducible refine Kd.C_alloc ?_ _) | (with_reducible refine Kd.C_drewN ?_ _) | (with_reducible refine Kd.C_drew ?_))); (case side2 => exact HC0_4.out); rintro e w40 ⟨rfl, hb⟩; have n0_ := Aside0.mk (blk_below (g := gb120) (o := .cells #[.int .i64 a0_0, .int .i64 a0_1, .string a0_2, .int .i64 a0_3, .slice (some ad122) l0_4.length c0_4] 48 (0, 0)) (by (with_reducible repeat (first | refine blk_drewN ?_ _ | refine blk_drew ?_ | refine blk_alloc ?_ _)); exact BK120.out) hb); have n1_ := Aside0.mk (blk_below (g := gb123) (o := .cells #[.slice (some ad124) ((rd_T80 l0_4 x22_2).f0).length c122_0] 80 (0, 0)) (by (with_reducible repeat (first | refine blk_drewN ?_ _ | refine blk_drew ?_ | refine blk_alloc ?_ _)); exact BK123.out) hb); have n2_ := Aside0.mk (blk_below (g := gb125) (o := .cells #[.int .i64 ((rd_T82 ((rd_T80 l0_4 x22_2).f0) x33_3).f0.f0), .int .i64 ((rd_T82 ((rd_T80 l0_4 x22_2).f0) x33_3).f0.f1), .string ((rd_T82 ((rd_T80 l0_4 x22_2).f0) x33_3).f0.f2), .int .i64 ((rd_T82 ((rd_T80 l0_4 x22_2).f0) x33_3).f0.f3), .int .i64 ((rd_T82 ((rd_T80 l0_4 x22_2).f0) x33_3).f1.f0), .int .i64 ((rd_T82 ((rd_T80 l0_4 x22_2).f0) x33_3).f1.f1), .string ((rd_T82 ((rd_T80 l0_4 x22_2).f0) x33_3).f1.f2), .int .i64 ((rd_T82 ((rd_T80 l0_4 x22_2).f0) x33_3).f1.f3)] 82 (0, 0)) (by (with_reducible repeat (first | refine blk_drewN ?_ _ | refine blk_drew ?_ | refine blk_alloc ?_ _)); exact BK125.out) hb); have n3_ := Aside0.mk (below_step (by repeat (first | (with_reducible first | exact HB.out | apply below_alloc | apply pw_below_drewN | apply below_drew1 | refine below_set ?_ GE120.out | refine below_set ?_ GE123.out | refine below_set ?_ GE125.out) | exact HB.out)) hb); clear BK120; clear BK123; clear BK125; clear HB; have BK120 := n0_; have BK123 := n1_; have BK125 := n2_; have HB := n3_; clear n0_ n1_ n2_ n3_; (try clear hb); (try clear hb2); (try clear hk); (try clear hi); have hcz41_0 : w40.cell? ⟨gb125, 0, none⟩ = some (.int .i64 ((rd_T82 ((rd_T80 l0_4 x22_2).f0) x33_3).f0.f0)) := (blk_cell BK125.out 0).trans rfl; have hcz41_1 : w40.cell? ⟨gb125, 1, none⟩ = some (.int .i64 ((rd_T82 ((rd_T80 l0_4 x22_2).f0) x33_3).f0.f1)) := (blk_cell BK125.out 1).trans rfl; have hcz41_2 : w40.cell? ⟨gb125, 2, none⟩ = some (.string ((rd_T82 ((rd_T80 l0_4 x22_2).f0) x33_3).f0.f2)) := (blk_cell BK125.out 2).trans rfl; have hcz41_3 : w40.cell? ⟨gb125, 3, none⟩ = some (.int .i64 ((rd_T82 ((rd_T80 l0_4 x22_2).f0) x33_3).f0.f3)) := (blk_cell BK125.out 3).trans rfl; have hcz41_4 : w40.cell? ⟨gb125, 4, none⟩ = some (.int .i64 ((rd_T82 ((rd_T80 l0_4 x22_2).f0) x33_3).f1.f0)) := (blk_cell BK125.out 4).trans rfl; have hcz41_5 : w40.cell? ⟨gb125, 5, none⟩ = some (.int .i64 ((rd_T82 ((rd_T80 l0_4 x22_2).f0) x33_3).f1.f1)) := (blk_cell BK125.out 5).trans rfl; have hcz41_6 : w40.cell? ⟨gb125, 6, none⟩ = some (.string ((rd_T82 ((rd_T80 l0_4 x22_2).f0) x33_3).f1.f2)) := (blk_cell BK125.out 6).trans rfl; have hcz41_7 : w40.cell? ⟨gb125, 7, none⟩ = some (.int .i64 ((rd_T82 ((rd_T80 l0_4 x22_2).f0) x33_3).f1.f3)) := (blk_cell BK125.out 7).trans rfl; have hfz41_0 := blk_frozen BK125.out 0; have hfz41_1 := blk_frozen BK125.out 1; have hfz41_2 := blk_frozen BK125.out 2; have hfz41_3 := blk_frozen BK125.out 3; have hfz41_4 := blk_frozen BK125.out 4; have hfz41_5 := blk_frozen BK125.out 5; have hfz41_6 := blk_frozen BK125.out 6; have hfz41_7 := blk_frozen BK125.out 7))
                                    repeat (go_quiet (first | (go_at_call 43; (with_reducible refine (spec_l2key.calls ((rd_T82 ((rd_T80 l0_4 x22_2).f0) x33_3).f0.f0) ((rd_T82 ((rd_T80 l0_4 x22_2).f0) x33_3).f0.f1) ((rd_T82 ((rd_T80 l0_4 x22_2).f0) x33_3).f0.f2) ((rd_T82 ((rd_T80 l0_4 x22_2).f0) x33_3).f0.f3) true _ A29.out).mono ?_); rintro e w36 ⟨rfl, hb⟩; have n0_ := Aside0.mk (blk_below (g := gb120) (o := .cells #[.int .i64 a0_0, .int .i64 a0_1, .string a0_2, .int .i64 a0_3, .slice (some ad122) l0_4.length c0_4] 48 (0, 0)) (by (with_reducible repeat (first | refine blk_drewN ?_ _ | refine blk_drew ?_ | refine blk_alloc ?_ _)); refine blk_far ?_ NB120_125.out _; (with_reducible repeat (first | refine blk_drewN ?_ _ | refine blk_drew ?_ | refine blk_alloc ?_ _)); refine blk_far ?_ NB120_125.out _; (with_reducible repeat (first | refine blk_drewN ?_ _ | refine blk_drew ?_ | refine blk_alloc ?_ _)); refine blk_far ?_ NB120_125.out _; (with_reducible repeat (first | refine blk_drewN ?_ _ | refine blk_drew ?_ | refine blk_alloc ?_ _)); refine blk_far ?_ NB120_125.out _; (with_reducible repeat (first | refine blk_drewN ?_ _ | refine blk_drew ?_ | refine blk_alloc ?_ _)); refine blk_far ?_ NB120_125.out _; (with_reducible repeat (first | refine blk_drewN ?_ _ | refine blk_drew ?_ | refine blk_alloc ?_ _)); refine blk_far ?_ NB120_125.out _; (with_reducible repeat (first | refine blk_drewN ?_ _ | refine blk_drew ?_ | refine blk_alloc ?_ _)); refine blk_far ?_ NB120_125.out _; (with_reducible repeat (first | refine blk_drewN ?_ _ | refine blk_drew ?_ | refine blk_alloc ?_ _)); refine blk_far ?_ NB120_125.out _; (with_reducible repeat (first | refine blk_drewN ?_ _ | refine blk_drew ?_ | refine blk_alloc ?_ _)); exact BK120.out) hb); have n1_ := Aside0.mk (blk_below (g := gb123) (o := .cells #[.slice (some ad124) ((rd_T80 l0_4 x22_2).f0).length c122_0] 80 (0, 0)) (by (with_reducible repeat (first | refine blk_drewN ?_ _ | refine blk_drew ?_ | refine blk_alloc ?_ _)); refine blk_far ?_ NB123_125.out _; (with_reducible repeat (first | refine blk_drewN ?_ _ | refine blk_drew ?_ | refine blk_alloc ?_ _)); refine blk_far ?_ NB123_125.out _; (with_reducible repeat (first | refine blk_drewN ?_ _ | refine blk_drew ?_ | refine blk_alloc ?_ _)); refine blk_far ?_ NB123_125.out _; (with_reducible repeat (first | refine blk_drewN ?_ _ | refine blk_drew ?_ | refine blk_alloc ?_ _)); refine blk_far ?_ NB123_125.out _; (with_reducible repeat (first | refine blk_drewN ?_ _ | refine blk_drew ?_ | refine blk_alloc ?_ _)); refine blk_far ?_ NB123_125.out _; (with_reducible repeat (first | refine blk_drewN ?_ _ | refine blk_drew ?_ | refine blk_alloc ?_ _)); refine blk_far ?_ NB123_125.out _; (with_reducible repeat (first | refine blk_drewN ?_ _ | refine blk_drew ?_ | refine blk_alloc ?_ _)); refine blk_far ?_ NB123_125.out _; (with_reducible repeat (first | refine blk_drewN ?_ _ | refine blk_drew ?_ | refine blk_alloc ?_ _)); refine blk_far ?_ NB123_125.out _; (with_reducible repeat (first | refine blk_drewN ?_ _ | refine blk_drew ?_ | refine blk_alloc ?_ _)); exact BK123.out) hb); have n2_ := Aside0.mk (blk_below (g := gb125) (o := .cells #[.int .i64 ((rd_T82 ((rd_T80 l0_4 x22_2).f0) x33_3).f0.f0), .int .i64 ((rd_T82 ((rd_T80 l0_4 x22_2).f0) x33_3).f0.f1), .string ((rd_T82 ((rd_T80 l0_4 x22_2).f0) x33_3).f0.f2), .int .i64 ((rd_T82 ((rd_T80 l0_4 x22_2).f0) x33_3).f0.f3), .int .i64 ((rd_T82 ((rd_T80 l0_4 x22_2).f0) x33_3).f1.f0), .int .i64 ((rd_T82 ((rd_T80 l0_4 x22_2).f0) x33_3).f1.f1), .string ((rd_T82 ((rd_T80 l0_4 x22_2).f0) x33_3).f1.f2), .int .i64 ((rd_T82 ((rd_T80 l0_4 x22_2).f0) x33_3).f1.f3)] 82 (0, 0)) (by (with_reducible repeat (first | refine blk_drewN ?_ _ | refine blk_drew ?_ | refine blk_alloc ?_ _)); refine blk_put (cs := #[.int .i64 ((rd_T82 ((rd_T80 l0_4 x22_2).f0) x33_3).f0.f0), .int .i64 ((rd_T82 ((rd_T80 l0_4 x22_2).f0) x33_3).f0.f1), .string ((rd_T82 ((rd_T80 l0_4 x22_2).f0) x33_3).f0.f2), .int .i64 ((rd_T82 ((rd_T80 l0_4 x22_2).f0) x33_3).f0.f3), .int .i64 ((rd_T82 ((rd_T80 l0_4 x22_2).f0) x33_3).f1.f0), .int .i64 ((rd_T82 ((rd_T80 l0_4 x22_2).f0) x33_3).f1.f1), .string ((rd_T82 ((rd_T80 l0_4 x22_2).f0) x33_3).f1.f2), .int .i64 0]) ?_ 7 _ rfl; (with_reducible repeat (first | refine blk_drewN ?_ _ | refine blk_drew ?_ | refine blk_alloc ?_ _)); refine blk_put (cs := #[.int .i64 ((rd_T82 ((rd_T80 l0_4 x22_2).f0) x33_3).f0.f0), .int .i64 ((rd_T82 ((rd_T80 l0_4 x22_2).f0) x33_3).f0.f1), .string ((rd_T82 ((rd_T80 l0_4 x22_2).f0) x33_3).f0.f2), .int .i64 ((rd_T82 ((rd_T80 l0_4 x22_2).f0) x33_3).f0.f3), .int .i64 ((rd_T82 ((rd_T80 l0_4 x22_2).f0) x33_3).f1.f0), .int .i64 ((rd_T82 ((rd_T80 l0_4 x22_2).f0) x33_3).f1.f1), .string (⟨#[]⟩ : ByteArray), .int .i64 0]) ?_ 6 _ rfl; (with_reducible repeat (first | refine blk_drewN ?_ _ | refine blk_drew ?_ | refine blk_alloc ?_ _)); refine blk_put (cs := #[.int .i64 ((rd_T82 ((rd_T80 l0_4 x22_2).f0) x33_3).f0.f0), .int .i64 ((rd_T82 ((rd_T80 l0_4 x22_2).f0) x33_3).f0.f1), .string ((rd_T82 ((rd_T80 l0_4 x22_2).f0) x33_3).f0.f2), .int .i64 ((rd_T82 ((rd_T80 l0_4 x22_2).f0) x33_3).f0.f3), .int .i64 ((rd_T82 ((rd_T80 l0_4 x22_2).f0) x33_3).f1.f0), .int .i64 0, .string (⟨#[]⟩ : ByteArray), .int .i64 0]) ?_ 5 _ rfl; (with_reducible repeat (first | refine blk_drewN ?_ _ | refine blk_drew ?_ | refine blk_alloc ?_ _)); refine blk_put (cs := #[.int .i64 ((rd_T82 ((rd_T80 l0_4 x22_2).f0) x33_3).f0.f0), .int .i64 ((rd_T82 ((rd_T80 l0_4 x22_2).f0) x33_3).f0.f1), .string ((rd_T82 ((rd_T80 l0_4 x22_2).f0) x33_3).f0.f2), .int .i64 ((rd_T82 ((rd_T80 l0_4 x22_2).f0) x33_3).f0.f3), .int .i64 0, .int .i64 0, .string (⟨#[]⟩ : ByteArray), .int .i64 0]) ?_ 4 _ rfl; (with_reducible repeat (first | refine blk_drewN ?_ _ | refine blk_drew ?_ | refine blk_alloc ?_ _)); refine blk_put (cs := #[.int .i64 ((rd_T82 ((rd_T80 l0_4 x22_2).f0) x33_3).f0.f0), .int .i64 ((rd_T82 ((rd_T80 l0_4 x22_2).f0) x33_3).f0.f1), .string ((rd_T82 ((rd_T80 l0_4 x22_2).f0) x33_3).f0.f2), .int .i64 0, .int .i64 0, .int .i64 0, .string (⟨#[]⟩ : ByteArray), .int .i64 0]) ?_ 3 _ rfl; (with_reducible repeat (first | refine blk_drewN ?_ _ | refine blk_drew ?_ | refine blk_alloc ?_ _)); refine blk_put (cs := #[.int .i64 ((rd_T82 ((rd_T80 l0_4 x22_2).f0) x33_3).f0.f0), .int .i64 ((rd_T82 ((rd_T80 l0_4 x22_2).f0) x33_3).f0.f1), .string (⟨#[]⟩ : ByteArray), .int .i64 0, .int .i64 0, .int .i64 0, .string (⟨#[]⟩ : ByteArray), .int .i64 0]) ?_ 2 _ rfl; (with_reducible repeat (first | refine blk_drewN ?_ _ | refine blk_drew ?_ | refine blk_alloc ?_ _)); refine blk_put (cs := #[.int .i64 ((rd_T82 ((rd_T80 l0_4 x22_2).f0) x33_3).f0.f0), .int .i64 0, .string (⟨#[]⟩ : ByteArray), .int .i64 0, .int .i64 0, .int .i64 0, .string (⟨#[]⟩ : ByteArray), .int .i64 0]) ?_ 1 _ rfl; (with_reducible repeat (first | refine blk_drewN ?_ _ | refine blk_drew ?_ | refine blk_alloc ?_ _)); refine blk_put (cs := #[.int .i64 0, .int .i64 0, .string (⟨#[]⟩ : ByteArray), .int .i64 0, .int .i64 0, .int .i64 0, .string (⟨#[]⟩ : ByteArray), .int .i64 0]) ?_ 0 _ rfl; (with_reducible repeat (first | refine blk_drewN ?_ _ | refine blk_drew ?_ | refine blk_alloc ?_ _)); exact BK125.out) hb); have n3_ := Aside0.mk (below_step (by repeat (first | (with_reducible first | exact HB.out | apply below_alloc | apply pw_below_drewN | apply below_drew1 | refine below_set ?_ GE120.out | refine below_set ?_ GE123.out | refine below_set ?_ GE125.out) | exact HB.out)) hb); clear BK120; clear BK123; clear BK125; clear HB; have BK120 := n0_; have BK123 := n1_; have BK125 := n2_; have HB := n3_; clear n0_ n1_ n2_ n3_; (try clear hb); (try clear hb2); (try clear hk); (try clear hi); have hnb37 := NB120_123.out; have hnc37 := NB123_120.out; have hcz38_0 : w36.cell? ⟨gb120, 0, none⟩ = some (.int .i64 a0_0) := (blk_cell BK120.out 0).trans rfl; have hcz38_1 : w36.cell? ⟨gb120, 1, none⟩ = some (.int .i64 a0_1) := (blk_cell BK120.out 1).trans rfl; have hcz38_2 : w36.cell? ⟨gb120, 2, none⟩ = some (.string a0_2) := (blk_cell BK120.out 2).trans rfl; have hcz38_3 : w36.cell? ⟨gb120, 3, none⟩ = some (.int .i64 a0_3) := (blk_cell BK120.out 3).trans rfl; have hcz38_4 : w36.cell? ⟨gb120, 4, none⟩ = some (.slice (some ad122) l0_4.length c0_4) := (blk_cell BK120.out 4).trans rfl; have hfz38_0 := blk_frozen BK120.out 0; have hfz38_1 := blk_frozen BK120.out 1; have hfz38_2 := blk_frozen BK120.out 2; have hfz38_3 := blk_frozen BK120.out 3; have hfz38_4 := blk_frozen BK120.out 4; have hcz39_0 : w36.cell? ⟨gb125, 0, none⟩ = some (.int .i64 ((rd_T82 ((rd_T80 l0_4 x22_2).f0) x33_3).f0.f0)) := (blk_cell BK125.out 0).trans rfl; have hcz39_1 : w36.cell? ⟨gb125, 1, none⟩ = some (.int .i64 ((rd_T82 ((rd_T80 l0_4 x22_2).f0) x33_3).f0.f1)) := (blk_cell BK125.out 1).trans rfl; have hcz39_2 : w36.cell? ⟨gb125, 2, none⟩ = some (.string ((rd_T82 ((rd_T80 l0_4 x22_2).f0) x33_3).f0.f2)) := (blk_cell BK125.out 2).trans rfl; have hcz39_3 : w36.cell? ⟨gb125, 3, none⟩ = some (.int .i64 ((rd_T82 ((rd_T80 l0_4 x22_2).f0) x33_3).f0.f3)) := (blk_cell BK125.out 3).trans rfl; have hcz39_4 : w36.cell? ⟨gb125, 4, none⟩ = some (.int .i64 ((rd_T82 ((rd_T80 l0_4 x22_2).f0) x33_3).f1.f0)) := (blk_cell BK125.out 4).trans rfl; have hcz39_5 : w36.cell? ⟨gb125, 5, none⟩ = some (.int .i64 ((rd_T82 ((rd_T80 l0_4 x22_2).f0) x33_3).f1.f1)) := (blk_cell BK125.out 5).trans rfl; have hcz39_6 : w36.cell? ⟨gb125, 6, none⟩ = some (.string ((rd_T82 ((rd_T80 l0_4 x22_2).f0) x33_3).f1.f2)) := (blk_cell BK125.out 6).trans rfl; have hcz39_7 : w36.cell? ⟨gb125, 7, none⟩ = some (.int .i64 ((rd_T82 ((rd_T80 l0_4 x22_2).f0) x33_3).f1.f3)) := (blk_cell BK125.out 7).trans rfl; have hfz39_0 := blk_frozen BK125.out 0; have hfz39_1 := blk_frozen BK125.out 1; have hfz39_2 := blk_frozen BK125.out 2; have hfz39_3 := blk_frozen BK125.out 3; have hfz39_4 := blk_frozen BK125.out 4; have hfz39_5 := blk_frozen BK125.out 5; have hfz39_6 := blk_frozen BK125.out 6; have hfz39_7 := blk_frozen BK125.out 7) | (go_at_call 56; (with_reducible refine (spec_l2val.calls a0_0 a0_1 a0_2 a0_3 _ _ l0_4 ((rd_T82 ((rd_T80 l0_4 x22_2).f0) x33_3).f1.f0) ((rd_T82 ((rd_T80 l0_4 x22_2).f0) x33_3).f1.f1) ((rd_T82 ((rd_T80 l0_4 x22_2).f0) x33_3).f1.f2) ((rd_T82 ((rd_T80 l0_4 x22_2).f0) x33_3).f1.f3) true _ ?side1 ?side2 A31.out).mono ?_); (case side1 => repeat (first | exact (Kd.C_below HR0_4.out HB.out) | (with_reducible refine Kd.C_alloc ?_ _) | (with_reducible refine Kd.C_drewN ?_ _) | (with_reducible refine Kd.C_drew ?_))); (case side2 => exact HC0_4.out); rintro e w40 ⟨rfl, hb⟩; have n0_ := Aside0.mk (blk_below (g := gb120) (o := .cells #[.int .i64 a0_0, .int .i64 a0_1, .string a0_2, .int .i64 a0_3, .slice (some ad122) l0_4.length c0_4] 48 (0, 0)) (by (with_reducible repeat (first | refine blk_drewN ?_ _ | refine blk_drew ?_ | refine blk_alloc ?_ _)); exact BK120.out) hb); have n1_ := Aside0.mk (blk_below (g := gb123) (o := .cells #[.slice (some ad124) ((rd_T80 l0_4 x22_2).f0).length c122_0] 80 (0, 0)) (by (with_reducible repeat (first | refine blk_drewN ?_ _ | refine blk_drew ?_ | refine blk_alloc ?_ _)); exact BK123.out) hb); have n2_ := Aside0.mk (blk_below (g := gb125) (o := .cells #[.int .i64 ((rd_T82 ((rd_T80 l0_4 x22_2).f0) x33_3).f0.f0), .int .i64 ((rd_T82 ((rd_T80 l0_4 x22_2).f0) x33_3).f0.f1), .string ((rd_T82 ((rd_T80 l0_4 x22_2).f0) x33_3).f0.f2), .int .i64 ((rd_T82 ((rd_T80 l0_4 x22_2).f0) x33_3).f0.f3), .int .i64 ((rd_T82 ((rd_T80 l0_4 x22_2).f0) x33_3).f1.f0), .int .i64 ((rd_T82 ((rd_T80 l0_4 x22_2).f0) x33_3).f1.f1), .string ((rd_T82 ((rd_T80 l0_4 x22_2).f0) x33_3).f1.f2), .int .i64 ((rd_T82 ((rd_T80 l0_4 x22_2).f0) x33_3).f1.f3)] 82 (0, 0)) (by (with_reducible repeat (first | refine blk_drewN ?_ _ | refine blk_drew ?_ | refine blk_alloc ?_ _)); exact BK125.out) hb); have n3_ := Aside0.mk (below_step (by repeat (first | (with_reducible first | exact HB.out | apply below_alloc | apply pw_below_drewN | apply below_drew1 | refine below_set ?_ GE120.out | refine below_set ?_ GE123.out | refine below_set ?_ GE125.out) | exact HB.out)) hb); clear BK120; clear BK123; clear BK125; clear HB; have BK120 := n0_; have BK123 := n1_; have BK125 := n2_; have HB := n3_; clear n0_ n1_ n2_ n3_; (try clear hb); (try clear hb2); (try clear hk); (try clear hi); have hcz41_0 : w40.cell? ⟨gb125, 0, none⟩ = some (.int .i64 ((rd_T82 ((rd_T80 l0_4 x22_2).f0) x33_3).f0.f0)) := (blk_cell BK125.out 0).trans rfl; have hcz41_1 : w40.cell? ⟨gb125, 1, none⟩ = some (.int .i64 ((rd_T82 ((rd_T80 l0_4 x22_2).f0) x33_3).f0.f1)) := (blk_cell BK125.out 1).trans rfl; have hcz41_2 : w40.cell? ⟨gb125, 2, none⟩ = some (.string ((rd_T82 ((rd_T80 l0_4 x22_2).f0) x33_3).f0.f2)) := (blk_cell BK125.out 2).trans rfl; have hcz41_3 : w40.cell? ⟨gb125, 3, none⟩ = some (.int .i64 ((rd_T82 ((rd_T80 l0_4 x22_2).f0) x33_3).f0.f3)) := (blk_cell BK125.out 3).trans rfl; have hcz41_4 : w40.cell? ⟨gb125, 4, none⟩ = some (.int .i64 ((rd_T82 ((rd_T80 l0_4 x22_2).f0) x33_3).f1.f0)) := (blk_cell BK125.out 4).trans rfl; have hcz41_5 : w40.cell? ⟨gb125, 5, none⟩ = some (.int .i64 ((rd_T82 ((rd_T80 l0_4 x22_2).f0) x33_3).f1.f1)) := (blk_cell BK125.out 5).trans rfl; have hcz41_6 : w40.cell? ⟨gb125, 6, none⟩ = some (.string ((rd_T82 ((rd_T80 l0_4 x22_2).f0) x33_3).f1.f2)) := (blk_cell BK125.out 6).trans rfl; have hcz41_7 : w40.cell? ⟨gb125, 7, none⟩ = some (.int .i64 ((rd_T82 ((rd_T80 l0_4 x22_2).f0) x33_3).f1.f3)) := (blk_cell BK125.out 7).trans rfl; have hfz41_0 := blk_frozen BK125.out 0; have hfz41_1 := blk_frozen BK125.out 1; have hfz41_2 := blk_frozen BK125.out 2; have hfz41_3 := blk_frozen BK125.out 3; have hfz41_4 := blk_frozen BK125.out 4; have hfz41_5 := blk_frozen BK125.out 5; have hfz41_6 := blk_frozen BK125.out 6; have hfz41_7 := blk_frozen BK125.out 7)); try go_wp2_with (first | (go_at_call 43; (with_reducible refine (spec_l2key.calls ((rd_T82 ((rd_T80 l0_4 x22_2).f0) x33_3).f0.f0) ((rd_T82 ((rd_T80 l0_4 x22_2).f0) x33_3).f0.f1) ((rd_T82 ((rd_T80 l0_4 x22_2).f0) x33_3).f0.f2) ((rd_T82 ((rd_T80 l0_4 x22_2).f0) x33_3).f0.f3) true _ A29.out).mono ?_); rintro e w36 ⟨rfl, hb⟩; have n0_ := Aside0.mk (blk_below (g := gb120) (o := .cells #[.int .i64 a0_0, .int .i64 a0_1, .string a0_2, .int .i64 a0_3, .slice (some ad122) l0_4.length c0_4] 48 (0, 0)) (by (with_reducible repeat (first | refine blk_drewN ?_ _ | refine blk_drew ?_ | refine blk_alloc ?_ _)); refine blk_far ?_ NB120_125.out _; (with_reducible repeat (first | refine blk_drewN ?_ _ | refine blk_drew ?_ | refine blk_alloc ?_ _)); refine blk_far ?_ NB120_125.out _; (with_reducible repeat (first | refine blk_drewN ?_ _ | refine blk_drew ?_ | refine blk_alloc ?_ _)); refine blk_far ?_ NB120_125.out _; (with_reducible repeat (first | refine blk_drewN ?_ _ | refine blk_drew ?_ | refine blk_alloc ?_ _)); refine blk_far ?_ NB120_125.out _; (with_reducible repeat (first | refine blk_drewN ?_ _ | refine blk_drew ?_ | refine blk_alloc ?_ _)); refine blk_far ?_ NB120_125.out _; (with_reducible repeat (first | refine blk_drewN ?_ _ | refine blk_drew ?_ | refine blk_alloc ?_ _)); refine blk_far ?_ NB120_125.out _; (with_reducible repeat (first | refine blk_drewN ?_ _ | refine blk_drew ?_ | refine blk_alloc ?_ _)); refine blk_far ?_ NB120_125.out _; (with_reducible repeat (first | refine blk_drewN ?_ _ | refine blk_drew ?_ | refine blk_alloc ?_ _)); refine blk_far ?_ NB120_125.out _; (with_reducible repeat (first | refine blk_drewN ?_ _ | refine blk_drew ?_ | refine blk_alloc ?_ _)); exact BK120.out) hb); have n1_ := Aside0.mk (blk_below (g := gb123) (o := .cells #[.slice (some ad124) ((rd_T80 l0_4 x22_2).f0).length c122_0] 80 (0, 0)) (by (with_reducible repeat (first | refine blk_drewN ?_ _ | refine blk_drew ?_ | refine blk_alloc ?_ _)); refine blk_far ?_ NB123_125.out _; (with_reducible repeat (first | refine blk_drewN ?_ _ | refine blk_drew ?_ | refine blk_alloc ?_ _)); refine blk_far ?_ NB123_125.out _; (with_reducible repeat (first | refine blk_drewN ?_ _ | refine blk_drew ?_ | refine blk_alloc ?_ _)); refine blk_far ?_ NB123_125.out _; (with_reducible repeat (first | refine blk_drewN ?_ _ | refine blk_drew ?_ | refine blk_alloc ?_ _)); refine blk_far ?_ NB123_125.out _; (with_reducible repeat (first | refine blk_drewN ?_ _ | refine blk_drew ?_ | refine blk_alloc ?_ _)); refine blk_far ?_ NB123_125.out _; (with_reducible repeat (first | refine blk_drewN ?_ _ | refine blk_drew ?_ | refine blk_alloc ?_ _)); refine blk_far ?_ NB123_125.out _; (with_reducible repeat (first | refine blk_drewN ?_ _ | refine blk_drew ?_ | refine blk_alloc ?_ _)); refine blk_far ?_ NB123_125.out _; (with_reducible repeat (first | refine blk_drewN ?_ _ | refine blk_drew ?_ | refine blk_alloc ?_ _)); refine blk_far ?_ NB123_125.out _; (with_reducible repeat (first | refine blk_drewN ?_ _ | refine blk_drew ?_ | refine blk_alloc ?_ _)); exact BK123.out) hb); have n2_ := Aside0.mk (blk_below (g := gb125) (o := .cells #[.int .i64 ((rd_T82 ((rd_T80 l0_4 x22_2).f0) x33_3).f0.f0), .int .i64 ((rd_T82 ((rd_T80 l0_4 x22_2).f0) x33_3).f0.f1), .string ((rd_T82 ((rd_T80 l0_4 x22_2).f0) x33_3).f0.f2), .int .i64 ((rd_T82 ((rd_T80 l0_4 x22_2).f0) x33_3).f0.f3), .int .i64 ((rd_T82 ((rd_T80 l0_4 x22_2).f0) x33_3).f1.f0), .int .i64 ((rd_T82 ((rd_T80 l0_4 x22_2).f0) x33_3).f1.f1), .string ((rd_T82 ((rd_T80 l0_4 x22_2).f0) x33_3).f1.f2), .int .i64 ((rd_T82 ((rd_T80 l0_4 x22_2).f0) x33_3).f1.f3)] 82 (0, 0)) (by (with_reducible repeat (first | refine blk_drewN ?_ _ | refine blk_drew ?_ | refine blk_alloc ?_ _)); refine blk_put (cs := #[.int .i64 ((rd_T82 ((rd_T80 l0_4 x22_2).f0) x33_3).f0.f0), .int .i64 ((rd_T82 ((rd_T80 l0_4 x22_2).f0) x33_3).f0.f1), .string ((rd_T82 ((rd_T80 l0_4 x22_2).f0) x33_3).f0.f2), .int .i64 ((rd_T82 ((rd_T80 l0_4 x22_2).f0) x33_3).f0.f3), .int .i64 ((rd_T82 ((rd_T80 l0_4 x22_2).f0) x33_3).f1.f0), .int .i64 ((rd_T82 ((rd_T80 l0_4 x22_2).f0) x33_3).f1.f1), .string ((rd_T82 ((rd_T80 l0_4 x22_2).f0) x33_3).f1.f2), .int .i64 0]) ?_ 7 _ rfl; (with_reducible repeat (first | refine blk_drewN ?_ _ | refine blk_drew ?_ | refine blk_alloc ?_ _)); refine blk_put (cs := #[.int .i64 ((rd_T82 ((rd_T80 l0_4 x22_2).f0) x33_3).f0.f0), .int .i64 ((rd_T82 ((rd_T80 l0_4 x22_2).f0) x33_3).f0.f1), .string ((rd_T82 ((rd_T80 l0_4 x22_2).f0) x33_3).f0.f2), .int .i64 ((rd_T82 ((rd_T80 l0_4 x22_2).f0) x33_3).f0.f3), .int .i64 ((rd_T82 ((rd_T80 l0_4 x22_2).f0) x33_3).f1.f0), .int .i64 ((rd_T82 ((rd_T80 l0_4 x22_2).f0) x33_3).f1.f1), .string (⟨#[]⟩ : ByteArray), .int .i64 0]) ?_ 6 _ rfl; (with_reducible repeat (first | refine blk_drewN ?_ _ | refine blk_drew ?_ | refine blk_alloc ?_ _)); refine blk_put (cs := #[.int .i64 ((rd_T82 ((rd_T80 l0_4 x22_2).f0) x33_3).f0.f0), .int .i64 ((rd_T82 ((rd_T80 l0_4 x22_2).f0) x33_3).f0.f1), .string ((rd_T82 ((rd_T80 l0_4 x22_2).f0) x33_3).f0.f2), .int .i64 ((rd_T82 ((rd_T80 l0_4 x22_2).f0) x33_3).f0.f3), .int .i64 ((rd_T82 ((rd_T80 l0_4 x22_2).f0) x33_3).f1.f0), .int .i64 0, .string (⟨#[]⟩ : ByteArray), .int .i64 0]) ?_ 5 _ rfl; (with_reducible repeat (first | refine blk_drewN ?_ _ | refine blk_drew ?_ | refine blk_alloc ?_ _)); refine blk_put (cs := #[.int .i64 ((rd_T82 ((rd_T80 l0_4 x22_2).f0) x33_3).f0.f0), .int .i64 ((rd_T82 ((rd_T80 l0_4 x22_2).f0) x33_3).f0.f1), .string ((rd_T82 ((rd_T80 l0_4 x22_2).f0) x33_3).f0.f2), .int .i64 ((rd_T82 ((rd_T80 l0_4 x22_2).f0) x33_3).f0.f3), .int .i64 0, .int .i64 0, .string (⟨#[]⟩ : ByteArray), .int .i64 0]) ?_ 4 _ rfl; (with_reducible repeat (first | refine blk_drewN ?_ _ | refine blk_drew ?_ | refine blk_alloc ?_ _)); refine blk_put (cs := #[.int .i64 ((rd_T82 ((rd_T80 l0_4 x22_2).f0) x33_3).f0.f0), .int .i64 ((rd_T82 ((rd_T80 l0_4 x22_2).f0) x33_3).f0.f1), .string ((rd_T82 ((rd_T80 l0_4 x22_2).f0) x33_3).f0.f2), .int .i64 0, .int .i64 0, .int .i64 0, .string (⟨#[]⟩ : ByteArray), .int .i64 0]) ?_ 3 _ rfl; (with_reducible repeat (first | refine blk_drewN ?_ _ | refine blk_drew ?_ | refine blk_alloc ?_ _)); refine blk_put (cs := #[.int .i64 ((rd_T82 ((rd_T80 l0_4 x22_2).f0) x33_3).f0.f0), .int .i64 ((rd_T82 ((rd_T80 l0_4 x22_2).f0) x33_3).f0.f1), .string (⟨#[]⟩ : ByteArray), .int .i64 0, .int .i64 0, .int .i64 0, .string (⟨#[]⟩ : ByteArray), .int .i64 0]) ?_ 2 _ rfl; (with_reducible repeat (first | refine blk_drewN ?_ _ | refine blk_drew ?_ | refine blk_alloc ?_ _)); refine blk_put (cs := #[.int .i64 ((rd_T82 ((rd_T80 l0_4 x22_2).f0) x33_3).f0.f0), .int .i64 0, .string (⟨#[]⟩ : ByteArray), .int .i64 0, .int .i64 0, .int .i64 0, .string (⟨#[]⟩ : ByteArray), .int .i64 0]) ?_ 1 _ rfl; (with_reducible repeat (first | refine blk_drewN ?_ _ | refine blk_drew ?_ | refine blk_alloc ?_ _)); refine blk_put (cs := #[.int .i64 0, .int .i64 0, .string (⟨#[]⟩ : ByteArray), .int .i64 0, .int .i64 0, .int .i64 0, .string (⟨#[]⟩ : ByteArray), .int .i64 0]) ?_ 0 _ rfl; (with_reducible repeat (first | refine blk_drewN ?_ _ | refine blk_drew ?_ | refine blk_alloc ?_ _)); exact BK125.out) hb); have n3_ := Aside0.mk (below_step (by repeat (first | (with_reducible first | exact HB.out | apply below_alloc | apply pw_below_drewN | apply below_drew1 | refine below_set ?_ GE120.out | refine below_set ?_ GE123.out | refine below_set ?_ GE125.out) | exact HB.out)) hb); clear BK120; clear BK123; clear BK125; clear HB; have BK120 := n0_; have BK123 := n1_; have BK125 := n2_; have HB := n3_; clear n0_ n1_ n2_ n3_; (try clear hb); (try clear hb2); (try clear hk); (try clear hi); have hnb37 := NB120_123.out; have hnc37 := NB123_120.out; have hcz38_0 : w36.cell? ⟨gb120, 0, none⟩ = some (.int .i64 a0_0) := (blk_cell BK120.out 0).trans rfl; have hcz38_1 : w36.cell? ⟨gb120, 1, none⟩ = some (.int .i64 a0_1) := (blk_cell BK120.out 1).trans rfl; have hcz38_2 : w36.cell? ⟨gb120, 2, none⟩ = some (.string a0_2) := (blk_cell BK120.out 2).trans rfl; have hcz38_3 : w36.cell? ⟨gb120, 3, none⟩ = some (.int .i64 a0_3) := (blk_cell BK120.out 3).trans rfl; have hcz38_4 : w36.cell? ⟨gb120, 4, none⟩ = some (.slice (some ad122) l0_4.length c0_4) := (blk_cell BK120.out 4).trans rfl; have hfz38_0 := blk_frozen BK120.out 0; have hfz38_1 := blk_frozen BK120.out 1; have hfz38_2 := blk_frozen BK120.out 2; have hfz38_3 := blk_frozen BK120.out 3; have hfz38_4 := blk_frozen BK120.out 4; have hcz39_0 : w36.cell? ⟨gb125, 0, none⟩ = some (.int .i64 ((rd_T82 ((rd_T80 l0_4 x22_2).f0) x33_3).f0.f0)) := (blk_cell BK125.out 0).trans rfl; have hcz39_1 : w36.cell? ⟨gb125, 1, none⟩ = some (.int .i64 ((rd_T82 ((rd_T80 l0_4 x22_2).f0) x33_3).f0.f1)) := (blk_cell BK125.out 1).trans rfl; have hcz39_2 : w36.cell? ⟨gb125, 2, none⟩ = some (.string ((rd_T82 ((rd_T80 l0_4 x22_2).f0) x33_3).f0.f2)) := (blk_cell BK125.out 2).trans rfl; have hcz39_3 : w36.cell? ⟨gb125, 3, none⟩ = some (.int .i64 ((rd_T82 ((rd_T80 l0_4 x22_2).f0) x33_3).f0.f3)) := (blk_cell BK125.out 3).trans rfl; have hcz39_4 : w36.cell? ⟨gb125, 4, none⟩ = some (.int .i64 ((rd_T82 ((rd_T80 l0_4 x22_2).f0) x33_3).f1.f0)) := (blk_cell BK125.out 4).trans rfl; have hcz39_5 : w36.cell? ⟨gb125, 5, none⟩ = some (.int .i64 ((rd_T82 ((rd_T80 l0_4 x22_2).f0) x33_3).f1.f1)) := (blk_cell BK125.out 5).trans rfl; have hcz39_6 : w36.cell? ⟨gb125, 6, none⟩ = some (.string ((rd_T82 ((rd_T80 l0_4 x22_2).f0) x33_3).f1.f2)) := (blk_cell BK125.out 6).trans rfl; have hcz39_7 : w36.cell? ⟨gb125, 7, none⟩ = some (.int .i64 ((rd_T82 ((rd_T80 l0_4 x22_2).f0) x33_3).f1.f3)) := (blk_cell BK125.out 7).trans rfl; have hfz39_0 := blk_frozen BK125.out 0; have hfz39_1 := blk_frozen BK125.out 1; have hfz39_2 := blk_frozen BK125.out 2; have hfz39_3 := blk_frozen BK125.out 3; have hfz39_4 := blk_frozen BK125.out 4; have hfz39_5 := blk_frozen BK125.out 5; have hfz39_6 := blk_frozen BK125.out 6; have hfz39_7 := blk_frozen BK125.out 7) | (go_at_call 56; (with_reducible refine (spec_l2val.calls a0_0 a0_1 a0_2 a0_3 _ _ l0_4 ((rd_T82 ((rd_T80 l0_4 x22_2).f0) x33_3).f1.f0) ((rd_T82 ((rd_T80 l0_4 x22_2).f0) x33_3).f1.f1) ((rd_T82 ((rd_T80 l0_4 x22_2).f0) x33_3).f1.f2) ((rd_T82 ((rd_T80 l0_4 x22_2).f0) x33_3).f1.f3) true _ ?side1 ?side2 A31.out).mono ?_); (case side1 => repeat (first | exact (Kd.C_below HR0_4.out HB.out) | (with_reducible refine Kd.C_alloc ?_ _) | (with_reducible refine Kd.C_drewN ?_ _) | (with_reducible refine Kd.C_drew ?_))); (case side2 => exact HC0_4.out); rintro e w40 ⟨rfl, hb⟩; have n0_ := Aside0.mk (blk_below (g := gb120) (o := .cells #[.int .i64 a0_0, .int .i64 a0_1, .string a0_2, .int .i64 a0_3, .slice (some ad122) l0_4.length c0_4] 48 (0, 0)) (by (with_reducible repeat (first | refine blk_drewN ?_ _ | refine blk_drew ?_ | refine blk_alloc ?_ _)); exact BK120.out) hb); have n1_ := Aside0.mk (blk_below (g := gb123) (o := .cells #[.slice (some ad124) ((rd_T80 l0_4 x22_2).f0).length c122_0] 80 (0, 0)) (by (with_reducible repeat (first | refine blk_drewN ?_ _ | refine blk_drew ?_ | refine blk_alloc ?_ _)); exact BK123.out) hb); have n2_ := Aside0.mk (blk_below (g := gb125) (o := .cells #[.int .i64 ((rd_T82 ((rd_T80 l0_4 x22_2).f0) x33_3).f0.f0), .int .i64 ((rd_T82 ((rd_T80 l0_4 x22_2).f0) x33_3).f0.f1), .string ((rd_T82 ((rd_T80 l0_4 x22_2).f0) x33_3).f0.f2), .int .i64 ((rd_T82 ((rd_T80 l0_4 x22_2).f0) x33_3).f0.f3), .int .i64 ((rd_T82 ((rd_T80 l0_4 x22_2).f0) x33_3).f1.f0), .int .i64 ((rd_T82 ((rd_T80 l0_4 x22_2).f0) x33_3).f1.f1), .string ((rd_T82 ((rd_T80 l0_4 x22_2).f0) x33_3).f1.f2), .int .i64 ((rd_T82 ((rd_T80 l0_4 x22_2).f0) x33_3).f1.f3)] 82 (0, 0)) (by (with_reducible repeat (first | refine blk_drewN ?_ _ | refine blk_drew ?_ | refine blk_alloc ?_ _)); exact BK125.out) hb); have n3_ := Aside0.mk (below_step (by repeat (first | (with_reducible first | exact HB.out | apply below_alloc | apply pw_below_drewN | apply below_drew1 | refine below_set ?_ GE120.out | refine below_set ?_ GE123.out | refine below_set ?_ GE125.out) | exact HB.out)) hb); clear BK120; clear BK123; clear BK125; clear HB; have BK120 := n0_; have BK123 := n1_; have BK125 := n2_; have HB := n3_; clear n0_ n1_ n2_ n3_; (try clear hb); (try clear hb2); (try clear hk); (try clear hi); have hcz41_0 : w40.cell? ⟨gb125, 0, none⟩ = some (.int .i64 ((rd_T82 ((rd_T80 l0_4 x22_2).f0) x33_3).f0.f0)) := (blk_cell BK125.out 0).trans rfl; have hcz41_1 : w40.cell? ⟨gb125, 1, none⟩ = some (.int .i64 ((rd_T82 ((rd_T80 l0_4 x22_2).f0) x33_3).f0.f1)) := (blk_cell BK125.out 1).trans rfl; have hcz41_2 : w40.cell? ⟨gb125, 2, none⟩ = some (.string ((rd_T82 ((rd_T80 l0_4 x22_2).f0) x33_3).f0.f2)) := (blk_cell BK125.out 2).trans rfl; have hcz41_3 : w40.cell? ⟨gb125, 3, none⟩ = some (.int .i64 ((rd_T82 ((rd_T80 l0_4 x22_2).f0) x33_3).f0.f3)) := (blk_cell BK125.out 3).trans rfl; have hcz41_4 : w40.cell? ⟨gb125, 4, none⟩ = some (.int .i64 ((rd_T82 ((rd_T80 l0_4 x22_2).f0) x33_3).f1.f0)) := (blk_cell BK125.out 4).trans rfl; have hcz41_5 : w40.cell? ⟨gb125, 5, none⟩ = some (.int .i64 ((rd_T82 ((rd_T80 l0_4 x22_2).f0) x33_3).f1.f1)) := (blk_cell BK125.out 5).trans rfl; have hcz41_6 : w40.cell? ⟨gb125, 6, none⟩ = some (.string ((rd_T82 ((rd_T80 l0_4 x22_2).f0) x33_3).f1.f2)) := (blk_cell BK125.out 6).trans rfl; have hcz41_7 : w40.cell? ⟨gb125, 7, none⟩ = some (.int .i64 ((rd_T82 ((rd_T80 l0_4 x22_2).f0) x33_3).f1.f3)) := (blk_cell BK125.out 7).trans rfl; have hfz41_0 := blk_frozen BK125.out 0; have hfz41_1 := blk_frozen BK125.out 1; have hfz41_2 := blk_frozen BK125.out 2; have hfz41_3 := blk_frozen BK125.out 3; have hfz41_4 := blk_frozen BK125.out 4; have hfz41_5 := blk_frozen BK125.out 5; have hfz41_6 := blk_frozen BK125.out 6; have hfz41_7 := blk_frozen BK125.out 7)))
                                    go_meet
                                    case rel => exact ⟨_, ((((rd_T82 ((rd_T80 l0_4 x22_2).f0) x33_3).f1.f0) == 0)), (by first | rfl | (simp; done) | (simp [*]; done)), H', ⟨by have := HJ1.out; have := HK2.out; have := HK3.out; first | omega | exact Nat.le_refl _⟩, ⟨by (with_reducible repeat (first | refine blk_drewN ?_ _ | refine blk_drew ?_ | refine blk_alloc ?_ _)); exact BK120.out⟩, ⟨by (with_reducible repeat (first | refine blk_drewN ?_ _ | refine blk_drew ?_ | refine blk_alloc ?_ _)); exact BK123.out⟩, ⟨by (with_reducible repeat (first | refine blk_drewN ?_ _ | refine blk_drew ?_ | refine blk_alloc ?_ _)); exact BK125.out⟩, ⟨by repeat (first | (with_reducible first | exact HB.out | apply below_alloc | apply pw_below_drewN | apply below_drew1 | refine below_set ?_ GE120.out | refine below_set ?_ GE123.out | refine below_set ?_ GE125.out) | exact HB.out)⟩⟩
                                  · replace c32 := Bool.eq_false_iff.mpr c32
                                    subst c32
                                    have H1 : (spec_GraphOk.j3 k3 x33_3 l0_4 (l0_4.length : Int) x22_2 ((rd_T80 l0_4 x22_2).f0) (((rd_T80 l0_4 x22_2).f0).length : Int) x33_3 true a0_0 a0_1 a0_2 a0_3 l0_4 ((rd_T80 l0_4 x22_2).f0) ((rd_T82 ((rd_T80 l0_4 x22_2).f0) x33_3).f0.f0) ((rd_T82 ((rd_T80 l0_4 x22_2).f0) x33_3).f0.f1) ((rd_T82 ((rd_T80 l0_4 x22_2).f0) x33_3).f0.f2) ((rd_T82 ((rd_T80 l0_4 x22_2).f0) x33_3).f0.f3) ((rd_T82 ((rd_T80 l0_4 x22_2).f0) x33_3).f1.f0) ((rd_T82 ((rd_T80 l0_4 x22_2).f0) x33_3).f1.f1) ((rd_T82 ((rd_T80 l0_4 x22_2).f0) x33_3).f1.f2) ((rd_T82 ((rd_T80 l0_4 x22_2).f0) x33_3).f1.f3)) = some r := by rw [if_neg (show ¬ (false = true) by decide)] at H; exact H
                                    clear H
                                    have H := H1
                                    clear H1
                                    have H' := Aside0.mk H
                                    clear H
                                    have hnb42 := NB125_120.out
                                    have hnc42 := NB120_125.out
                                    have hnb43 := NB125_123.out
                                    have hnc43 := NB123_125.out
                                    have hcz44_0 : w25.cell? ⟨gb125, 0, none⟩ = some (.int .i64 0) := (blk_cell BK125.out 0).trans rfl
                                    have hcz44_1 : w25.cell? ⟨gb125, 1, none⟩ = some (.int .i64 0) := (blk_cell BK125.out 1).trans rfl
                                    have hcz44_2 : w25.cell? ⟨gb125, 2, none⟩ = some (.string (⟨#[]⟩ : ByteArray)) := (blk_cell BK125.out 2).trans rfl
                                    have hcz44_3 : w25.cell? ⟨gb125, 3, none⟩ = some (.int .i64 0) := (blk_cell BK125.out 3).trans rfl
                                    have hcz44_4 : w25.cell? ⟨gb125, 4, none⟩ = some (.int .i64 0) := (blk_cell BK125.out 4).trans rfl
                                    have hcz44_5 : w25.cell? ⟨gb125, 5, none⟩ = some (.int .i64 0) := (blk_cell BK125.out 5).trans rfl
                                    have hcz44_6 : w25.cell? ⟨gb125, 6, none⟩ = some (.string (⟨#[]⟩ : ByteArray)) := (blk_cell BK125.out 6).trans rfl
                                    have hcz44_7 : w25.cell? ⟨gb125, 7, none⟩ = some (.int .i64 0) := (blk_cell BK125.out 7).trans rfl
                                    have hfz44_0 := blk_frozen BK125.out 0
                                    have hfz44_1 := blk_frozen BK125.out 1
                                    have hfz44_2 := blk_frozen BK125.out 2
                                    have hfz44_3 := blk_frozen BK125.out 3
                                    have hfz44_4 := blk_frozen BK125.out 4
                                    have hfz44_5 := blk_frozen BK125.out 5
                                    have hfz44_6 := blk_frozen BK125.out 6
                                    have hfz44_7 := blk_frozen BK125.out 7
                                    go_wp2_with (first | (go_at_call 43; (with_reducible refine (spec_l2key.calls ((rd_T82 ((rd_T80 l0_4 x22_2).f0) x33_3).f0.f0) ((rd_T82 ((rd_T80 l0_4 x22_2).f0) x33_3).f0.f1) ((rd_T82 ((rd_T80 l0_4 x22_2).f0) x33_3).f0.f2) ((rd_T82 ((rd_T80 l0_4 x22_2).f0) x33_3).f0.f3) true _ A29.out).mono ?_); rintro e w45 ⟨rfl, hb⟩; have n0_ := Aside0.mk (blk_below (g := gb120) (o := .cells #[.int .i64 a0_0, .int .i64 a0_1, .string a0_2, .int .i64 a0_3, .slice (some ad122) l0_4.length c0_4] 48 (0, 0)) (by (with_reducible repeat (first | refine blk_drewN ?_ _ | refine blk_drew ?_ | refine blk_alloc ?_ _)); refine blk_far ?_ NB120_125.out _; (with_reducible repeat (first | refine blk_drewN ?_ _ | refine blk_drew ?_ | refine blk_alloc ?_ _)); refine blk_far ?_ NB120_125.out _; (with_reducible repeat (first | refine blk_drewN ?_ _ | refine blk_drew ?_ | refine blk_alloc ?_ _)); refine blk_far ?_ NB120_125.out _; (with_reducible repeat (first | refine blk_drewN ?_ _ | refine blk_drew ?_ | refine blk_alloc ?_ _)); refine blk_far ?_ NB120_125.out _; (with_reducible repeat (first | refine blk_drewN ?_ _ | refine blk_drew ?_ | refine blk_alloc ?_ _)); refine blk_far ?_ NB120_125.out _; (with_reducible repeat (first | refine blk_drewN ?_ _ | refine blk_drew ?_ | refine blk_alloc ?_ _)); refine blk_far ?_ NB120_125.out _; (with_reducible repeat (first | refine blk_drewN ?_ _ | refine blk_drew ?_ | refine blk_alloc ?_ _)); refine blk_far ?_ NB120_125.out _; (with_reducible repeat (first | refine blk_drewN ?_ _ | refine blk_drew ?_ | refine blk_alloc ?_ _)); refine blk_far ?_ NB120_125.out _; (with_reducible repeat (first | refine blk_drewN ?_ _ | refine blk_drew ?_ | refine blk_alloc ?_ _)); exact BK120.out) hb); have n1_ := Aside0.mk (blk_below (g := gb123) (o := .cells #[.slice (some ad124) ((rd_T80 l0_4 x22_2).f0).length c122_0] 80 (0, 0)) (by (with_reducible repeat (first | refine blk_drewN ?_ _ | refine blk_drew ?_ | refine blk_alloc ?_ _)); refine blk_far ?_ NB123_125.out _; (with_reducible repeat (first | refine blk_drewN ?_ _ | refine blk_drew ?_ | refine blk_alloc ?_ _)); refine blk_far ?_ NB123_125.out _; (with_reducible repeat (first | refine blk_drewN ?_ _ | refine blk_drew ?_ | refine blk_alloc ?_ _)); refine blk_far ?_ NB123_125.out _; (with_reducible repeat (first | refine blk_drewN ?_ _ | refine blk_drew ?_ | refine blk_alloc ?_ _)); refine blk_far ?_ NB123_125.out _; (with_reducible repeat (first | refine blk_drewN ?_ _ | refine blk_drew ?_ | refine blk_alloc ?_ _)); refine blk_far ?_ NB123_125.out _; (with_reducible repeat (first | refine blk_drewN ?_ _ | refine blk_drew ?_ | refine blk_alloc ?_ _)); refine blk_far ?_ NB123_125.out _; (with_reducible repeat (first | refine blk_drewN ?_ _ | refine blk_drew ?_ | refine blk_alloc ?_ _)); refine blk_far ?_ NB123_125.out _; (with_reducible repeat (first | refine blk_drewN ?_ _ | refine blk_drew ?_ | refine blk_alloc ?_ _)); refine blk_far ?_ NB123_125.out _; (with_reducible repeat (first | refine blk_drewN ?_ _ | refine blk_drew ?_ | refine blk_alloc ?_ _)); exact BK123.out) hb); have n2_ := Aside0.mk (blk_below (g := gb125) (o := .cells #[.int .i64 ((rd_T82 ((rd_T80 l0_4 x22_2).f0) x33_3).f0.f0), .int .i64 ((rd_T82 ((rd_T80 l0_4 x22_2).f0) x33_3).f0.f1), .string ((rd_T82 ((rd_T80 l0_4 x22_2).f0) x33_3).f0.f2), .int .i64 ((rd_T82 ((rd_T80 l0_4 x22_2).f0) x33_3).f0.f3), .int .i64 ((rd_T82 ((rd_T80 l0_4 x22_2).f0) x33_3).f1.f0), .int .i64 ((rd_T82 ((rd_T80 l0_4 x22_2).f0) x33_3).f1.f1), .string ((rd_T82 ((rd_T80 l0_4 x22_2).f0) x33_3).f1.f2), .int .i64 ((rd_T82 ((rd_T80 l0_4 x22_2).f0) x33_3).f1.f3)] 82 (0, 0)) (by (with_reducible repeat (first | refine blk_drewN ?_ _ | refine blk_drew ?_ | refine blk_alloc ?_ _)); refine blk_put (cs := #[.int .i64 ((rd_T82 ((rd_T80 l0_4 x22_2).f0) x33_3).f0.f0), .int .i64 ((rd_T82 ((rd_T80 l0_4 x22_2).f0) x33_3).f0.f1), .string ((rd_T82 ((rd_T80 l0_4 x22_2).f0) x33_3).f0.f2), .int .i64 ((rd_T82 ((rd_T80 l0_4 x22_2).f0) x33_3).f0.f3), .int .i64 ((rd_T82 ((rd_T80 l0_4 x22_2).f0) x33_3).f1.f0), .int .i64 ((rd_T82 ((rd_T80 l0_4 x22_2).f0) x33_3).f1.f1), .string ((rd_T82 ((rd_T80 l0_4 x22_2).f0) x33_3).f1.f2), .int .i64 0]) ?_ 7 _ rfl; (with_reducible repeat (first | refine blk_drewN ?_ _ | refine blk_drew ?_ | refine blk_alloc ?_ _)); refine blk_put (cs := #[.int .i64 ((rd_T82 ((rd_T80 l0_4 x22_2).f0) x33_3).f0.f0), .int .i64 ((rd_T82 ((rd_T80 l0_4 x22_2).f0) x33_3).f0.f1), .string ((rd_T82 ((rd_T80 l0_4 x22_2).f0) x33_3).f0.f2), .int .i64 ((rd_T82 ((rd_T80 l0_4 x22_2).f0) x33_3).f0.f3), .int .i64 ((rd_T82 ((rd_T80 l0_4 x22_2).f0) x33_3).f1.f0), .int .i64 ((rd_T82 ((rd_T80 l0_4 x22_2).f0) x33_3).f1.f1), .string (⟨#[]⟩ : ByteArray), .int .i64 0]) ?_ 6 _ rfl; (with_reducible repeat (first | refine blk_drewN ?_ _ | refine blk_drew ?_ | refine blk_alloc ?_ _)); refine blk_put (cs := #[.int .i64 ((rd_T82 ((rd_T80 l0_4 x22_2).f0) x33_3).f0.f0), .int .i64 ((rd_T82 ((rd_T80 l0_4 x22_2).f0) x33_3).f0.f1), .string ((rd_T82 ((rd_T80 l0_4 x22_2).f0) x33_3).f0.f2), .int .i64 ((rd_T82 ((rd_T80 l0_4 x22_2).f0) x33_3).f0.f3), .int .i64 ((rd_T82 ((rd_T80 l0_4 x22_2).f0) x33_3).f1.f0), .int .i64 0, .string (⟨#[]⟩ : ByteArray), .int .i64 0]) ?_ 5 _ rfl; (with_reducible repeat (first | refine blk_drewN ?_ _ | refine blk_drew ?_ | refine blk_alloc ?_ _)); refine blk_put (cs := #[.int .i64 ((rd_T82 ((rd_T80 l0_4 x22_2).f0) x33_3).f0.f0), .int .i64 ((rd_T82 ((rd_T80 l0_4 x22_2).f0) x33_3).f0.f1), .string ((rd_T82 ((rd_T80 l0_4 x22_2).f0) x33_3).f0.f2), .int .i64 ((rd_T82 ((rd_T80 l0_4 x22_2).f0) x33_3).f0.f3), .int .i64 0, .int .i64 0, .string (⟨#[]⟩ : ByteArray), .int .i64 0]) ?_ 4 _ rfl; (with_reducible repeat (first | refine blk_drewN ?_ _ | refine blk_drew ?_ | refine blk_alloc ?_ _)); refine blk_put (cs := #[.int .i64 ((rd_T82 ((rd_T80 l0_4 x22_2).f0) x33_3).f0.f0), .int .i64 ((rd_T82 ((rd_T80 l0_4 x22_2).f0) x33_3).f0.f1), .string ((rd_T82 ((rd_T80 l0_4 x22_2).f0) x33_3).f0.f2), .int .i64 0, .int .i64 0, .int .i64 0, .string (⟨#[]⟩ : ByteArray), .int .i64 0]) ?_ 3 _ rfl; (with_reducible repeat (first | refine blk_drewN ?_ _ | refine blk_drew ?_ | refine blk_alloc ?_ _)); refine blk_put (cs := #[.int .i64 ((rd_T82 ((rd_T80 l0_4 x22_2).f0) x33_3).f0.f0), .int .i64 ((rd_T82 ((rd_T80 l0_4 x22_2).f0) x33_3).f0.f1), .string (⟨#[]⟩ : ByteArray), .int .i64 0, .int .i64 0, .int .i64 0, .string (⟨#[]⟩ : ByteArray), .int .i64 0]) ?_ 2 _ rfl; (with_reducible repeat (first | refine blk_drewN ?_ _ | refine blk_drew ?_ | refine blk_alloc ?_ _)); refine blk_put (cs := #[.int .i64 ((rd_T82 ((rd_T80 l0_4 x22_2).f0) x33_3).f0.f0), .int .i64 0, .string (⟨#[]⟩ : ByteArray), .int .i64 0, .int .i64 0, .int .i64 0, .string (⟨#[]⟩ : ByteArray), .int .i64 0]) ?_ 1 _ rfl; (with_reducible repeat (first | refine blk_drewN ?_ _ | refine blk_drew ?_ | refine blk_alloc ?_ _)); refine blk_put (cs := #[.int .i64 0, .int .i64 0, .string (⟨#[]⟩ : ByteArray), .int .i64 0, .int .i64 0, .int .i64 0, .string (⟨#[]⟩ : ByteArray), .int .i64 0]) ?_ 0 _ rfl; (with_reducible repeat (first | refine blk_drewN ?_ _ | refine blk_drew ?_ | refine blk_alloc ?_ _)); exact BK125.out) hb); have n3_ := Aside0.mk (below_step (by repeat (first | (with_reducible first | exact HB.out | apply below_alloc | apply pw_below_drewN | apply below_drew1 | refine below_set ?_ GE120.out | refine below_set ?_ GE123.out | refine below_set ?_ GE125.out) | exact HB.out)) hb); clear BK120; clear BK123; clear BK125; clear HB; have BK120 := n0_; have BK123 := n1_; have BK125 := n2_; have HB := n3_; clear n0_ n1_ n2_ n3_; (try clear hb); (try clear hb2); (try clear hk); (try clear hi); have hnb46 := NB120_123.out; have hnc46 := NB123_120.out; have hcz47_0 : w45.cell? ⟨gb120, 0, none⟩ = some (.int .i64 a0_0) := (blk_cell BK120.out 0).trans rfl; have hcz47_1 : w45.cell? ⟨gb120, 1, none⟩ = some (.int .i64 a0_1) := (blk_cell BK120.out 1).trans rfl; have hcz47_2 : w45.cell? ⟨gb120, 2, none⟩ = some (.string a0_2) := (blk_cell BK120.out 2).trans rfl; have hcz47_3 : w45.cell? ⟨gb120, 3, none⟩ = some (.int .i64 a0_3) := (blk_cell BK120.out 3).trans rfl; have hcz47_4 : w45.cell? ⟨gb120, 4, none⟩ = some (.slice (some ad122) l0_4.length c0_4) := (blk_cell BK120.out 4).trans rfl; have hfz47_0 := blk_frozen BK120.out 0; have hfz47_1 := blk_frozen BK120.out 1; have hfz47_2 := blk_frozen BK120.out 2; have hfz47_3 := blk_frozen BK120.out 3; have hfz47_4 := blk_frozen BK120.out 4; have hcz48_0 : w45.cell? ⟨gb125, 0, none⟩ = some (.int .i64 ((rd_T82 ((rd_T80 l0_4 x22_2).f0) x33_3).f0.f0)) := (blk_cell BK125.out 0).trans rfl; have hcz48_1 : w45.cell? ⟨gb125, 1, none⟩ = some (.int .i64 ((rd_T82 ((rd_T80 l0_4 x22_2).f0) x33_3).f0.f1)) := (blk_cell BK125.out 1).trans rfl; have hcz48_2 : w45.cell? ⟨gb125, 2, none⟩ = some (.string ((rd_T82 ((rd_T80 l0_4 x22_2).f0) x33_3).f0.f2)) := (blk_cell BK125.out 2).trans rfl; have hcz48_3 : w45.cell? ⟨gb125, 3, none⟩ = some (.int .i64 ((rd_T82 ((rd_T80 l0_4 x22_2).f0) x33_3).f0.f3)) := (blk_cell BK125.out 3).trans rfl; have hcz48_4 : w45.cell? ⟨gb125, 4, none⟩ = some (.int .i64 ((rd_T82 ((rd_T80 l0_4 x22_2).f0) x33_3).f1.f0)) := (blk_cell BK125.out 4).trans rfl; have hcz48_5 : w45.cell? ⟨gb125, 5, none⟩ = some (.int .i64 ((rd_T82 ((rd_T80 l0_4 x22_2).f0) x33_3).f1.f1)) := (blk_cell BK125.out 5).trans rfl; have hcz48_6 : w45.cell? ⟨gb125, 6, none⟩ = some (.string ((rd_T82 ((rd_T80 l0_4 x22_2).f0) x33_3).f1.f2)) := (blk_cell BK125.out 6).trans rfl; have hcz48_7 : w45.cell? ⟨gb125, 7, none⟩ = some (.int .i64 ((rd_T82 ((rd_T80 l0_4 x22_2).f0) x33_3).f1.f3)) := (blk_cell BK125.out 7).trans rfl; have hfz48_0 := blk_frozen BK125.out 0; have hfz48_1 := blk_frozen BK125.out 1; have hfz48_2 := blk_frozen BK125.out 2; have hfz48_3 := blk_frozen BK125.out 3; have hfz48_4 := blk_frozen BK125.out 4; have hfz48_5 := blk_frozen BK125.out 5; have hfz48_6 := blk_frozen BK125.out 6; have hfz48_7 := blk_frozen BK125.out 7) | (go_at_call 56; (with_reducible refine (spec_l2val.calls a0_0 a0_1 a0_2 a0_3 _ _ l0_4 ((rd_T82 ((rd_T80 l0_4 x22_2).f0) x33_3).f1.f0) ((rd_T82 ((rd_T80 l0_4 x22_2).f0) x33_3).f1.f1) ((rd_T82 ((rd_T80 l0_4 x22_2).f0) x33_3).f1.f2) ((rd_T82 ((rd_T80 l0_4 x22_2).f0) x33_3).f1.f3) false _ ?side1 ?side2 A31.out).mono ?_); (case side1 => repeat (first | exact (Kd.C_below HR0_4.out HB.out) | (with_reducible refine Kd.C_alloc ?_ _) | (with_reducible refine Kd.C_drewN ?_ _) | (with_reducible refine Kd.C_drew ?_))); (case side2 => exact HC0_4.out); rintro e w49 ⟨rfl, hb⟩; have n0_ := Aside0.mk (blk_below (g := gb120) (o := .cells #[.int .i64 a0_0, .int .i64 a0_1, .string a0_2, .int .i64 a0_3, .slice (some ad122) l0_4.length c0_4] 48 (0, 0)) (by (with_reducible repeat (first | refine blk_drewN ?_ _ | refine blk_drew ?_ | refine blk_alloc ?_ _)); exact BK120.out) hb); have n1_ := Aside0.mk (blk_below (g := gb123) (o := .cells #[.slice (some ad124) ((rd_T80 l0_4 x22_2).f0).length c122_0] 80 (0, 0)) (by (with_reducible repeat (first | refine blk_drewN ?_ _ | refine blk_drew ?_ | refine blk_alloc ?_ _)); exact BK123.out) hb); have n2_ := Aside0.mk (blk_below (g := gb125) (o := .cells #[.int .i64 ((rd_T82 ((rd_T80 l0_4 x22_2).f0) x33_3).f0.f0), .int .i64 ((rd_T82 ((rd_T80 l0_4 x22_2).f0) x33_3).f0.f1), .string ((rd_T82 ((rd_T80 l0_4 x22_2).f0) x33_3).f0.f2), .int .i64 ((rd_T82 ((rd_T80 l0_4 x22_2).f0) x33_3).f0.f3), .int .i64 ((rd_T82 ((rd_T80 l0_4 x22_2).f0) x33_3).f1.f0), .int .i64 ((rd_T82 ((rd_T80 l0_4 x22_2).f0) x33_3).f1.f1), .string ((rd_T82 ((rd_T80 l0_4 x22_2).f0) x33_3).f1.f2), .int .i64 ((rd_T82 ((rd_T80 l0_4 x22_2).f0) x33_3).f1.f3)] 82 (0, 0)) (by (with_reducible repeat (first | refine blk_drewN ?_ _ | refine blk_drew ?_ | refine blk_alloc ?_ _)); exact BK125.out) hb); have n3_ := Aside0.mk (below_step (by repeat (first | (with_reducible first | exact HB.out | apply below_alloc | apply pw_below_drewN | apply below_drew1 | refine below_set ?_ GE120.out | refine below_set ?_ GE123.out | refine below_set ?_ GE125.out) | exact HB.out)) hb); clear BK120; clear BK123; clear BK125; clear HB; have BK120 := n0_; have BK123 := n1_; have BK125 := n2_; have HB := n3_; clear n0_ n1_ n2_ n3_; (try clear hb); (try clear hb2); (try clear hk); (try clear hi)))
                                    repeat (go_quiet (first | (go_at_call 43; (with_reducible refine (spec_l2key.calls ((rd_T82 ((rd_T80 l0_4 x22_2).f0) x33_3).f0.f0) ((rd_T82 ((rd_T80 l0_4 x22_2).f0) x33_3).f0.f1) ((rd_T82 ((rd_T80 l0_4 x22_2).f0) x33_3).f0.f2) ((rd_T82 ((rd_T80 l0_4 x22_2).f0) x33_3).f0.f3) true _ A29.out).mono ?_); rintro e w45 ⟨rfl, hb⟩; have n0_ := Aside0.mk (blk_below (g := gb120) (o := .cells #[.int .i64 a0_0, .int .i64 a0_1, .string a0_2, .int .i64 a0_3, .slice (some ad122) l0_4.length c0_4] 48 (0, 0)) (by (with_reducible repeat (first | refine blk_drewN ?_ _ | refine blk_drew ?_ | refine blk_alloc ?_ _)); refine blk_far ?_ NB120_125.out _; (with_reducible repeat (first | refine blk_drewN ?_ _ | refine blk_drew ?_ | refine blk_alloc ?_ _)); refine blk_far ?_ NB120_125.out _; (with_reducible repeat (first | refine blk_drewN ?_ _ | refine blk_drew ?_ | refine blk_alloc ?_ _)); refine blk_far ?_ NB120_125.out _; (with_reducible repeat (first | refine blk_drewN ?_ _ | refine blk_drew ?_ | refine blk_alloc ?_ _)); refine blk_far ?_ NB120_125.out _; (with_reducible repeat (first | refine blk_drewN ?_ _ | refine blk_drew ?_ | refine blk_alloc ?_ _)); refine blk_far ?_ NB120_125.out _; (with_reducible repeat (first | refine blk_drewN ?_ _ | refine blk_drew ?_ | refine blk_alloc ?_ _)); refine blk_far ?_ NB120_125.out _; (with_reducible repeat (first | refine blk_drewN ?_ _ | refine blk_drew ?_ | refine blk_alloc ?_ _)); refine blk_far ?_ NB120_125.out _; (with_reducible repeat (first | refine blk_drewN ?_ _ | refine blk_drew ?_ | refine blk_alloc ?_ _)); refine blk_far ?_ NB120_125.out _; (with_reducible repeat (first | refine blk_drewN ?_ _ | refine blk_drew ?_ | refine blk_alloc ?_ _)); exact BK120.out) hb); have n1_ := Aside0.mk (blk_below (g := gb123) (o := .cells #[.slice (some ad124) ((rd_T80 l0_4 x22_2).f0).length c122_0] 80 (0, 0)) (by (with_reducible repeat (first | refine blk_drewN ?_ _ | refine blk_drew ?_ | refine blk_alloc ?_ _)); refine blk_far ?_ NB123_125.out _; (with_reducible repeat (first | refine blk_drewN ?_ _ | refine blk_drew ?_ | refine blk_alloc ?_ _)); refine blk_far ?_ NB123_125.out _; (with_reducible repeat (first | refine blk_drewN ?_ _ | refine blk_drew ?_ | refine blk_alloc ?_ _)); refine blk_far ?_ NB123_125.out _; (with_reducible repeat (first | refine blk_drewN ?_ _ | refine blk_drew ?_ | refine blk_alloc ?_ _)); refine blk_far ?_ NB123_125.out _; (with_reducible repeat (first | refine blk_drewN ?_ _ | refine blk_drew ?_ | refine blk_alloc ?_ _)); refine blk_far ?_ NB123_125.out _; (with_reducible repeat (first | refine blk_drewN ?_ _ | refine blk_drew ?_ | refine blk_alloc ?_ _)); refine blk_far ?_ NB123_125.out _; (with_reducible repeat (first | refine blk_drewN ?_ _ | refine blk_drew ?_ | refine blk_alloc ?_ _)); refine blk_far ?_ NB123_125.out _; (with_reducible repeat (first | refine blk_drewN ?_ _ | refine blk_drew ?_ | refine blk_alloc ?_ _)); refine blk_far ?_ NB123_125.out _; (with_reducible repeat (first | refine blk_drewN ?_ _ | refine blk_drew ?_ | refine blk_alloc ?_ _)); exact BK123.out) hb); have n2_ := Aside0.mk (blk_below (g := gb125) (o := .cells #[.int .i64 ((rd_T82 ((rd_T80 l0_4 x22_2).f0) x33_3).f0.f0), .int .i64 ((rd_T82 ((rd_T80 l0_4 x22_2).f0) x33_3).f0.f1), .string ((rd_T82 ((rd_T80 l0_4 x22_2).f0) x33_3).f0.f2), .int .i64 ((rd_T82 ((rd_T80 l0_4 x22_2).f0) x33_3).f0.f3), .int .i64 ((rd_T82 ((rd_T80 l0_4 x22_2).f0) x33_3).f1.f0), .int .i64 ((rd_T82 ((rd_T80 l0_4 x22_2).f0) x33_3).f1.f1), .string ((rd_T82 ((rd_T80 l0_4 x22_2).f0) x33_3).f1.f2), .int .i64 ((rd_T82 ((rd_T80 l0_4 x22_2).f0) x33_3).f1.f3)] 82 (0, 0)) (by (with_reducible repeat (first | refine blk_drewN ?_ _ | refine blk_drew ?_ | refine blk_alloc ?_ _)); refine blk_put (cs := #[.int .i64 ((rd_T82 ((rd_T80 l0_4 x22_2).f0) x33_3).f0.f0), .int .i64 ((rd_T82 ((rd_T80 l0_4 x22_2).f0) x33_3).f0.f1), .string ((rd_T82 ((rd_T80 l0_4 x22_2).f0) x33_3).f0.f2), .int .i64 ((rd_T82 ((rd_T80 l0_4 x22_2).f0) x33_3).f0.f3), .int .i64 ((rd_T82 ((rd_T80 l0_4 x22_2).f0) x33_3).f1.f0), .int .i64 ((rd_T82 ((rd_T80 l0_4 x22_2).f0) x33_3).f1.f1), .string ((rd_T82 ((rd_T80 l0_4 x22_2).f0) x33_3).f1.f2), .int .i64 0]) ?_ 7 _ rfl; (with_reducible repeat (first | refine blk_drewN ?_ _ | refine blk_drew ?_ | refine blk_alloc ?_ _)); refine blk_put (cs := #[.int .i64 ((rd_T82 ((rd_T80 l0_4 x22_2).f0) x33_3).f0.f0), .int .i64 ((rd_T82 ((rd_T80 l0_4 x22_2).f0) x33_3).f0.f1), .string ((rd_T82 ((rd_T80 l0_4 x22_2).f0) x33_3).f0.f2), .int .i64 ((rd_T82 ((rd_T80 l0_4 x22_2).f0) x33_3).f0.f3), .int .i64 ((rd_T82 ((rd_T80 l0_4 x22_2).f0) x33_3).f1.f0), .int .i64 ((rd_T82 ((rd_T80 l0_4 x22_2).f0) x33_3).f1.f1), .string (⟨#[]⟩ : ByteArray), .int .i64 0]) ?_ 6 _ rfl; (with_reducible repeat (first | refine blk_drewN ?_ _ | refine blk_drew ?_ | refine blk_alloc ?_ _)); refine blk_put (cs := #[.int .i64 ((rd_T82 ((rd_T80 l0_4 x22_2).f0) x33_3).f0.f0), .int .i64 ((rd_T82 ((rd_T80 l0_4 x22_2).f0) x33_3).f0.f1), .string ((rd_T82 ((rd_T80 l0_4 x22_2).f0) x33_3).f0.f2), .int .i64 ((rd_T82 ((rd_T80 l0_4 x22_2).f0) x33_3).f0.f3), .int .i64 ((rd_T82 ((rd_T80 l0_4 x22_2).f0) x33_3).f1.f0), .int .i64 0, .string (⟨#[]⟩ : ByteArray), .int .i64 0]) ?_ 5 _ rfl; (with_reducible repeat (first | refine blk_drewN ?_ _ | refine blk_drew ?_ | refine blk_alloc ?_ _)); refine blk_put (cs := #[.int .i64 ((rd_T82 ((rd_T80 l0_4 x22_2).f0) x33_3).f0.f0), .int .i64 ((rd_T82 ((rd_T80 l0_4 x22_2).f0) x33_3).f0.f1), .string ((rd_T82 ((rd_T80 l0_4 x22_2).f0) x33_3).f0.f2), .int .i64 ((rd_T82 ((rd_T80 l0_4 x22_2).f0) x33_3).f0.f3), .int .i64 0, .int .i64 0, .string (⟨#[]⟩ : ByteArray), .int .i64 0]) ?_ 4 _ rfl; (with_reducible repeat (first | refine blk_drewN ?_ _ | refine blk_drew ?_ | refine blk_alloc ?_ _)); refine blk_put (cs := #[.int .i64 ((rd_T82 ((rd_T80 l0_4 x22_2).f0) x33_3).f0.f0), .int .i64 ((rd_T82 ((rd_T80 l0_4 x22_2).f0) x33_3).f0.f1), .string ((rd_T82 ((rd_T80 l0_4 x22_2).f0) x33_3).f0.f2), .int .i64 0, .int .i64 0, .int .i64 0, .string (⟨#[]⟩ : ByteArray), .int .i64 0]) ?_ 3 _ rfl; (with_reducible repeat (first | refine blk_drewN ?_ _ | refine blk_drew ?_ | refine blk_alloc ?_ _)); refine blk_put (cs := #[.int .i64 ((rd_T82 ((rd_T80 l0_4 x22_2).f0) x33_3).f0.f0), .int .i64 ((rd_T82 ((rd_T80 l0_4 x22_2).f0) x33_3).f0.f1), .string (⟨#[]⟩ : ByteArray), .int .i64 0, .int .i64 0, .int .i64 0, .string (⟨#[]⟩ : ByteArray), .int .i64 0]) ?_ 2 _ rfl; (with_reducible repeat (first | refine blk_drewN ?_ _ | refine blk_drew ?_ | refine blk_alloc ?_ _)); refine blk_put (cs := #[.int .i64 ((rd_T82 ((rd_T80 l0_4 x22_2).f0) x33_3).f0.f0), .int .i64 0, .string (⟨#[]⟩ : ByteArray), .int .i64 0, .int .i64 0, .int .i64 0, .string (⟨#[]⟩ : ByteArray), .int .i64 0]) ?_ 1 _ rfl; (with_reducible repeat (first | refine blk_drewN ?_ _ | refine blk_drew ?_ | refine blk_alloc ?_ _)); refine blk_put (cs := #[.int .i64 0, .int .i64 0, .string (⟨#[]⟩ : ByteArray), .int .i64 0, .int .i64 0, .int .i64 0, .string (⟨#[]⟩ : ByteArray), .int .i64 0]) ?_ 0 _ rfl; (with_reducible repeat (first | refine blk_drewN ?_ _ | refine blk_drew ?_ | refine blk_alloc ?_ _)); exact BK125.out) hb); have n3_ := Aside0.mk (below_step (by repeat (first | (with_reducible first | exact HB.out | apply below_alloc | apply pw_below_drewN | apply below_drew1 | refine below_set ?_ GE120.out | refine below_set ?_ GE123.out | refine below_set ?_ GE125.out) | exact HB.out)) hb); clear BK120; clear BK123; clear BK125; clear HB; have BK120 := n0_; have BK123 := n1_; have BK125 := n2_; have HB := n3_; clear n0_ n1_ n2_ n3_; (try clear hb); (try clear hb2); (try clear hk); (try clear hi); have hnb46 := NB120_123.out; have hnc46 := NB123_120.out; have hcz47_0 : w45.cell? ⟨gb120, 0, none⟩ = some (.int .i64 a0_0) := (blk_cell BK120.out 0).trans rfl; have hcz47_1 : w45.cell? ⟨gb120, 1, none⟩ = some (.int .i64 a0_1) := (blk_cell BK120.out 1).trans rfl; have hcz47_2 : w45.cell? ⟨gb120, 2, none⟩ = some (.string a0_2) := (blk_cell BK120.out 2).trans rfl; have hcz47_3 : w45.cell? ⟨gb120, 3, none⟩ = some (.int .i64 a0_3) := (blk_cell BK120.out 3).trans rfl; have hcz47_4 : w45.cell? ⟨gb120, 4, none⟩ = some (.slice (some ad122) l0_4.length c0_4) := (blk_cell BK120.out 4).trans rfl; have hfz47_0 := blk_frozen BK120.out 0; have hfz47_1 := blk_frozen BK120.out 1; have hfz47_2 := blk_frozen BK120.out 2; have hfz47_3 := blk_frozen BK120.out 3; have hfz47_4 := blk_frozen BK120.out 4; have hcz48_0 : w45.cell? ⟨gb125, 0, none⟩ = some (.int .i64 ((rd_T82 ((rd_T80 l0_4 x22_2).f0) x33_3).f0.f0)) := (blk_cell BK125.out 0).trans rfl; have hcz48_1 : w45.cell? ⟨gb125, 1, none⟩ = some (.int .i64 ((rd_T82 ((rd_T80 l0_4 x22_2).f0) x33_3).f0.f1)) := (blk_cell BK125.out 1).trans rfl; have hcz48_2 : w45.cell? ⟨gb125, 2, none⟩ = some (.string ((rd_T82 ((rd_T80 l0_4 x22_2).f0) x33_3).f0.f2)) := (blk_cell BK125.out 2).trans rfl; have hcz48_3 : w45.cell? ⟨gb125, 3, none⟩ = some (.int .i64 ((rd_T82 ((rd_T80 l0_4 x22_2).f0) x33_3).f0.f3)) := (blk_cell BK125.out 3).trans rfl; have hcz48_4 : w45.cell? ⟨gb125, 4, none⟩ = some (.int .i64 ((rd_T82 ((rd_T80 l0_4 x22_2).f0) x33_3).f1.f0)) := (blk_cell BK125.out 4).trans rfl; have hcz48_5 : w45.cell? ⟨gb125, 5, none⟩ = some (.int .i64 ((rd_T82 ((rd_T80 l0_4 x22_2).f0) x33_3).f1.f1)) := (blk_cell BK125.out 5).trans rfl; have hcz48_6 : w45.cell? ⟨gb125, 6, none⟩ = some (.string ((rd_T82 ((rd_T80 l0_4 x22_2).f0) x33_3).f1.f2)) := (blk_cell BK125.out 6).trans rfl; have hcz48_7 : w45.cell? ⟨gb125, 7, none⟩ = some (.int .i64 ((rd_T82 ((rd_T80 l0_4 x22_2).f0) x33_3).f1.f3)) := (blk_cell BK125.out 7).trans rfl; have hfz48_0 := blk_frozen BK125.out 0; have hfz48_1 := blk_frozen BK125.out 1; have hfz48_2 := blk_frozen BK125.out 2; have hfz48_3 := blk_frozen BK125.out 3; have hfz48_4 := blk_frozen BK125.out 4; have hfz48_5 := blk_frozen BK125.out 5; have hfz48_6 := blk_frozen BK125.out 6; have hfz48_7 := blk_frozen BK125.out 7) | (go_at_call 56; (with_reducible refine (spec_l2val.calls a0_0 a0_1 a0_2 a0_3 _ _ l0_4 ((rd_T82 ((rd_T80 l0_4 x22_2).f0) x33_3).f1.f0) ((rd_T82 ((rd_T80 l0_4 x22_2).f0) x33_3).f1.f1) ((rd_T82 ((rd_T80 l0_4 x22_2).f0) x33_3).f1.f2) ((rd_T82 ((rd_T80 l0_4 x22_2).f0) x33_3).f1.f3) false _ ?side1 ?side2 A31.out).mono ?_); (case side1 => repeat (first | exact (Kd.C_below HR0_4.out HB.out) | (with_reducible refine Kd.C_alloc ?_ _) | (with_reducible refine Kd.C_drewN ?_ _) | (with_reducible refine Kd.C_drew ?_))); (case side2 => exact HC0_4.out); rintro e w49 ⟨rfl, hb⟩; have n0_ := Aside0.mk (blk_below (g := gb120) (o := .cells #[.int .i64 a0_0, .int .i64 a0_1, .string a0_2, .int .i64 a0_3, .slice (some ad122) l0_4.length c0_4] 48 (0, 0)) (by (with_reducible repeat (first | refine blk_drewN ?_ _ | refine blk_drew ?_ | refine blk_alloc ?_ _)); exact BK120.out) hb); have n1_ := Aside0.mk (blk_below (g := gb123) (o := .cells #[.slice (some ad124) ((rd_T80 l0_4 x22_2).f0).length c122_0] 80 (0, 0)) (by (with_reducible repeat (first | refine blk_drewN ?_ _ | refine blk_drew ?_ | refine blk_alloc ?_ _)); exact BK123.out) hb); have n2_ := Aside0.mk (blk_below (g := gb125) (o := .cells #[.int .i64 ((rd_T82 ((rd_T80 l0_4 x22_2).f0) x33_3).f0.f0), .int .i64 ((rd_T82 ((rd_T80 l0_4 x22_2).f0) x33_3).f0.f1), .string ((rd_T82 ((rd_T80 l0_4 x22_2).f0) x33_3).f0.f2), .int .i64 ((rd_T82 ((rd_T80 l0_4 x22_2).f0) x33_3).f0.f3), .int .i64 ((rd_T82 ((rd_T80 l0_4 x22_2).f0) x33_3).f1.f0), .int .i64 ((rd_T82 ((rd_T80 l0_4 x22_2).f0) x33_3).f1.f1), .string ((rd_T82 ((rd_T80 l0_4 x22_2).f0) x33_3).f1.f2), .int .i64 ((rd_T82 ((rd_T80 l0_4 x22_2).f0) x33_3).f1.f3)] 82 (0, 0)) (by (with_reducible repeat (first | refine blk_drewN ?_ _ | refine blk_drew ?_ | refine blk_alloc ?_ _)); exact BK125.out) hb); have n3_ := Aside0.mk (below_step (by repeat (first | (with_reducible first | exact HB.out | apply below_alloc | apply pw_below_drewN | apply below_drew1 | refine below_set ?_ GE120.out | refine below_set ?_ GE123.out | refine below_set ?_ GE125.out) | exact HB.out)) hb); clear BK120; clear BK123; clear BK125; clear HB; have BK120 := n0_; have BK123 := n1_; have BK125 := n2_; have HB := n3_; clear n0_ n1_ n2_ n3_; (try clear hb); (try clear hb2); (try clear hk); (try clear hi))); try go_wp2_with (first | (go_at_call 43; (with_reducible refine (spec_l2key.calls ((rd_T82 ((rd_T80 l0_4 x22_2).f0) x33_3).f0.f0) ((rd_T82 ((rd_T80 l0_4 x22_2).f0) x33_3).f0.f1) ((rd_T82 ((rd_T80 l0_4 x22_2).f0) x33_3).f0.f2) ((rd_T82 ((rd_T80 l0_4 x22_2).f0) x33_3).f0.f3) true _ A29.out).mono ?_); rintro e w45 ⟨rfl, hb⟩; have n0_ := Aside0.mk (blk_below (g := gb120) (o := .cells #[.int .i64 a0_0, .int .i64 a0_1, .string a0_2, .int .i64 a0_3, .slice (some ad122) l0_4.length c0_4] 48 (0, 0)) (by (with_reducible repeat (first | refine blk_drewN ?_ _ | refine blk_drew ?_ | refine blk_alloc ?_ _)); refine blk_far ?_ NB120_125.out _; (with_reducible repeat (first | refine blk_drewN ?_ _ | refine blk_drew ?_ | refine blk_alloc ?_ _)); refine blk_far ?_ NB120_125.out _; (with_reducible repeat (first | refine blk_drewN ?_ _ | refine blk_drew ?_ | refine blk_alloc ?_ _)); refine blk_far ?_ NB120_125.out _; (with_reducible repeat (first | refine blk_drewN ?_ _ | refine blk_drew ?_ | refine blk_alloc ?_ _)); refine blk_far ?_ NB120_125.out _; (with_reducible repeat (first | refine blk_drewN ?_ _ | refine blk_drew ?_ | refine blk_alloc ?_ _)); refine blk_far ?_ NB120_125.out _; (with_reducible repeat (first | refine blk_drewN ?_ _ | refine blk_drew ?_ | refine blk_alloc ?_ _)); refine blk_far ?_ NB120_125.out _; (with_reducible repeat (first | refine blk_drewN ?_ _ | refine blk_drew ?_ | refine blk_alloc ?_ _)); refine blk_far ?_ NB120_125.out _; (with_reducible repeat (first | refine blk_drewN ?_ _ | refine blk_drew ?_ | refine blk_alloc ?_ _)); refine blk_far ?_ NB120_125.out _; (with_reducible repeat (first | refine blk_drewN ?_ _ | refine blk_drew ?_ | refine blk_alloc ?_ _)); exact BK120.out) hb); have n1_ := Aside0.mk (blk_below (g := gb123) (o := .cells #[.slice (some ad124) ((rd_T80 l0_4 x22_2).f0).length c122_0] 80 (0, 0)) (by (with_reducible repeat (first | refine blk_drewN ?_ _ | refine blk_drew ?_ | refine blk_alloc ?_ _)); refine blk_far ?_ NB123_125.out _; (with_reducible repeat (first | refine blk_drewN ?_ _ | refine blk_drew ?_ | refine blk_alloc ?_ _)); refine blk_far ?_ NB123_125.out _; (with_reducible repeat (first | refine blk_drewN ?_ _ | refine blk_drew ?_ | refine blk_alloc ?_ _)); refine blk_far ?_ NB123_125.out _; (with_reducible repeat (first | refine blk_drewN ?_ _ | refine blk_drew ?_ | refine blk_alloc ?_ _)); refine blk_far ?_ NB123_125.out _; (with_reducible repeat (first | refine blk_drewN ?_ _ | refine blk_drew ?_ | refine blk_alloc ?_ _)); refine blk_far ?_ NB123_125.out _; (with_reducible repeat (first | refine blk_drewN ?_ _ | refine blk_drew ?_ | refine blk_alloc ?_ _)); refine blk_far ?_ NB123_125.out _; (with_reducible repeat (first | refine blk_drewN ?_ _ | refine blk_drew ?_ | refine blk_alloc ?_ _)); refine blk_far ?_ NB123_125.out _; (with_reducible repeat (first | refine blk_drewN ?_ _ | refine blk_drew ?_ | refine blk_alloc ?_ _)); refine blk_far ?_ NB123_125.out _; (with_reducible repeat (first | refine blk_drewN ?_ _ | refine blk_drew ?_ | refine blk_alloc ?_ _)); exact BK123.out) hb); have n2_ := Aside0.mk (blk_below (g := gb125) (o := .cells #[.int .i64 ((rd_T82 ((rd_T80 l0_4 x22_2).f0) x33_3).f0.f0), .int .i64 ((rd_T82 ((rd_T80 l0_4 x22_2).f0) x33_3).f0.f1), .string ((rd_T82 ((rd_T80 l0_4 x22_2).f0) x33_3).f0.f2), .int .i64 ((rd_T82 ((rd_T80 l0_4 x22_2).f0) x33_3).f0.f3), .int .i64 ((rd_T82 ((rd_T80 l0_4 x22_2).f0) x33_3).f1.f0), .int .i64 ((rd_T82 ((rd_T80 l0_4 x22_2).f0) x33_3).f1.f1), .string ((rd_T82 ((rd_T80 l0_4 x22_2).f0) x33_3).f1.f2), .int .i64 ((rd_T82 ((rd_T80 l0_4 x22_2).f0) x33_3).f1.f3)] 82 (0, 0)) (by (with_reducible repeat (first | refine blk_drewN ?_ _ | refine blk_drew ?_ | refine blk_alloc ?_ _)); refine blk_put (cs := #[.int .i64 ((rd_T82 ((rd_T80 l0_4 x22_2).f0) x33_3).f0.f0), .int .i64 ((rd_T82 ((rd_T80 l0_4 x22_2).f0) x33_3).f0.f1), .string ((rd_T82 ((rd_T80 l0_4 x22_2).f0) x33_3).f0.f2), .int .i64 ((rd_T82 ((rd_T80 l0_4 x22_2).f0) x33_3).f0.f3), .int .i64 ((rd_T82 ((rd_T80 l0_4 x22_2).f0) x33_3).f1.f0), .int .i64 ((rd_T82 ((rd_T80 l0_4 x22_2).f0) x33_3).f1.f1), .string ((rd_T82 ((rd_T80 l0_4 x22_2).f0) x33_3).f1.f2), .int .i64 0]) ?_ 7 _ rfl; (with_reducible repeat (first | refine blk_drewN ?_ _ | refine blk_drew ?_ | refine blk_alloc ?_ _)); refine blk_put (cs := #[.int .i64 ((rd_T82 ((rd_T80 l0_4 x22_2).f0) x33_3).f0.f0), .int .i64 ((rd_T82 ((rd_T80 l0_4 x22_2).f0) x33_3).f0.f1), .string ((rd_T82 ((rd_T80 l0_4 x22_2).f0) x33_3).f0.f2), .int .i64 ((rd_T82 ((rd_T80 l0_4 x22_2).f0) x33_3).f0.f3), .int .i64 ((rd_T82 ((rd_T80 l0_4 x22_2).f0) x33_3).f1.f0), .int .i64 ((rd_T82 ((rd_T80 l0_4 x22_2).f0) x33_3).f1.f1), .string (⟨#[]⟩ : ByteArray), .int .i64 0]) ?_ 6 _ rfl; (with_reducible repeat (first | refine blk_drewN ?_ _ | refine blk_drew ?_ | refine blk_alloc ?_ _)); refine blk_put (cs := #[.int .i64 ((rd_T82 ((rd_T80 l0_4 x22_2).f0) x33_3).f0.f0), .int .i64 ((rd_T82 ((rd_T80 l0_4 x22_2).f0) x33_3).f0.f1), .string ((rd_T82 ((rd_T80 l0_4 x22_2).f0) x33_3).f0.f2), .int .i64 ((rd_T82 ((rd_T80 l0_4 x22_2).f0) x33_3).f0.f3), .int .i64 ((rd_T82 ((rd_T80 l0_4 x22_2).f0) x33_3).f1.f0), .int .i64 0, .string (⟨#[]⟩ : ByteArray), .int .i64 0]) ?_ 5 _ rfl; (with_reducible repeat (first | refine blk_drewN ?_ _ | refine blk_drew ?_ | refine blk_alloc ?_ _)); refine blk_put (cs := #[.int .i64 ((rd_T82 ((rd_T80 l0_4 x22_2).f0) x33_3).f0.f0), .int .i64 ((rd_T82 ((rd_T80 l0_4 x22_2).f0) x33_3).f0.f1), .string ((rd_T82 ((rd_T80 l0_4 x22_2).f0) x33_3).f0.f2), .int .i64 ((rd_T82 ((rd_T80 l0_4 x22_2).f0) x33_3).f0.f3), .int .i64 0, .int .i64 0, .string (⟨#[]⟩ : ByteArray), .int .i64 0]) ?_ 4 _ rfl; (with_reducible repeat (first | refine blk_drewN ?_ _ | refine blk_drew ?_ | refine blk_alloc ?_ _)); refine blk_put (cs := #[.int .i64 ((rd_T82 ((rd_T80 l0_4 x22_2).f0) x33_3).f0.f0), .int .i64 ((rd_T82 ((rd_T80 l0_4 x22_2).f0) x33_3).f0.f1), .string ((rd_T82 ((rd_T80 l0_4 x22_2).f0) x33_3).f0.f2), .int .i64 0, .int .i64 0, .int .i64 0, .string (⟨#[]⟩ : ByteArray), .int .i64 0]) ?_ 3 _ rfl; (with_reducible repeat (first | refine blk_drewN ?_ _ | refine blk_drew ?_ | refine blk_alloc ?_ _)); refine blk_put (cs := #[.int .i64 ((rd_T82 ((rd_T80 l0_4 x22_2).f0) x33_3).f0.f0), .int .i64 ((rd_T82 ((rd_T80 l0_4 x22_2).f0) x33_3).f0.f1), .string (⟨#[]⟩ : ByteArray), .int .i64 0, .int .i64 0, .int .i64 0, .string (⟨#[]⟩ : ByteArray), .int .i64 0]) ?_ 2 _ rfl; (with_reducible repeat (first | refine blk_drewN ?_ _ | refine blk_drew ?_ | refine blk_alloc ?_ _)); refine blk_put (cs := #[.int .i64 ((rd_T82 ((rd_T80 l0_4 x22_2).f0) x33_3).f0.f0), .int .i64 0, .string (⟨#[]⟩ : ByteArray), .int .i64 0, .int .i64 0, .int .i64 0, .string (⟨#[]⟩ : ByteArray), .int .i64 0]) ?_ 1 _ rfl; (with_reducible repeat (first | refine blk_drewN ?_ _ | refine blk_drew ?_ | refine blk_alloc ?_ _)); refine blk_put (cs := #[.int .i64 0, .int .i64 0, .string (⟨#[]⟩ : ByteArray), .int .i64 0, .int .i64 0, .int .i64 0, .string (⟨#[]⟩ : ByteArray), .int .i64 0]) ?_ 0 _ rfl; (with_reducible repeat (first | refine blk_drewN ?_ _ | refine blk_drew ?_ | refine blk_alloc ?_ _)); exact BK125.out) hb); have n3_ := Aside0.mk (below_step (by repeat (first | (with_reducible first | exact HB.out | apply below_alloc | apply pw_below_drewN | apply below_drew1 | refine below_set ?_ GE120.out | refine below_set ?_ GE123.out | refine below_set ?_ GE125.out) | exact HB.out)) hb); clear BK120; clear BK123; clear BK125; clear HB; have BK120 := n0_; have BK123 := n1_; have BK125 := n2_; have HB := n3_; clear n0_ n1_ n2_ n3_; (try clear hb); (try clear hb2); (try clear hk); (try clear hi); have hnb46 := NB120_123.out; have hnc46 := NB123_120.out; have hcz47_0 : w45.cell? ⟨gb120, 0, none⟩ = some (.int .i64 a0_0) := (blk_cell BK120.out 0).trans rfl; have hcz47_1 : w45.cell? ⟨gb120, 1, none⟩ = some (.int .i64 a0_1) := (blk_cell BK120.out 1).trans rfl; have hcz47_2 : w45.cell? ⟨gb120, 2, none⟩ = some (.string a0_2) := (blk_cell BK120.out 2).trans rfl; have hcz47_3 : w45.cell? ⟨gb120, 3, none⟩ = some (.int .i64 a0_3) := (blk_cell BK120.out 3).trans rfl; have hcz47_4 : w45.cell? ⟨gb120, 4, none⟩ = some (.slice (some ad122) l0_4.length c0_4) := (blk_cell BK120.out 4).trans rfl; have hfz47_0 := blk_frozen BK120.out 0; have hfz47_1 := blk_frozen BK120.out 1; have hfz47_2 := blk_frozen BK120.out 2; have hfz47_3 := blk_frozen BK120.out 3; have hfz47_4 := blk_frozen BK120.out 4; have hcz48_0 : w45.cell? ⟨gb125, 0, none⟩ = some (.int .i64 ((rd_T82 ((rd_T80 l0_4 x22_2).f0) x33_3).f0.f0)) := (blk_cell BK125.out 0).trans rfl; have hcz48_1 : w45.cell? ⟨gb125, 1, none⟩ = some (.int .i64 ((rd_T82 ((rd_T80 l0_4 x22_2).f0) x33_3).f0.f1)) := (blk_cell BK125.out 1).trans rfl; have hcz48_2 : w45.cell? ⟨gb125, 2, none⟩ = some (.string ((rd_T82 ((rd_T80 l0_4 x22_2).f0) x33_3).f0.f2)) := (blk_cell BK125.out 2).trans rfl; have hcz48_3 : w45.cell? ⟨gb125, 3, none⟩ = some (.int .i64 ((rd_T82 ((rd_T80 l0_4 x22_2).f0) x33_3).f0.f3)) := (blk_cell BK125.out 3).trans rfl; have hcz48_4 : w45.cell? ⟨gb125, 4, none⟩ = some (.int .i64 ((rd_T82 ((rd_T80 l0_4 x22_2).f0) x33_3).f1.f0)) := (blk_cell BK125.out 4).trans rfl; have hcz48_5 : w45.cell? ⟨gb125, 5, none⟩ = some (.int .i64 ((rd_T82 ((rd_T80 l0_4 x22_2).f0) x33_3).f1.f1)) := (blk_cell BK125.out 5).trans rfl; have hcz48_6 : w45.cell? ⟨gb125, 6, none⟩ = some (.string ((rd_T82 ((rd_T80 l0_4 x22_2).f0) x33_3).f1.f2)) := (blk_cell BK125.out 6).trans rfl; have hcz48_7 : w45.cell? ⟨gb125, 7, none⟩ = some (.int .i64 ((rd_T82 ((rd_T80 l0_4 x22_2).f0) x33_3).f1.f3)) := (blk_cell BK125.out 7).trans rfl; have hfz48_0 := blk_frozen BK125.out 0; have hfz48_1 := blk_frozen BK125.out 1; have hfz48_2 := blk_frozen BK125.out 2; have hfz48_3 := blk_frozen BK125.out 3; have hfz48_4 := blk_frozen BK125.out 4; have hfz48_5 := blk_frozen BK125.out 5; have hfz48_6 := blk_frozen BK125.out 6; have hfz48_7 := blk_frozen BK125.out 7) | (go_at_call 56; (with_reducible refine (spec_l2val.calls a0_0 a0_1 a0_2 a0_3 _ _ l0_4 ((rd_T82 ((rd_T80 l0_4 x22_2).f0) x33_3).f1.f0) ((rd_T82 ((rd_T80 l0_4 x22_2).f0) x33_3).f1.f1) ((rd_T82 ((rd_T80 l0_4 x22_2).f0) x33_3).f1.f2) ((rd_T82 ((rd_T80 l0_4 x22_2).f0) x33_3).f1.f3) false _ ?side1 ?side2 A31.out).mono ?_); (case side1 => repeat (first | exact (Kd.C_below HR0_4.out HB.out) | (with_reducible refine Kd.C_alloc ?_ _) | (with_reducible refine Kd.C_drewN ?_ _) | (with_reducible refine Kd.C_drew ?_))); (case side2 => exact HC0_4.out); rintro e w49 ⟨rfl, hb⟩; have n0_ := Aside0.mk (blk_below (g := gb120) (o := .cells #[.int .i64 a0_0, .int .i64 a0_1, .string a0_2, .int .i64 a0_3, .slice (some ad122) l0_4.length c0_4] 48 (0, 0)) (by (with_reducible repeat (first | refine blk_drewN ?_ _ | refine blk_drew ?_ | refine blk_alloc ?_ _)); exact BK120.out) hb); have n1_ := Aside0.mk (blk_below (g := gb123) (o := .cells #[.slice (some ad124) ((rd_T80 l0_4 x22_2).f0).length c122_0] 80 (0, 0)) (by (with_reducible repeat (first | refine blk_drewN ?_ _ | refine blk_drew ?_ | refine blk_alloc ?_ _)); exact BK123.out) hb); have n2_ := Aside0.mk (blk_below (g := gb125) (o := .cells #[.int .i64 ((rd_T82 ((rd_T80 l0_4 x22_2).f0) x33_3).f0.f0), .int .i64 ((rd_T82 ((rd_T80 l0_4 x22_2).f0) x33_3).f0.f1), .string ((rd_T82 ((rd_T80 l0_4 x22_2).f0) x33_3).f0.f2), .int .i64 ((rd_T82 ((rd_T80 l0_4 x22_2).f0) x33_3).f0.f3), .int .i64 ((rd_T82 ((rd_T80 l0_4 x22_2).f0) x33_3).f1.f0), .int .i64 ((rd_T82 ((rd_T80 l0_4 x22_2).f0) x33_3).f1.f1), .string ((rd_T82 ((rd_T80 l0_4 x22_2).f0) x33_3).f1.f2), .int .i64 ((rd_T82 ((rd_T80 l0_4 x22_2).f0) x33_3).f1.f3)] 82 (0, 0)) (by (with_reducible repeat (first | refine blk_drewN ?_ _ | refine blk_drew ?_ | refine blk_alloc ?_ _)); exact BK125.out) hb); have n3_ := Aside0.mk (below_step (by repeat (first | (with_reducible first | exact HB.out | apply below_alloc | apply pw_below_drewN | apply below_drew1 | refine below_set ?_ GE120.out | refine below_set ?_ GE123.out | refine below_set ?_ GE125.out) | exact HB.out)) hb); clear BK120; clear BK123; clear BK125; clear HB; have BK120 := n0_; have BK123 := n1_; have BK125 := n2_; have HB := n3_; clear n0_ n1_ n2_ n3_; (try clear hb); (try clear hb2); (try clear hk); (try clear hi))))
                                    go_meet
                                    case rel => exact ⟨_, (true), (by first | rfl | (simp; done) | (simp [*]; done)), H', ⟨by have := HJ1.out; have := HK2.out; have := HK3.out; first | omega | exact Nat.le_refl _⟩, ⟨by (with_reducible repeat (first | refine blk_drewN ?_ _ | refine blk_drew ?_ | refine blk_alloc ?_ _)); exact BK120.out⟩, ⟨by (with_reducible repeat (first | refine blk_drewN ?_ _ | refine blk_drew ?_ | refine blk_alloc ?_ _)); exact BK123.out⟩, ⟨by (with_reducible repeat (first | refine blk_drewN ?_ _ | refine blk_drew ?_ | refine blk_alloc ?_ _)); exact BK125.out⟩, ⟨by repeat (first | (with_reducible first | exact HB.out | apply below_alloc | apply pw_below_drewN | apply below_drew1 | refine below_set ?_ GE120.out | refine below_set ?_ GE123.out | refine below_set ?_ GE125.out) | exact HB.out)⟩⟩
                                · replace c30 := Bool.eq_false_iff.mpr c30
                                  subst c30
                                  have H1 : (spec_GraphOk.j3 k3 x33_3 l0_4 (l0_4.length : Int) x22_2 ((rd_T80 l0_4 x22_2).f0) (((rd_T80 l0_4 x22_2).f0).length : Int) x33_3 true a0_0 a0_1 a0_2 a0_3 l0_4 ((rd_T80 l0_4 x22_2).f0) ((rd_T82 ((rd_T80 l0_4 x22_2).f0) x33_3).f0.f0) ((rd_T82 ((rd_T80 l0_4 x22_2).f0) x33_3).f0.f1) ((rd_T82 ((rd_T80 l0_4 x22_2).f0) x33_3).f0.f2) ((rd_T82 ((rd_T80 l0_4 x22_2).f0) x33_3).f0.f3) ((rd_T82 ((rd_T80 l0_4 x22_2).f0) x33_3).f1.f0) ((rd_T82 ((rd_T80 l0_4 x22_2).f0) x33_3).f1.f1) ((rd_T82 ((rd_T80 l0_4 x22_2).f0) x33_3).f1.f2) ((rd_T82 ((rd_T80 l0_4 x22_2).f0) x33_3).f1.f3)) = some r := by rw [if_neg (show ¬ (false = true) by decide)] at H; exact H
                                  clear H
                                  have H := H1
                                  clear H1
                                  have H' := Aside0.mk H
                                  clear H
                                  have hnb50 := NB125_120.out
                                  have hnc50 := NB120_125.out
                                  have hnb51 := NB125_123.out
                                  have hnc51 := NB123_125.out
                                  have hcz52_0 : w25.cell? ⟨gb125, 0, none⟩ = some (.int .i64 0) := (blk_cell BK125.out 0).trans rfl
                                  have hcz52_1 : w25.cell? ⟨gb125, 1, none⟩ = some (.int .i64 0) := (blk_cell BK125.out 1).trans rfl
                                  have hcz52_2 : w25.cell? ⟨gb125, 2, none⟩ = some (.string (⟨#[]⟩ : ByteArray)) := (blk_cell BK125.out 2).trans rfl
                                  have hcz52_3 : w25.cell? ⟨gb125, 3, none⟩ = some (.int .i64 0) := (blk_cell BK125.out 3).trans rfl
                                  have hcz52_4 : w25.cell? ⟨gb125, 4, none⟩ = some (.int .i64 0) := (blk_cell BK125.out 4).trans rfl
                                  have hcz52_5 : w25.cell? ⟨gb125, 5, none⟩ = some (.int .i64 0) := (blk_cell BK125.out 5).trans rfl
                                  have hcz52_6 : w25.cell? ⟨gb125, 6, none⟩ = some (.string (⟨#[]⟩ : ByteArray)) := (blk_cell BK125.out 6).trans rfl
                                  have hcz52_7 : w25.cell? ⟨gb125, 7, none⟩ = some (.int .i64 0) := (blk_cell BK125.out 7).trans rfl
                                  have hfz52_0 := blk_frozen BK125.out 0
                                  have hfz52_1 := blk_frozen BK125.out 1
                                  have hfz52_2 := blk_frozen BK125.out 2
                                  have hfz52_3 := blk_frozen BK125.out 3
                                  have hfz52_4 := blk_frozen BK125.out 4
                                  have hfz52_5 := blk_frozen BK125.out 5
                                  have hfz52_6 := blk_frozen BK125.out 6
                                  have hfz52_7 := blk_frozen BK125.out 7
                                  go_wp2_with (first | (go_at_call 43; (with_reducible refine (spec_l2key.calls ((rd_T82 ((rd_T80 l0_4 x22_2).f0) x33_3).f0.f0) ((rd_T82 ((rd_T80 l0_4 x22_2).f0) x33_3).f0.f1) ((rd_T82 ((rd_T80 l0_4 x22_2).f0) x33_3).f0.f2) ((rd_T82 ((rd_T80 l0_4 x22_2).f0) x33_3).f0.f3) false _ A29.out).mono ?_); rintro e w53 ⟨rfl, hb⟩; have n0_ := Aside0.mk (blk_below (g := gb120) (o := .cells #[.int .i64 a0_0, .int .i64 a0_1, .string a0_2, .int .i64 a0_3, .slice (some ad122) l0_4.length c0_4] 48 (0, 0)) (by (with_reducible repeat (first | refine blk_drewN ?_ _ | refine blk_drew ?_ | refine blk_alloc ?_ _)); refine blk_far ?_ NB120_125.out _; (with_reducible repeat (first | refine blk_drewN ?_ _ | refine blk_drew ?_ | refine blk_alloc ?_ _)); refine blk_far ?_ NB120_125.out _; (with_reducible repeat (first | refine blk_drewN ?_ _ | refine blk_drew ?_ | refine blk_alloc ?_ _)); refine blk_far ?_ NB120_125.out _; (with_reducible repeat (first | refine blk_drewN ?_ _ | refine blk_drew ?_ | refine blk_alloc ?_ _)); refine blk_far ?_ NB120_125.out _; (with_reducible repeat (first | refine blk_drewN ?_ _ | refine blk_drew ?_ | refine blk_alloc ?_ _)); refine blk_far ?_ NB120_125.out _; (with_reducible repeat (first | refine blk_drewN ?_ _ | refine blk_drew ?_ | refine blk_alloc ?_ _)); refine blk_far ?_ NB120_125.out _; (with_reducible repeat (first | refine blk_drewN ?_ _ | refine blk_drew ?_ | refine blk_alloc ?_ _)); refine blk_far ?_ NB120_125.out _; (with_reducible repeat (first | refine blk_drewN ?_ _ | refine blk_drew ?_ | refine blk_alloc ?_ _)); refine blk_far ?_ NB120_125.out _; (with_reducible repeat (first | refine blk_drewN ?_ _ | refine blk_drew ?_ | refine blk_alloc ?_ _)); exact BK120.out) hb); have n1_ := Aside0.mk (blk_below (g := gb123) (o := .cells #[.slice (some ad124) ((rd_T80 l0_4 x22_2).f0).length c122_0] 80 (0, 0)) (by (with_reducible repeat (first | refine blk_drewN ?_ _ | refine blk_drew ?_ | refine blk_alloc ?_ _)); refine blk_far ?_ NB123_125.out _; (with_reducible repeat (first | refine blk_drewN ?_ _ | refine blk_drew ?_ | refine blk_alloc ?_ _)); refine blk_far ?_ NB123_125.out _; (with_reducible repeat (first | refine blk_drewN ?_ _ | refine blk_drew ?_ | refine blk_alloc ?_ _)); refine blk_far ?_ NB123_125.out _; (with_reducible repeat (first | refine blk_drewN ?_ _ | refine blk_drew ?_ | refine blk_alloc ?_ _)); refine blk_far ?_ NB123_125.out _; (with_reducible repeat (first | refine blk_drewN ?_ _ | refine blk_drew ?_ | refine blk_alloc ?_ _)); refine blk_far ?_ NB123_125.out _; (with_reducible repeat (first | refine blk_drewN ?_ _ | refine blk_drew ?_ | refine blk_alloc ?_ _)); refine blk_far ?_ NB123_125.out _; (with_reducible repeat (first | refine blk_drewN ?_ _ | refine blk_drew ?_ | refine blk_alloc ?_ _)); refine blk_far ?_ NB123_125.out _; (with_reducible repeat (first | refine blk_drewN ?_ _ | refine blk_drew ?_ | refine blk_alloc ?_ _)); refine blk_far ?_ NB123_125.out _; (with_reducible repeat (first | refine blk_drewN ?_ _ | refine blk_drew ?_ | refine blk_alloc ?_ _)); exact BK123.out) hb); have n2_ := Aside0.mk (blk_below (g := gb125) (o := .cells #[.int .i64 ((rd_T82 ((rd_T80 l0_4 x22_2).f0) x33_3).f0.f0), .int .i64 ((rd_T82 ((rd_T80 l0_4 x22_2).f0) x33_3).f0.f1), .string ((rd_T82 ((rd_T80 l0_4 x22_2).f0) x33_3).f0.f2), .int .i64 ((rd_T82 ((rd_T80 l0_4 x22_2).f0) x33_3).f0.f3), .int .i64 ((rd_T82 ((rd_T80 l0_4 x22_2).f0) x33_3).f1.f0), .int .i64 ((rd_T82 ((rd_T80 l0_4 x22_2).f0) x33_3).f1.f1), .string ((rd_T82 ((rd_T80 l0_4 x22_2).f0) x33_3).f1.f2), .int .i64 ((rd_T82 ((rd_T80 l0_4 x22_2).f0) x33_3).f1.f3)] 82 (0, 0)) (by (with_reducible repeat (first | refine blk_drewN ?_ _ | refine blk_drew ?_ | refine blk_alloc ?_ _)); refine blk_put (cs := #[.int .i64 ((rd_T82 ((rd_T80 l0_4 x22_2).f0) x33_3).f0.f0), .int .i64 ((rd_T82 ((rd_T80 l0_4 x22_2).f0) x33_3).f0.f1), .string ((rd_T82 ((rd_T80 l0_4 x22_2).f0) x33_3).f0.f2), .int .i64 ((rd_T82 ((rd_T80 l0_4 x22_2).f0) x33_3).f0.f3), .int .i64 ((rd_T82 ((rd_T80 l0_4 x22_2).f0) x33_3).f1.f0), .int .i64 ((rd_T82 ((rd_T80 l0_4 x22_2).f0) x33_3).f1.f1), .string ((rd_T82 ((rd_T80 l0_4 x22_2).f0) x33_3).f1.f2), .int .i64 0]) ?_ 7 _ rfl; (with_reducible repeat (first | refine blk_drewN ?_ _ | refine blk_drew ?_ | refine blk_alloc ?_ _)); refine blk_put (cs := #[.int .i64 ((rd_T82 ((rd_T80 l0_4 x22_2).f0) x33_3).f0.f0), .int .i64 ((rd_T82 ((rd_T80 l0_4 x22_2).f0) x33_3).f0.f1), .string ((rd_T82 ((rd_T80 l0_4 x22_2).f0) x33_3).f0.f2), .int .i64 ((rd_T82 ((rd_T80 l0_4 x22_2).f0) x33_3).f0.f3), .int .i64 ((rd_T82 ((rd_T80 l0_4 x22_2).f0) x33_3).f1.f0), .int .i64 ((rd_T82 ((rd_T80 l0_4 x22_2).f0) x33_3).f1.f1), .string (⟨#[]⟩ : ByteArray), .int .i64 0]) ?_ 6 _ rfl; (with_reducible repeat (first | refine blk_drewN ?_ _ | refine blk_drew ?_ | refine blk_alloc ?_ _)); refine blk_put (cs := #[.int .i64 ((rd_T82 ((rd_T80 l0_4 x22_2).f0) x33_3).f0.f0), .int .i64 ((rd_T82 ((rd_T80 l0_4 x22_2).f0) x33_3).f0.f1), .string ((rd_T82 ((rd_T80 l0_4 x22_2).f0) x33_3).f0.f2), .int .i64 ((rd_T82 ((rd_T80 l0_4 x22_2).f0) x33_3).f0.f3), .int .i64 ((rd_T82 ((rd_T80 l0_4 x22_2).f0) x33_3).f1.f0), .int .i64 0, .string (⟨#[]⟩ : ByteArray), .int .i64 0]) ?_ 5 _ rfl; (with_reducible repeat (first | refine blk_drewN ?_ _ | refine blk_drew ?_ | refine blk_alloc ?_ _)); refine blk_put (cs := #[.int .i64 ((rd_T82 ((rd_T80 l0_4 x22_2).f0) x33_3).f0.f0), .int .i64 ((rd_T82 ((rd_T80 l0_4 x22_2).f0) x33_3).f0.f1), .string ((rd_T82 ((rd_T80 l0_4 x22_2).f0) x33_3).f0.f2), .int .i64 ((rd_T82 ((rd_T80 l0_4 x22_2).f0) x33_3).f0.f3), .int .i64 0, .int .i64 0, .string (⟨#[]⟩ : ByteArray), .int .i64 0]) ?_ 4 _ rfl; (with_reducible repeat (first | refine blk_drewN ?_ _ | refine blk_drew ?_ | refine blk_alloc ?_ _)); refine blk_put (cs := #[.int .i64 ((rd_T82 ((rd_T80 l0_4 x22_2).f0) x33_3).f0.f0), .int .i64 ((rd_T82 ((rd_T80 l0_4 x22_2).f0) x33_3).f0.f1), .string ((rd_T82 ((rd_T80 l0_4 x22_2).f0) x33_3).f0.f2), .int .i64 0, .int .i64 0, .int .i64 0, .string (⟨#[]⟩ : ByteArray), .int .i64 0]) ?_ 3 _ rfl; (with_reducible repeat (first | refine blk_drewN ?_ _ | refine blk_drew ?_ | refine blk_alloc ?_ _)); refine blk_put (cs := #[.int .i64 ((rd_T82 ((rd_T80 l0_4 x22_2).f0) x33_3).f0.f0), .int .i64 ((rd_T82 ((rd_T80 l0_4 x22_2).f0) x33_3).f0.f1), .string (⟨#[]⟩ : ByteArray), .int .i64 0, .int .i64 0, .int .i64 0, .string (⟨#[]⟩ : ByteArray), .int .i64 0]) ?_ 2 _ rfl; (with_reducible repeat (first | refine blk_drewN ?_ _ | refine blk_drew ?_ | refine blk_alloc ?_ _)); refine blk_put (cs := #[.int .i64 ((rd_T82 ((rd_T80 l0_4 x22_2).f0) x33_3).f0.f0), .int .i64 0, .string (⟨#[]⟩ : ByteArray), .int .i64 0, .int .i64 0, .int .i64 0, .string (⟨#[]⟩ : ByteArray), .int .i64 0]) ?_ 1 _ rfl; (with_reducible repeat (first | refine blk_drewN ?_ _ | refine blk_drew ?_ | refine blk_alloc ?_ _)); refine blk_put (cs := #[.int .i64 0, .int .i64 0, .string (⟨#[]⟩ : ByteArray), .int .i64 0, .int .i64 0, .int .i64 0, .string (⟨#[]⟩ : ByteArray), .int .i64 0]) ?_ 0 _ rfl; (with_reducible repeat (first | refine blk_drewN ?_ _ | refine blk_drew ?_ | refine blk_alloc ?_ _)); exact BK125.out) hb); have n3_ := Aside0.mk (below_step (by repeat (first | (with_reducible first | exact HB.out | apply below_alloc | apply pw_below_drewN | apply below_drew1 | refine below_set ?_ GE120.out | refine below_set ?_ GE123.out | refine below_set ?_ GE125.out) | exact HB.out)) hb); clear BK120; clear BK123; clear BK125; clear HB; have BK120 := n0_; have BK123 := n1_; have BK125 := n2_; have HB := n3_; clear n0_ n1_ n2_ n3_; (try clear hb); (try clear hb2); (try clear hk); (try clear hi)))
                                  repeat (go_quiet (first | (go_at_call 43; (with_reducible refine (spec_l2key.calls ((rd_T82 ((rd_T80 l0_4 x22_2).f0) x33_3).f0.f0) ((rd_T82 ((rd_T80 l0_4 x22_2).f0) x33_3).f0.f1) ((rd_T82 ((rd_T80 l0_4 x22_2).f0) x33_3).f0.f2) ((rd_T82 ((rd_T80 l0_4 x22_2).f0) x33_3).f0.f3) false _ A29.out).mono ?_); rintro e w53 ⟨rfl, hb⟩; have n0_ := Aside0.mk (blk_below (g := gb120) (o := .cells #[.int .i64 a0_0, .int .i64 a0_1, .string a0_2, .int .i64 a0_3, .slice (some ad122) l0_4.length c0_4] 48 (0, 0)) (by (with_reducible repeat (first | refine blk_drewN ?_ _ | refine blk_drew ?_ | refine blk_alloc ?_ _)); refine blk_far ?_ NB120_125.out _; (with_reducible repeat (first | refine blk_drewN ?_ _ | refine blk_drew ?_ | refine blk_alloc ?_ _)); refine blk_far ?_ NB120_125.out _; (with_reducible repeat (first | refine blk_drewN ?_ _ | refine blk_drew ?_ | refine blk_alloc ?_ _)); refine blk_far ?_ NB120_125.out _; (with_reducible repeat (first | refine blk_drewN ?_ _ | refine blk_drew ?_ | refine blk_alloc ?_ _)); refine blk_far ?_ NB120_125.out _; (with_reducible repeat (first | refine blk_drewN ?_ _ | refine blk_drew ?_ | refine blk_alloc ?_ _)); refine blk_far ?_ NB120_125.out _; (with_reducible repeat (first | refine blk_drewN ?_ _ | refine blk_drew ?_ | refine blk_alloc ?_ _)); refine blk_far ?_ NB120_125.out _; (with_reducible repeat (first | refine blk_drewN ?_ _ | refine blk_drew ?_ | refine blk_alloc ?_ _)); refine blk_far ?_ NB120_125.out _; (with_reducible repeat (first | refine blk_drewN ?_ _ | refine blk_drew ?_ | refine blk_alloc ?_ _)); refine blk_far ?_ NB120_125.out _; (with_reducible repeat (first | refine blk_drewN ?_ _ | refine blk_drew ?_ | refine blk_alloc ?_ _)); exact BK120.out) hb); have n1_ := Aside0.mk (blk_below (g := gb123) (o := .cells #[.slice (some ad124) ((rd_T80 l0_4 x22_2).f0).length c122_0] 80 (0, 0)) (by (with_reducible repeat (first | refine blk_drewN ?_ _ | refine blk_drew ?_ | refine blk_alloc ?_ _)); refine blk_far ?_ NB123_125.out _; (with_reducible repeat (first | refine blk_drewN ?_ _ | refine blk_drew ?_ | refine blk_alloc ?_ _)); refine blk_far ?_ NB123_125.out _; (with_reducible repeat (first | refine blk_drewN ?_ _ | refine blk_drew ?_ | refine blk_alloc ?_ _)); refine blk_far ?_ NB123_125.out _; (with_reducible repeat (first | refine blk_drewN ?_ _ | refine blk_drew ?_ | refine blk_alloc ?_ _)); refine blk_far ?_ NB123_125.out _; (with_reducible repeat (first | refine blk_drewN ?_ _ | refine blk_drew ?_ | refine blk_alloc ?_ _)); refine blk_far ?_ NB123_125.out _; (with_reducible repeat (first | refine blk_drewN ?_ _ | refine blk_drew ?_ | refine blk_alloc ?_ _)); refine blk_far ?_ NB123_125.out _; (with_reducible repeat (first | refine blk_drewN ?_ _ | refine blk_drew ?_ | refine blk_alloc ?_ _)); refine blk_far ?_ NB123_125.out _; (with_reducible repeat (first | refine blk_drewN ?_ _ | refine blk_drew ?_ | refine blk_alloc ?_ _)); refine blk_far ?_ NB123_125.out _; (with_reducible repeat (first | refine blk_drewN ?_ _ | refine blk_drew ?_ | refine blk_alloc ?_ _)); exact BK123.out) hb); have n2_ := Aside0.mk (blk_below (g := gb125) (o := .cells #[.int .i64 ((rd_T82 ((rd_T80 l0_4 x22_2).f0) x33_3).f0.f0), .int .i64 ((rd_T82 ((rd_T80 l0_4 x22_2).f0) x33_3).f0.f1), .string ((rd_T82 ((rd_T80 l0_4 x22_2).f0) x33_3).f0.f2), .int .i64 ((rd_T82 ((rd_T80 l0_4 x22_2).f0) x33_3).f0.f3), .int .i64 ((rd_T82 ((rd_T80 l0_4 x22_2).f0) x33_3).f1.f0), .int .i64 ((rd_T82 ((rd_T80 l0_4 x22_2).f0) x33_3).f1.f1), .string ((rd_T82 ((rd_T80 l0_4 x22_2).f0) x33_3).f1.f2), .int .i64 ((rd_T82 ((rd_T80 l0_4 x22_2).f0) x33_3).f1.f3)] 82 (0, 0)) (by (with_reducible repeat (first | refine blk_drewN ?_ _ | refine blk_drew ?_ | refine blk_alloc ?_ _)); refine blk_put (cs := #[.int .i64 ((rd_T82 ((rd_T80 l0_4 x22_2).f0) x33_3).f0.f0), .int .i64 ((rd_T82 ((rd_T80 l0_4 x22_2).f0) x33_3).f0.f1), .string ((rd_T82 ((rd_T80 l0_4 x22_2).f0) x33_3).f0.f2), .int .i64 ((rd_T82 ((rd_T80 l0_4 x22_2).f0) x33_3).f0.f3), .int .i64 ((rd_T82 ((rd_T80 l0_4 x22_2).f0) x33_3).f1.f0), .int .i64 ((rd_T82 ((rd_T80 l0_4 x22_2).f0) x33_3).f1.f1), .string ((rd_T82 ((rd_T80 l0_4 x22_2).f0) x33_3).f1.f2), .int .i64 0]) ?_ 7 _ rfl; (with_reducible repeat (first | refine blk_drewN ?_ _ | refine blk_drew ?_ | refine blk_alloc ?_ _)); refine blk_put (cs := #[.int .i64 ((rd_T82 ((rd_T80 l0_4 x22_2).f0) x33_3).f0.f0), .int .i64 ((rd_T82 ((rd_T80 l0_4 x22_2).f0) x33_3).f0.f1), .string ((rd_T82 ((rd_T80 l0_4 x22_2).f0) x33_3).f0.f2), .int .i64 ((rd_T82 ((rd_T80 l0_4 x22_2).f0) x33_3).f0.f3), .int .i64 ((rd_T82 ((rd_T80 l0_4 x22_2).f0) x33_3).f1.f0), .int .i64 ((rd_T82 ((rd_T80 l0_4 x22_2).f0) x33_3).f1.f1), .string (⟨#[]⟩ : ByteArray), .int .i64 0]) ?_ 6 _ rfl; (with_reducible repeat (first | refine blk_drewN ?_ _ | refine blk_drew ?_ | refine blk_alloc ?_ _)); refine blk_put (cs := #[.int .i64 ((rd_T82 ((rd_T80 l0_4 x22_2).f0) x33_3).f0.f0), .int .i64 ((rd_T82 ((rd_T80 l0_4 x22_2).f0) x33_3).f0.f1), .string ((rd_T82 ((rd_T80 l0_4 x22_2).f0) x33_3).f0.f2), .int .i64 ((rd_T82 ((rd_T80 l0_4 x22_2).f0) x33_3).f0.f3), .int .i64 ((rd_T82 ((rd_T80 l0_4 x22_2).f0) x33_3).f1.f0), .int .i64 0, .string (⟨#[]⟩ : ByteArray), .int .i64 0]) ?_ 5 _ rfl; (with_reducible repeat (first | refine blk_drewN ?_ _ | refine blk_drew ?_ | refine blk_alloc ?_ _)); refine blk_put (cs := #[.int .i64 ((rd_T82 ((rd_T80 l0_4 x22_2).f0) x33_3).f0.f0), .int .i64 ((rd_T82 ((rd_T80 l0_4 x22_2).f0) x33_3).f0.f1), .string ((rd_T82 ((rd_T80 l0_4 x22_2).f0) x33_3).f0.f2), .int .i64 ((rd_T82 ((rd_T80 l0_4 x22_2).f0) x33_3).f0.f3), .int .i64 0, .int .i64 0, .string (⟨#[]⟩ : ByteArray), .int .i64 0]) ?_ 4 _ rfl; (with_reducible repeat (first | refine blk_drewN ?_ _ | refine blk_drew ?_ | refine blk_alloc ?_ _)); refine blk_put (cs := #[.int .i64 ((rd_T82 ((rd_T80 l0_4 x22_2).f0) x33_3).f0.f0), .int .i64 ((rd_T82 ((rd_T80 l0_4 x22_2).f0) x33_3).f0.f1), .string ((rd_T82 ((rd_T80 l0_4 x22_2).f0) x33_3).f0.f2), .int .i64 0, .int .i64 0, .int .i64 0, .string (⟨#[]⟩ : ByteArray), .int .i64 0]) ?_ 3 _ rfl; (with_reducible repeat (first | refine blk_drewN ?_ _ | refine blk_drew ?_ | refine blk_alloc ?_ _)); refine blk_put (cs := #[.int .i64 ((rd_T82 ((rd_T80 l0_4 x22_2).f0) x33_3).f0.f0), .int .i64 ((rd_T82 ((rd_T80 l0_4 x22_2).f0) x33_3).f0.f1), .string (⟨#[]⟩ : ByteArray), .int .i64 0, .int .i64 0, .int .i64 0, .string (⟨#[]⟩ : ByteArray), .int .i64 0]) ?_ 2 _ rfl; (with_reducible repeat (first | refine blk_drewN ?_ _ | refine blk_drew ?_ | refine blk_alloc ?_ _)); refine blk_put (cs := #[.int .i64 ((rd_T82 ((rd_T80 l0_4 x22_2).f0) x33_3).f0.f0), .int .i64 0, .string (⟨#[]⟩ : ByteArray), .int .i64 0, .int .i64 0, .int .i64 0, .string (⟨#[]⟩ : ByteArray), .int .i64 0]) ?_ 1 _ rfl; (with_reducible repeat (first | refine blk_drewN ?_ _ | refine blk_drew ?_ | refine blk_alloc ?_ _)); refine blk_put (cs := #[.int .i64 0, .int .i64 0, .string (⟨#[]⟩ : ByteArray), .int .i64 0, .int .i64 0, .int .i64 0, .string (⟨#[]⟩ : ByteArray), .int .i64 0]) ?_ 0 _ rfl; (with_reducible repeat (first | refine blk_drewN ?_ _ | refine blk_drew ?_ | refine blk_alloc ?_ _)); exact BK125.out) hb); have n3_ := Aside0.mk (below_step (by repeat (first | (with_reducible first | exact HB.out | apply below_alloc | apply pw_below_drewN | apply below_drew1 | refine below_set ?_ GE120.out | refine below_set ?_ GE123.out | refine below_set ?_ GE125.out) | exact HB.out)) hb); clear BK120; clear BK123; clear BK125; clear HB; have BK120 := n0_; have BK123 := n1_; have BK125 := n2_; have HB := n3_; clear n0_ n1_ n2_ n3_; (try clear hb); (try clear hb2); (try clear hk); (try clear hi))); try go_wp2_with (first | (go_at_call 43; (with_reducible refine (spec_l2key.calls ((rd_T82 ((rd_T80 l0_4 x22_2).f0) x33_3).f0.f0) ((rd_T82 ((rd_T80 l0_4 x22_2).f0) x33_3).f0.f1) ((rd_T82 ((rd_T80 l0_4 x22_2).f0) x33_3).f0.f2) ((rd_T82 ((rd_T80 l0_4 x22_2).f0) x33_3).f0.f3) false _ A29.out).mono ?_); rintro e w53 ⟨rfl, hb⟩; have n0_ := Aside0.mk (blk_below (g := gb120) (o := .cells #[.int .i64 a0_0, .int .i64 a0_1, .string a0_2, .int .i64 a0_3, .slice (some ad122) l0_4.length c0_4] 48 (0, 0)) (by (with_reducible repeat (first | refine blk_drewN ?_ _ | refine blk_drew ?_ | refine blk_alloc ?_ _)); refine blk_far ?_ NB120_125.out _; (with_reducible repeat (first | refine blk_drewN ?_ _ | refine blk_drew ?_ | refine blk_alloc ?_ _)); refine blk_far ?_ NB120_125.out _; (with_reducible repeat (first | refine blk_drewN ?_ _ | refine blk_drew ?_ | refine blk_alloc ?_ _)); refine blk_far ?_ NB120_125.out _; (with_reducible repeat (first | refine blk_drewN ?_ _ | refine blk_drew ?_ | refine blk_alloc ?_ _)); refine blk_far ?_ NB120_125.out _; (with_reducible repeat (first | refine blk_drewN ?_ _ | refine blk_drew ?_ | refine blk_alloc ?_ _)); refine blk_far ?_ NB120_125.out _; (with_reducible repeat (first | refine blk_drewN ?_ _ | refine blk_drew ?_ | refine blk_alloc ?_ _)); refine blk_far ?_ NB120_125.out _; (with_reducible repeat (first | refine blk_drewN ?_ _ | refine blk_drew ?_ | refine blk_alloc ?_ _)); refine blk_far ?_ NB120_125.out _; (with_reducible repeat (first | refine blk_drewN ?_ _ | refine blk_drew ?_ | refine blk_alloc ?_ _)); refine blk_far ?_ NB120_125.out _; (with_reducible repeat (first | refine blk_drewN ?_ _ | refine blk_drew ?_ | refine blk_alloc ?_ _)); exact BK120.out) hb); have n1_ := Aside0.mk (blk_below (g := gb123) (o := .cells #[.slice (some ad124) ((rd_T80 l0_4 x22_2).f0).length c122_0] 80 (0, 0)) (by (with_reducible repeat (first | refine blk_drewN ?_ _ | refine blk_drew ?_ | refine blk_alloc ?_ _)); refine blk_far ?_ NB123_125.out _; (with_reducible repeat (first | refine blk_drewN ?_ _ | refine blk_drew ?_ | refine blk_alloc ?_ _)); refine blk_far ?_ NB123_125.out _; (with_reducible repeat (first | refine blk_drewN ?_ _ | refine blk_drew ?_ | refine blk_alloc ?_ _)); refine blk_far ?_ NB123_125.out _; (with_reducible repeat (first | refine blk_drewN ?_ _ | refine blk_drew ?_ | refine blk_alloc ?_ _)); refine blk_far ?_ NB123_125.out _; (with_reducible repeat (first | refine blk_drewN ?_ _ | refine blk_drew ?_ | refine blk_alloc ?_ _)); refine blk_far ?_ NB123_125.out _; (with_reducible repeat (first | refine blk_drewN ?_ _ | refine blk_drew ?_ | refine blk_alloc ?_ _)); refine blk_far ?_ NB123_125.out _; (with_reducible repeat (first | refine blk_drewN ?_ _ | refine blk_drew ?_ | refine blk_alloc ?_ _)); refine blk_far ?_ NB123_125.out _; (with_reducible repeat (first | refine blk_drewN ?_ _ | refine blk_drew ?_ | refine blk_alloc ?_ _)); refine blk_far ?_ NB123_125.out _; (with_reducible repeat (first | refine blk_drewN ?_ _ | refine blk_drew ?_ | refine blk_alloc ?_ _)); exact BK123.out) hb); have n2_ := Aside0.mk (blk_below (g := gb125) (o := .cells #[.int .i64 ((rd_T82 ((rd_T80 l0_4 x22_2).f0) x33_3).f0.f0), .int .i64 ((rd_T82 ((rd_T80 l0_4 x22_2).f0) x33_3).f0.f1), .string ((rd_T82 ((rd_T80 l0_4 x22_2).f0) x33_3).f0.f2), .int .i64 ((rd_T82 ((rd_T80 l0_4 x22_2).f0) x33_3).f0.f3), .int .i64 ((rd_T82 ((rd_T80 l0_4 x22_2).f0) x33_3).f1.f0), .int .i64 ((rd_T82 ((rd_T80 l0_4 x22_2).f0) x33_3).f1.f1), .string ((rd_T82 ((rd_T80 l0_4 x22_2).f0) x33_3).f1.f2), .int .i64 ((rd_T82 ((rd_T80 l0_4 x22_2).f0) x33_3).f1.f3)] 82 (0, 0)) (by (with_reducible repeat (first | refine blk_drewN ?_ _ | refine blk_drew ?_ | refine blk_alloc ?_ _)); refine blk_put (cs := #[.int .i64 ((rd_T82 ((rd_T80 l0_4 x22_2).f0) x33_3).f0.f0), .int .i64 ((rd_T82 ((rd_T80 l0_4 x22_2).f0) x33_3).f0.f1), .string ((rd_T82 ((rd_T80 l0_4 x22_2).f0) x33_3).f0.f2), .int .i64 ((rd_T82 ((rd_T80 l0_4 x22_2).f0) x33_3).f0.f3), .int .i64 ((rd_T82 ((rd_T80 l0_4 x22_2).f0) x33_3).f1.f0), .int .i64 ((rd_T82 ((rd_T80 l0_4 x22_2).f0) x33_3).f1.f1), .string ((rd_T82 ((rd_T80 l0_4 x22_2).f0) x33_3).f1.f2), .int .i64 0]) ?_ 7 _ rfl; (with_reducible repeat (first | refine blk_drewN ?_ _ | refine blk_drew ?_ | refine blk_alloc ?_ _)); refine blk_put (cs := #[.int .i64 ((rd_T82 ((rd_T80 l0_4 x22_2).f0) x33_3).f0.f0), .int .i64 ((rd_T82 ((rd_T80 l0_4 x22_2).f0) x33_3).f0.f1), .string ((rd_T82 ((rd_T80 l0_4 x22_2).f0) x33_3).f0.f2), .int .i64 ((rd_T82 ((rd_T80 l0_4 x22_2).f0) x33_3).f0.f3), .int .i64 ((rd_T82 ((rd_T80 l0_4 x22_2).f0) x33_3).f1.f0), .int .i64 ((rd_T82 ((rd_T80 l0_4 x22_2).f0) x33_3).f1.f1), .string (⟨#[]⟩ : ByteArray), .int .i64 0]) ?_ 6 _ rfl; (with_reducible repeat (first | refine blk_drewN ?_ _ | refine blk_drew ?_ | refine blk_alloc ?_ _)); refine blk_put (cs := #[.int .i64 ((rd_T82 ((rd_T80 l0_4 x22_2).f0) x33_3).f0.f0), .int .i64 ((rd_T82 ((rd_T80 l0_4 x22_2).f0) x33_3).f0.f1), .string ((rd_T82 ((rd_T80 l0_4 x22_2).f0) x33_3).f0.f2), .int .i64 ((rd_T82 ((rd_T80 l0_4 x22_2).f0) x33_3).f0.f3), .int .i64 ((rd_T82 ((rd_T80 l0_4 x22_2).f0) x33_3).f1.f0), .int .i64 0, .string (⟨#[]⟩ : ByteArray), .int .i64 0]) ?_ 5 _ rfl; (with_reducible repeat (first | refine blk_drewN ?_ _ | refine blk_drew ?_ | refine blk_alloc ?_ _)); refine blk_put (cs := #[.int .i64 ((rd_T82 ((rd_T80 l0_4 x22_2).f0) x33_3).f0.f0), .int .i64 ((rd_T82 ((rd_T80 l0_4 x22_2).f0) x33_3).f0.f1), .string ((rd_T82 ((rd_T80 l0_4 x22_2).f0) x33_3).f0.f2), .int .i64 ((rd_T82 ((rd_T80 l0_4 x22_2).f0) x33_3).f0.f3), .int .i64 0, .int .i64 0, .string (⟨#[]⟩ : ByteArray), .int .i64 0]) ?_ 4 _ rfl; (with_reducible repeat (first | refine blk_drewN ?_ _ | refine blk_drew ?_ | refine blk_alloc ?_ _)); refine blk_put (cs := #[.int .i64 ((rd_T82 ((rd_T80 l0_4 x22_2).f0) x33_3).f0.f0), .int .i64 ((rd_T82 ((rd_T80 l0_4 x22_2).f0) x33_3).f0.f1), .string ((rd_T82 ((rd_T80 l0_4 x22_2).f0) x33_3).f0.f2), .int .i64 0, .int .i64 0, .int .i64 0, .string (⟨#[]⟩ : ByteArray), .int .i64 0]) ?_ 3 _ rfl; (with_reducible repeat (first | refine blk_drewN ?_ _ | refine blk_drew ?_ | refine blk_alloc ?_ _)); refine blk_put (cs := #[.int .i64 ((rd_T82 ((rd_T80 l0_4 x22_2).f0) x33_3).f0.f0), .int .i64 ((rd_T82 ((rd_T80 l0_4 x22_2).f0) x33_3).f0.f1), .string (⟨#[]⟩ : ByteArray), .int .i64 0, .int .i64 0, .int .i64 0, .string (⟨#[]⟩ : ByteArray), .int .i64 0]) ?_ 2 _ rfl; (with_reducible repeat (first | refine blk_drewN ?_ _ | refine blk_drew ?_ | refine blk_alloc ?_ _)); refine blk_put (cs := #[.int .i64 ((rd_T82 ((rd_T80 l0_4 x22_2).f0) x33_3).f0.f0), .int .i64 0, .string (⟨#[]⟩ : ByteArray), .int .i64 0, .int .i64 0, .int .i64 0, .string (⟨#[]⟩ : ByteArray), .int .i64 0]) ?_ 1 _ rfl; (with_reducible repeat (first | refine blk_drewN ?_ _ | refine blk_drew ?_ | refine blk_alloc ?_ _)); refine blk_put (cs := #[.int .i64 0, .int .i64 0, .string (⟨#[]⟩ : ByteArray), .int .i64 0, .int .i64 0, .int .i64 0, .string (⟨#[]⟩ : ByteArray), .int .i64 0]) ?_ 0 _ rfl; (with_reducible repeat (first | refine blk_drewN ?_ _ | refine blk_drew ?_ | refine blk_alloc ?_ _)); exact BK125.out) hb); have n3_ := Aside0.mk (below_step (by repeat (first | (with_reducible first | exact HB.out | apply below_alloc | apply pw_below_drewN | apply below_drew1 | refine below_set ?_ GE120.out | refine below_set ?_ GE123.out | refine below_set ?_ GE125.out) | exact HB.out)) hb); clear BK120; clear BK123; clear BK125; clear HB; have BK120 := n0_; have BK123 := n1_; have BK125 := n2_; have HB := n3_; clear n0_ n1_ n2_ n3_; (try clear hb); (try clear hb2); (try clear hk); (try clear hi))))
                                  go_meet
                                  case rel => exact ⟨_, (true), (by first | rfl | (simp; done) | (simp [*]; done)), H', ⟨by have := HJ1.out; have := HK2.out; have := HK3.out; first | omega | exact Nat.le_refl _⟩, ⟨by (with_reducible repeat (first | refine blk_drewN ?_ _ | refine blk_drew ?_ | refine blk_alloc ?_ _)); exact BK120.out⟩, ⟨by (with_reducible repeat (first | refine blk_drewN ?_ _ | refine blk_drew ?_ | refine blk_alloc ?_ _)); exact BK123.out⟩, ⟨by (with_reducible repeat (first | refine blk_drewN ?_ _ | refine blk_drew ?_ | refine blk_alloc ?_ _)); exact BK125.out⟩, ⟨by repeat (first | (with_reducible first | exact HB.out | apply below_alloc | apply pw_below_drewN | apply below_drew1 | refine below_set ?_ GE120.out | refine below_set ?_ GE123.out | refine below_set ?_ GE125.out) | exact HB.out)⟩⟩
                              case rest =>
                                clear HC24
                                try clear c1
                                try clear p1
                                try clear q1
                                try clear hx1
                                try clear c2
                                try clear p2
                                try clear c3
                                try clear c4
                                try clear c4b0
                                try clear c4b1
                                try clear c5
                                try clear c9
                                try clear c11
                                try clear c11b0
                                try clear c12
                                try clear c12b0
                                try clear p12
                                try clear q12
                                try clear hx12
                                try clear c13
                                try clear c13b0
                                try clear c14
                                try clear c14b0
                                try clear c14b1
                                try clear c16
                                try clear c19
                                try clear c21
                                try clear c21b0
                                try clear c22
                                try clear c22b0
                                try clear c23
                                try clear c23b0
                                try clear c25
                                try clear c26
                                try clear c27
                                try clear c30
                                try clear c32
                                try clear c33
                                try clear c34
                                try clear c37
                                try clear c42
                                try clear c43
                                try clear c46
                                try clear c50
                                try clear c51
                                try clear hcz10_0
                                try clear hcz10_1
                                try clear hcz10_2
                                try clear hcz10_3
                                try clear hcz10_4
                                try clear hcz17_0
                                try clear hcz20_0
                                try clear hcz28_0
                                try clear hcz28_1
                                try clear hcz28_2
                                try clear hcz28_3
                                try clear hcz28_4
                                try clear hcz28_5
                                try clear hcz28_6
                                try clear hcz28_7
                                try clear hcz35_0
                                try clear hcz35_1
                                try clear hcz35_2
                                try clear hcz35_3
                                try clear hcz35_4
                                try clear hcz35_5
                                try clear hcz35_6
                                try clear hcz35_7
                                try clear hcz38_0
                                try clear hcz38_1
                                try clear hcz38_2
                                try clear hcz38_3
                                try clear hcz38_4
                                try clear hcz39_0
                                try clear hcz39_1
                                try clear hcz39_2
                                try clear hcz39_3
                                try clear hcz39_4
                                try clear hcz39_5
                                try clear hcz39_6
                                try clear hcz39_7
                                try clear hcz41_0
                                try clear hcz41_1
                                try clear hcz41_2
                                try clear hcz41_3
                                try clear hcz41_4
                                try clear hcz41_5
                                try clear hcz41_6
                                try clear hcz41_7
                                try clear hcz44_0
                                try clear hcz44_1
                                try clear hcz44_2
                                try clear hcz44_3
                                try clear hcz44_4
                                try clear hcz44_5
                                try clear hcz44_6
                                try clear hcz44_7
                                try clear hcz47_0
                                try clear hcz47_1
                                try clear hcz47_2
                                try clear hcz47_3
                                try clear hcz47_4
                                try clear hcz48_0
                                try clear hcz48_1
                                try clear hcz48_2
                                try clear hcz48_3
                                try clear hcz48_4
                                try clear hcz48_5
                                try clear hcz48_6
                                try clear hcz48_7
                                try clear hcz52_0
                                try clear hcz52_1
                                try clear hcz52_2
                                try clear hcz52_3
                                try clear hcz52_4
                                try clear hcz52_5
                                try clear hcz52_6
                                try clear hcz52_7
                                try clear hcz5_0
                                try clear hcz5_1
                                try clear hcz5_2
                                try clear hcz5_3
                                try clear hcz5_4
                                try clear hcz7_0
                                try clear hcz7_1
                                try clear hcz7_2
                                try clear hcz7_3
                                try clear hcz7_4
                                try clear hfz10_0
                                try clear hfz10_1
                                try clear hfz10_2
                                try clear hfz10_3
                                try clear hfz10_4
                                try clear hfz17_0
                                try clear hfz20_0
                                try clear hfz28_0
                                try clear hfz28_1
                                try clear hfz28_2
                                try clear hfz28_3
                                try clear hfz28_4
                                try clear hfz28_5
                                try clear hfz28_6
                                try clear hfz28_7
                                try clear hfz35_0
                                try clear hfz35_1
                                try clear hfz35_2
                                try clear hfz35_3
                                try clear hfz35_4
                                try clear hfz35_5
                                try clear hfz35_6
                                try clear hfz35_7
                                try clear hfz38_0
                                try clear hfz38_1
                                try clear hfz38_2
                                try clear hfz38_3
                                try clear hfz38_4
                                try clear hfz39_0
                                try clear hfz39_1
                                try clear hfz39_2
                                try clear hfz39_3
                                try clear hfz39_4
                                try clear hfz39_5
                                try clear hfz39_6
                                try clear hfz39_7
                                try clear hfz41_0
                                try clear hfz41_1
                                try clear hfz41_2
                                try clear hfz41_3
                                try clear hfz41_4
                                try clear hfz41_5
                                try clear hfz41_6
                                try clear hfz41_7
                                try clear hfz44_0
                                try clear hfz44_1
                                try clear hfz44_2
                                try clear hfz44_3
                                try clear hfz44_4
                                try clear hfz44_5
                                try clear hfz44_6
                                try clear hfz44_7
                                try clear hfz47_0
                                try clear hfz47_1
                                try clear hfz47_2
                                try clear hfz47_3
                                try clear hfz47_4
                                try clear hfz48_0
                                try clear hfz48_1
                                try clear hfz48_2
                                try clear hfz48_3
                                try clear hfz48_4
                                try clear hfz48_5
                                try clear hfz48_6
                                try clear hfz48_7
                                try clear hfz52_0
                                try clear hfz52_1
                                try clear hfz52_2
                                try clear hfz52_3
                                try clear hfz52_4
                                try clear hfz52_5
                                try clear hfz52_6
                                try clear hfz52_7
                                try clear hfz5_0
                                try clear hfz5_1
                                try clear hfz5_2
                                try clear hfz5_3
                                try clear hfz5_4
                                try clear hfz7_0
                                try clear hfz7_1
                                try clear hfz7_2
                                try clear hfz7_3
                                try clear hfz7_4
                                try clear hx122_0
                                try clear hx124_0
                                try clear hx124_1
                                try clear hx124_2
                                try clear hx124_3
                                try clear hx124_4
                                try clear hx124_5
                                try clear hx124_6
                                try clear hx124_7
                                try clear p1
                                try clear p12
                                try clear p122
                                try clear p124
                                try clear p2
                                try clear q1
                                try clear q12
                                try clear q122
                                try clear q124
                                obtain ⟨kq, x54_23, rfl, HA, HJ23, BK120, BK123, BK125, HB⟩ := hcut
                                cases kq with
                                | zero => exact absurd HA.out (by simp [spec_GraphOk.j3])
                                | succ kj23 =>
                                  have H := HA.out
                                  clear HA
                                  simp only [spec_GraphOk.j3] at H
                                  by_cases c54 : x54_23 = true
                                  · subst c54
                                    have H1 : (some false) = some r := by rw [if_pos rfl] at H; exact H
                                    clear H
                                    have H := H1
                                    clear H1
                                    obtain rfl := Option.some.inj H
                                    go_wp2
                                    repeat (go_quiet (fail); try go_wp2)
                                    go_ret
                                    exact ⟨by first | rfl | (simp [errW_none, errW_some] <;> rfl) | (simp [*, errW_none, errW_some] <;> rfl), by repeat (first | (with_reducible first | exact HB.out | apply below_alloc | apply pw_below_drewN | apply below_drew1 | refine below_set ?_ GE120.out | refine below_set ?_ GE123.out | refine below_set ?_ GE125.out) | exact HB.out)⟩
                                  · replace c54 := Bool.eq_false_iff.mpr c54
                                    subst c54
                                    have H1 : (spec_GraphOk.l2 kj23 x33_3 0 l0_4 (l0_4.length : Int) x22_2 ((rd_T80 l0_4 x22_2).f0) (((rd_T80 l0_4 x22_2).f0).length : Int) x33_3 a0_0 a0_1 a0_2 a0_3 l0_4 ((rd_T80 l0_4 x22_2).f0) ((rd_T82 ((rd_T80 l0_4 x22_2).f0) x33_3).f0.f0) ((rd_T82 ((rd_T80 l0_4 x22_2).f0) x33_3).f0.f1) ((rd_T82 ((rd_T80 l0_4 x22_2).f0) x33_3).f0.f2) ((rd_T82 ((rd_T80 l0_4 x22_2).f0) x33_3).f0.f3) ((rd_T82 ((rd_T80 l0_4 x22_2).f0) x33_3).f1.f0) ((rd_T82 ((rd_T80 l0_4 x22_2).f0) x33_3).f1.f1) ((rd_T82 ((rd_T80 l0_4 x22_2).f0) x33_3).f1.f2) ((rd_T82 ((rd_T80 l0_4 x22_2).f0) x33_3).f1.f3)) = some r := by rw [if_neg (show ¬ (false = true) by decide)] at H; exact H
                                    clear H
                                    have H := H1
                                    clear H1
                                    have H' := Aside0.mk H
                                    clear H
                                    go_wp2
                                    repeat (go_quiet (fail); try go_wp2)
                                    go_loopg [7] kj23 (fun kq v7 w' => ∃ (x7_5 : Int), v7 = .int .i64 x7_5 ∧ Aside0 (spec_GraphOk.l2 kq x33_3 x7_5 l0_4 (l0_4.length : Int) x22_2 ((rd_T80 l0_4 x22_2).f0) (((rd_T80 l0_4 x22_2).f0).length : Int) x33_3 a0_0 a0_1 a0_2 a0_3 l0_4 ((rd_T80 l0_4 x22_2).f0) ((rd_T82 ((rd_T80 l0_4 x22_2).f0) x33_3).f0.f0) ((rd_T82 ((rd_T80 l0_4 x22_2).f0) x33_3).f0.f1) ((rd_T82 ((rd_T80 l0_4 x22_2).f0) x33_3).f0.f2) ((rd_T82 ((rd_T80 l0_4 x22_2).f0) x33_3).f0.f3) ((rd_T82 ((rd_T80 l0_4 x22_2).f0) x33_3).f1.f0) ((rd_T82 ((rd_T80 l0_4 x22_2).f0) x33_3).f1.f1) ((rd_T82 ((rd_T80 l0_4 x22_2).f0) x33_3).f1.f2) ((rd_T82 ((rd_T80 l0_4 x22_2).f0) x33_3).f1.f3) = some r) ∧ Aside0 (kq ≤ kj23) ∧ Aside0 (w'.heap[gb120]? = some (.cells #[.int .i64 a0_0, .int .i64 a0_1, .string a0_2, .int .i64 a0_3, (.slice (some ad122) l0_4.length c0_4)] 48 (0, 0))) ∧ Aside0 (w'.heap[gb123]? = some (.cells #[(.slice (some ad124) ((rd_T80 l0_4 x22_2).f0).length c122_0)] 80 (0, 0))) ∧ Aside0 (w'.heap[gb125]? = some (.cells #[.int .i64 ((rd_T82 ((rd_T80 l0_4 x22_2).f0) x33_3).f0.f0), .int .i64 ((rd_T82 ((rd_T80 l0_4 x22_2).f0) x33_3).f0.f1), .string ((rd_T82 ((rd_T80 l0_4 x22_2).f0) x33_3).f0.f2), .int .i64 ((rd_T82 ((rd_T80 l0_4 x22_2).f0) x33_3).f0.f3), .int .i64 ((rd_T82 ((rd_T80 l0_4 x22_2).f0) x33_3).f1.f0), .int .i64 ((rd_T82 ((rd_T80 l0_4 x22_2).f0) x33_3).f1.f1), .string ((rd_T82 ((rd_T80 l0_4 x22_2).f0) x33_3).f1.f2), .int .i64 ((rd_T82 ((rd_T80 l0_4 x22_2).f0) x33_3).f1.f3)] 82 (0, 0))) ∧ Aside0 (Below w.heap.size w w'))
                                    case atStart => exact ⟨(0), (by first | rfl | (simp; done) | (simp [*]; done)), H', ⟨Nat.le_refl _⟩, ⟨by (with_reducible repeat (first | refine blk_drewN ?_ _ | refine blk_drew ?_ | refine blk_alloc ?_ _)); exact BK120.out⟩, ⟨by (with_reducible repeat (first | refine blk_drewN ?_ _ | refine blk_drew ?_ | refine blk_alloc ?_ _)); exact BK123.out⟩, ⟨by (with_reducible repeat (first | refine blk_drewN ?_ _ | refine blk_drew ?_ | refine blk_alloc ?_ _)); exact BK125.out⟩, ⟨by repeat (first | (with_reducible first | exact HB.out | apply below_alloc | apply pw_below_drewN | apply below_drew1 | refine below_set ?_ GE120.out | refine below_set ?_ GE123.out | refine below_set ?_ GE125.out) | exact HB.out)⟩⟩
                                    case round =>
                                      clear H'
                                      try clear c1
                                      try clear p1
                                      try clear q1
                                      try clear hx1
                                      try clear c2
                                      try clear p2
                                      try clear c3
                                      try clear c4
                                      try clear c4b0
                                      try clear c4b1
                                      try clear c5
                                      try clear c9
                                      try clear c11
                                      try clear c11b0
                                      try clear c12
                                      try clear c12b0
                                      try clear p12
                                      try clear q12
                                      try clear hx12
                                      try clear c13
                                      try clear c13b0
                                      try clear c14
                                      try clear c14b0
                                      try clear c14b1
                                      try clear c16
                                      try clear c19
                                      try clear c21
                                      try clear c21b0
                                      try clear c22
                                      try clear c22b0
                                      try clear c23
                                      try clear c23b0
                                      try clear c25
                                      try clear c26
                                      try clear c27
                                      try clear c30
                                      try clear c32
                                      try clear c33
                                      try clear c34
                                      try clear c37
                                      try clear c42
                                      try clear c43
                                      try clear c46
                                      try clear c50
                                      try clear c51
                                      try clear c54
                                      try clear hcz10_0
                                      try clear hcz10_1
                                      try clear hcz10_2
                                      try clear hcz10_3
                                      try clear hcz10_4
                                      try clear hcz17_0
                                      try clear hcz20_0
                                      try clear hcz28_0
                                      try clear hcz28_1
                                      try clear hcz28_2
                                      try clear hcz28_3
                                      try clear hcz28_4
                                      try clear hcz28_5
                                      try clear hcz28_6
                                      try clear hcz28_7
                                      try clear hcz35_0
                                      try clear hcz35_1
                                      try clear hcz35_2
                                      try clear hcz35_3
                                      try clear hcz35_4
                                      try clear hcz35_5
                                      try clear hcz35_6
                                      try clear hcz35_7
                                      try clear hcz38_0
                                      try clear hcz38_1
                                      try clear hcz38_2
                                      try clear hcz38_3
                                      try clear hcz38_4
                                      try clear hcz39_0
                                      try clear hcz39_1
                                      try clear hcz39_2
                                      try clear hcz39_3
                                      try clear hcz39_4
                                      try clear hcz39_5
                                      try clear hcz39_6
                                      try clear hcz39_7
                                      try clear hcz41_0
                                      try clear hcz41_1
                                      try clear hcz41_2
                                      try clear hcz41_3
                                      try clear hcz41_4
                                      try clear hcz41_5
                                      try clear hcz41_6
                                      try clear hcz41_7
                                      try clear hcz44_0
                                      try clear hcz44_1
                                      try clear hcz44_2
                                      try clear hcz44_3
                                      try clear hcz44_4
                                      try clear hcz44_5
                                      try clear hcz44_6
                                      try clear hcz44_7
                                      try clear hcz47_0
                                      try clear hcz47_1
                                      try clear hcz47_2
                                      try clear hcz47_3
                                      try clear hcz47_4
                                      try clear hcz48_0
                                      try clear hcz48_1
                                      try clear hcz48_2
                                      try clear hcz48_3
                                      try clear hcz48_4
                                      try clear hcz48_5
                                      try clear hcz48_6
                                      try clear hcz48_7
                                      try clear hcz52_0
                                      try clear hcz52_1
                                      try clear hcz52_2
                                      try clear hcz52_3
                                      try clear hcz52_4
                                      try clear hcz52_5
                                      try clear hcz52_6
                                      try clear hcz52_7
                                      try clear hcz5_0
                                      try clear hcz5_1
                                      try clear hcz5_2
                                      try clear hcz5_3
                                      try clear hcz5_4
                                      try clear hcz7_0
                                      try clear hcz7_1
                                      try clear hcz7_2
                                      try clear hcz7_3
                                      try clear hcz7_4
                                      try clear hfz10_0
                                      try clear hfz10_1
                                      try clear hfz10_2
                                      try clear hfz10_3
                                      try clear hfz10_4
                                      try clear hfz17_0
                                      try clear hfz20_0
                                      try clear hfz28_0
                                      try clear hfz28_1
                                      try clear hfz28_2
                                      try clear hfz28_3
                                      try clear hfz28_4
                                      try clear hfz28_5
                                      try clear hfz28_6
                                      try clear hfz28_7
                                      try clear hfz35_0
                                      try clear hfz35_1
                                      try clear hfz35_2
                                      try clear hfz35_3
                                      try clear hfz35_4
                                      try clear hfz35_5
                                      try clear hfz35_6
                                      try clear hfz35_7
                                      try clear hfz38_0
                                      try clear hfz38_1
                                      try clear hfz38_2
                                      try clear hfz38_3
                                      try clear hfz38_4
                                      try clear hfz39_0
                                      try clear hfz39_1
                                      try clear hfz39_2
                                      try clear hfz39_3
                                      try clear hfz39_4
                                      try clear hfz39_5
                                      try clear hfz39_6
                                      try clear hfz39_7
                                      try clear hfz41_0
                                      try clear hfz41_1
                                      try clear hfz41_2
                                      try clear hfz41_3
                                      try clear hfz41_4
                                      try clear hfz41_5
                                      try clear hfz41_6
                                      try clear hfz41_7
                                      try clear hfz44_0
                                      try clear hfz44_1
                                      try clear hfz44_2
                                      try clear hfz44_3
                                      try clear hfz44_4
                                      try clear hfz44_5
                                      try clear hfz44_6
                                      try clear hfz44_7
                                      try clear hfz47_0
                                      try clear hfz47_1
                                      try clear hfz47_2
                                      try clear hfz47_3
                                      try clear hfz47_4
                                      try clear hfz48_0
                                      try clear hfz48_1
                                      try clear hfz48_2
                                      try clear hfz48_3
                                      try clear hfz48_4
                                      try clear hfz48_5
                                      try clear hfz48_6
                                      try clear hfz48_7
                                      try clear hfz52_0
                                      try clear hfz52_1
                                      try clear hfz52_2
                                      try clear hfz52_3
                                      try clear hfz52_4
                                      try clear hfz52_5
                                      try clear hfz52_6
                                      try clear hfz52_7
                                      try clear hfz5_0
                                      try clear hfz5_1
                                      try clear hfz5_2
                                      try clear hfz5_3
                                      try clear hfz5_4
                                      try clear hfz7_0
                                      try clear hfz7_1
                                      try clear hfz7_2
                                      try clear hfz7_3
                                      try clear hfz7_4
                                      try clear hx122_0
                                      try clear hx124_0
                                      try clear hx124_1
                                      try clear hx124_2
                                      try clear hx124_3
                                      try clear hx124_4
                                      try clear hx124_5
                                      try clear hx124_6
                                      try clear hx124_7
                                      try clear p1
                                      try clear p12
                                      try clear p122
                                      try clear p124
                                      try clear p2
                                      try clear q1
                                      try clear q12
                                      try clear q122
                                      try clear q124
                                      obtain ⟨x7_5, rfl, HA, HK5, BK120, BK123, BK125, HB⟩ := hrel
                                      cases gk with
                                      | zero => exact absurd HA.out (by simp [spec_GraphOk.l2])
                                      | succ k5 =>
                                        have H := HA.out
                                        clear HA
                                        simp only [spec_GraphOk.l2] at H
                                        by_cases c55 : x7_5 < x33_3
                                        · rw [if_pos c55] at H
                                          have c55b0 : decide (x7_5 < x33_3) = true := decide_eq_true c55
                                          clear c55
                                          by_cases c56 : 0 ≤ x7_5
                                          · rw [if_pos c56] at H
                                            have c56b0 : decide (0 ≤ x7_5) = true := decide_eq_true c56
                                            clear c56
                                            by_cases c57 : x7_5 < (((rd_T80 l0_4 x22_2).f0).length : Int)
                                            · rw [if_pos c57] at H
                                              have c57b0 : decide (x7_5 < (((rd_T80 l0_4 x22_2).f0).length : Int)) = true := decide_eq_true c57
                                              clear c57
                                              by_cases c58 : (((rd_T82 ((rd_T80 l0_4 x22_2).f0) x7_5).f0.f0) == ((rd_T82 ((rd_T80 l0_4 x22_2).f0) x33_3).f0.f0) && (((rd_T82 ((rd_T80 l0_4 x22_2).f0) x7_5).f0.f1) == ((rd_T82 ((rd_T80 l0_4 x22_2).f0) x33_3).f0.f1) && ((((rd_T82 ((rd_T80 l0_4 x22_2).f0) x7_5).f0.f2).toList) == ((rd_T82 ((rd_T80 l0_4 x22_2).f0) x33_3).f0.f2).toList && (((rd_T82 ((rd_T80 l0_4 x22_2).f0) x7_5).f0.f3) == ((rd_T82 ((rd_T80 l0_4 x22_2).f0) x33_3).f0.f3))))) = true
                                              · rw [if_pos c58] at H
                                                have c58b0 : (((rd_T82 ((rd_T80 l0_4 x22_2).f0) x7_5).f0.f0) == ((rd_T82 ((rd_T80 l0_4 x22_2).f0) x33_3).f0.f0) && (((rd_T82 ((rd_T80 l0_4 x22_2).f0) x7_5).f0.f1) == ((rd_T82 ((rd_T80 l0_4 x22_2).f0) x33_3).f0.f1) && ((((rd_T82 ((rd_T80 l0_4 x22_2).f0) x7_5).f0.f2).toList) == ((rd_T82 ((rd_T80 l0_4 x22_2).f0) x33_3).f0.f2).toList && (((rd_T82 ((rd_T80 l0_4 x22_2).f0) x7_5).f0.f3) == ((rd_T82 ((rd_T80 l0_4 x22_2).f0) x33_3).f0.f3))))) = true := c58
                                                (try (have c58b1 : decide (((rd_T82 ((rd_T80 l0_4 x22_2).f0) x7_5).f0.f0) = ((rd_T82 ((rd_T80 l0_4 x22_2).f0) x33_3).f0.f0) && (((rd_T82 ((rd_T80 l0_4 x22_2).f0) x7_5).f0.f1) == ((rd_T82 ((rd_T80 l0_4 x22_2).f0) x33_3).f0.f1) && ((((rd_T82 ((rd_T80 l0_4 x22_2).f0) x7_5).f0.f2).toList) == ((rd_T82 ((rd_T80 l0_4 x22_2).f0) x33_3).f0.f2).toList && (((rd_T82 ((rd_T80 l0_4 x22_2).f0) x7_5).f0.f3) == ((rd_T82 ((rd_T80 l0_4 x22_2).f0) x33_3).f0.f3))))) = true := by simpa using c58))
                                                (try (have c58b2 : (((rd_T82 ((rd_T80 l0_4 x22_2).f0) x7_5).f0.f0) == ((rd_T82 ((rd_T80 l0_4 x22_2).f0) x33_3).f0.f0) && (((rd_T82 ((rd_T80 l0_4 x22_2).f0) x7_5).f0.f1) == ((rd_T82 ((rd_T80 l0_4 x22_2).f0) x33_3).f0.f1) && ((((rd_T82 ((rd_T80 l0_4 x22_2).f0) x7_5).f0.f2).toList) == ((rd_T82 ((rd_T80 l0_4 x22_2).f0) x33_3).f0.f2).toList && (((rd_T82 ((rd_T80 l0_4 x22_2).f0) x7_5).f0.f3) == ((rd_T82 ((rd_T80 l0_4 x22_2).f0) x33_3).f0.f3))))) = true := by simpa using c58))
                                                clear c58
                                                obtain rfl := Option.some.inj H
                                                have hnb59 := NB123_120.out
                                                have hnc59 := NB120_123.out
                                                have hnb60 := NB123_125.out
                                                have hnc60 := NB125_123.out
                                                have hcz61_0 : wr.cell? ⟨gb123, 0, none⟩ = some (.slice (some ad124) ((rd_T80 l0_4 x22_2).f0).length c122_0) := (blk_cell BK123.out 0).trans rfl
                                                have hfz61_0 := blk_frozen BK123.out 0
                                                have p128 : 0 ≤ (x7_5 : Int) := of_decide_eq_true (by first | (with_reducible assumption) | assumption)
                                                have q128 : x7_5 < (((rd_T80 l0_4 x22_2).f0).length : Int) := of_decide_eq_true (by first | (with_reducible assumption) | assumption)
                                                obtain ⟨ad128, e128, hx128_0, hx128_1, hx128_2, hx128_3, hx128_4, hx128_5, hx128_6, hx128_7⟩ := at_T82 HR122_0.out x7_5 p128 q128
                                                obtain rfl : ad124 = ad128 := (by injection e128)
                                                replace hx128_0 := (HB.out.cell (World.block_lt_of_cell? w _ hx128_0)).trans hx128_0
                                                replace hx128_1 := (HB.out.cell (World.block_lt_of_cell? w _ hx128_1)).trans hx128_1
                                                replace hx128_2 := (HB.out.cell (World.block_lt_of_cell? w _ hx128_2)).trans hx128_2
                                                replace hx128_3 := (HB.out.cell (World.block_lt_of_cell? w _ hx128_3)).trans hx128_3
                                                replace hx128_4 := (HB.out.cell (World.block_lt_of_cell? w _ hx128_4)).trans hx128_4
                                                replace hx128_5 := (HB.out.cell (World.block_lt_of_cell? w _ hx128_5)).trans hx128_5
                                                replace hx128_6 := (HB.out.cell (World.block_lt_of_cell? w _ hx128_6)).trans hx128_6
                                                replace hx128_7 := (HB.out.cell (World.block_lt_of_cell? w _ hx128_7)).trans hx128_7
                                                replace p128 := eq_true p128
                                                replace q128 := eq_true q128
                                                have hnb62 := NB125_120.out
                                                have hnc62 := NB120_125.out
                                                have hcz63_0 : wr.cell? ⟨gb125, 0, none⟩ = some (.int .i64 ((rd_T82 ((rd_T80 l0_4 x22_2).f0) x33_3).f0.f0)) := (blk_cell BK125.out 0).trans rfl
                                                have hcz63_1 : wr.cell? ⟨gb125, 1, none⟩ = some (.int .i64 ((rd_T82 ((rd_T80 l0_4 x22_2).f0) x33_3).f0.f1)) := (blk_cell BK125.out 1).trans rfl
                                                have hcz63_2 : wr.cell? ⟨gb125, 2, none⟩ = some (.string ((rd_T82 ((rd_T80 l0_4 x22_2).f0) x33_3).f0.f2)) := (blk_cell BK125.out 2).trans rfl
                                                have hcz63_3 : wr.cell? ⟨gb125, 3, none⟩ = some (.int .i64 ((rd_T82 ((rd_T80 l0_4 x22_2).f0) x33_3).f0.f3)) := (blk_cell BK125.out 3).trans rfl
                                                have hcz63_4 : wr.cell? ⟨gb125, 4, none⟩ = some (.int .i64 ((rd_T82 ((rd_T80 l0_4 x22_2).f0) x33_3).f1.f0)) := (blk_cell BK125.out 4).trans rfl
                                                have hcz63_5 : wr.cell? ⟨gb125, 5, none⟩ = some (.int .i64 ((rd_T82 ((rd_T80 l0_4 x22_2).f0) x33_3).f1.f1)) := (blk_cell BK125.out 5).trans rfl
                                                have hcz63_6 : wr.cell? ⟨gb125, 6, none⟩ = some (.string ((rd_T82 ((rd_T80 l0_4 x22_2).f0) x33_3).f1.f2)) := (blk_cell BK125.out 6).trans rfl
                                                have hcz63_7 : wr.cell? ⟨gb125, 7, none⟩ = some (.int .i64 ((rd_T82 ((rd_T80 l0_4 x22_2).f0) x33_3).f1.f3)) := (blk_cell BK125.out 7).trans rfl
                                                have hfz63_0 := blk_frozen BK125.out 0
                                                have hfz63_1 := blk_frozen BK125.out 1
                                                have hfz63_2 := blk_frozen BK125.out 2
                                                have hfz63_3 := blk_frozen BK125.out 3
                                                have hfz63_4 := blk_frozen BK125.out 4
                                                have hfz63_5 := blk_frozen BK125.out 5
                                                have hfz63_6 := blk_frozen BK125.out 6
                                                have hfz63_7 := blk_frozen BK125.out 7
                                                go_wp2
                                                repeat (go_quiet (fail); try go_wp2)
                                                go_ret
                                                exact ⟨by first | rfl | (simp [errW_none, errW_some] <;> rfl) | (simp [*, errW_none, errW_some] <;> rfl), by repeat (first | (with_reducible first | exact HB.out | apply below_alloc | apply pw_below_drewN | apply below_drew1 | refine below_set ?_ GE120.out | refine below_set ?_ GE123.out | refine below_set ?_ GE125.out) | exact HB.out)⟩
                                              · rw [if_neg c58] at H
                                                have c58b0 : (((rd_T82 ((rd_T80 l0_4 x22_2).f0) x7_5).f0.f0) == ((rd_T82 ((rd_T80 l0_4 x22_2).f0) x33_3).f0.f0) && (((rd_T82 ((rd_T80 l0_4 x22_2).f0) x7_5).f0.f1) == ((rd_T82 ((rd_T80 l0_4 x22_2).f0) x33_3).f0.f1) && ((((rd_T82 ((rd_T80 l0_4 x22_2).f0) x7_5).f0.f2).toList) == ((rd_T82 ((rd_T80 l0_4 x22_2).f0) x33_3).f0.f2).toList && (((rd_T82 ((rd_T80 l0_4 x22_2).f0) x7_5).f0.f3) == ((rd_T82 ((rd_T80 l0_4 x22_2).f0) x33_3).f0.f3))))) = false := by simpa using c58
                                                (try (have c58b1 : decide (((rd_T82 ((rd_T80 l0_4 x22_2).f0) x7_5).f0.f0) = ((rd_T82 ((rd_T80 l0_4 x22_2).f0) x33_3).f0.f0) && (((rd_T82 ((rd_T80 l0_4 x22_2).f0) x7_5).f0.f1) == ((rd_T82 ((rd_T80 l0_4 x22_2).f0) x33_3).f0.f1) && ((((rd_T82 ((rd_T80 l0_4 x22_2).f0) x7_5).f0.f2).toList) == ((rd_T82 ((rd_T80 l0_4 x22_2).f0) x33_3).f0.f2).toList && (((rd_T82 ((rd_T80 l0_4 x22_2).f0) x7_5).f0.f3) == ((rd_T82 ((rd_T80 l0_4 x22_2).f0) x33_3).f0.f3))))) = false := by simpa using c58))
                                                (try (have c58b2 : (((rd_T82 ((rd_T80 l0_4 x22_2).f0) x7_5).f0.f0) == ((rd_T82 ((rd_T80 l0_4 x22_2).f0) x33_3).f0.f0) && (((rd_T82 ((rd_T80 l0_4 x22_2).f0) x7_5).f0.f1) == ((rd_T82 ((rd_T80 l0_4 x22_2).f0) x33_3).f0.f1) && ((((rd_T82 ((rd_T80 l0_4 x22_2).f0) x7_5).f0.f2).toList) == ((rd_T82 ((rd_T80 l0_4 x22_2).f0) x33_3).f0.f2).toList && (((rd_T82 ((rd_T80 l0_4 x22_2).f0) x7_5).f0.f3) == ((rd_T82 ((rd_T80 l0_4 x22_2).f0) x33_3).f0.f3))))) = false := by simpa using c58))
                                                (try (have c58b3 : ¬ (((rd_T82 ((rd_T80 l0_4 x22_2).f0) x7_5).f0.f0) = ((rd_T82 ((rd_T80 l0_4 x22_2).f0) x33_3).f0.f0) && (((rd_T82 ((rd_T80 l0_4 x22_2).f0) x7_5).f0.f1) == ((rd_T82 ((rd_T80 l0_4 x22_2).f0) x33_3).f0.f1) && ((((rd_T82 ((rd_T80 l0_4 x22_2).f0) x7_5).f0.f2).toList) == ((rd_T82 ((rd_T80 l0_4 x22_2).f0) x33_3).f0.f2).toList && (((rd_T82 ((rd_T80 l0_4 x22_2).f0) x7_5).f0.f3) == ((rd_T82 ((rd_T80 l0_4 x22_2).f0) x33_3).f0.f3))))) := by simpa using c58))
                                                clear c58
                                                have H' := Aside0.mk H
                                                clear H
                                                have hnb64 := NB123_120.out
                                                have hnc64 := NB120_123.out
                                                have hnb65 := NB123_125.out
                                                have hnc65 := NB125_123.out
                                                have hcz66_0 : wr.cell? ⟨gb123, 0, none⟩ = some (.slice (some ad124) ((rd_T80 l0_4 x22_2).f0).length c122_0) := (blk_cell BK123.out 0).trans rfl
                                                have hfz66_0 := blk_frozen BK123.out 0
                                                have p128 : 0 ≤ (x7_5 : Int) := of_decide_eq_true (by first | (with_reducible assumption) | assumption)
                                                have q128 : x7_5 < (((rd_T80 l0_4 x22_2).f0).length : Int) := of_decide_eq_true (by first | (with_reducible assumption) | assumption)
                                                obtain ⟨ad128, e128, hx128_0, hx128_1, hx128_2, hx128_3, hx128_4, hx128_5, hx128_6, hx128_7⟩ := at_T82 HR122_0.out x7_5 p128 q128
                                                obtain rfl : ad124 = ad128 := (by injection e128)
                                                replace hx128_0 := (HB.out.cell (World.block_lt_of_cell? w _ hx128_0)).trans hx128_0
                                                replace hx128_1 := (HB.out.cell (World.block_lt_of_cell? w _ hx128_1)).trans hx128_1
                                                replace hx128_2 := (HB.out.cell (World.block_lt_of_cell? w _ hx128_2)).trans hx128_2
                                                replace hx128_3 := (HB.out.cell (World.block_lt_of_cell? w _ hx128_3)).trans hx128_3
                                                replace hx128_4 := (HB.out.cell (World.block_lt_of_cell? w _ hx128_4)).trans hx128_4
                                                replace hx128_5 := (HB.out.cell (World.block_lt_of_cell? w _ hx128_5)).trans hx128_5
                                                replace hx128_6 := (HB.out.cell (World.block_lt_of_cell? w _ hx128_6)).trans hx128_6
                                                replace hx128_7 := (HB.out.cell (World.block_lt_of_cell? w _ hx128_7)).trans hx128_7
                                                replace p128 := eq_true p128
                                                replace q128 := eq_true q128
                                                have hnb67 := NB125_120.out
                                                have hnc67 := NB120_125.out
                                                have hcz68_0 : wr.cell? ⟨gb125, 0, none⟩ = some (.int .i64 ((rd_T82 ((rd_T80 l0_4 x22_2).f0) x33_3).f0.f0)) := (blk_cell BK125.out 0).trans rfl
                                                have hcz68_1 : wr.cell? ⟨gb125, 1, none⟩ = some (.int .i64 ((rd_T82 ((rd_T80 l0_4 x22_2).f0) x33_3).f0.f1)) := (blk_cell BK125.out 1).trans rfl
                                                have hcz68_2 : wr.cell? ⟨gb125, 2, none⟩ = some (.string ((rd_T82 ((rd_T80 l0_4 x22_2).f0) x33_3).f0.f2)) := (blk_cell BK125.out 2).trans rfl
                                                have hcz68_3 : wr.cell? ⟨gb125, 3, none⟩ = some (.int .i64 ((rd_T82 ((rd_T80 l0_4 x22_2).f0) x33_3).f0.f3)) := (blk_cell BK125.out 3).trans rfl
                                                have hcz68_4 : wr.cell? ⟨gb125, 4, none⟩ = some (.int .i64 ((rd_T82 ((rd_T80 l0_4 x22_2).f0) x33_3).f1.f0)) := (blk_cell BK125.out 4).trans rfl
                                                have hcz68_5 : wr.cell? ⟨gb125, 5, none⟩ = some (.int .i64 ((rd_T82 ((rd_T80 l0_4 x22_2).f0) x33_3).f1.f1)) := (blk_cell BK125.out 5).trans rfl
                                                have hcz68_6 : wr.cell? ⟨gb125, 6, none⟩ = some (.string ((rd_T82 ((rd_T80 l0_4 x22_2).f0) x33_3).f1.f2)) := (blk_cell BK125.out 6).trans rfl
                                                have hcz68_7 : wr.cell? ⟨gb125, 7, none⟩ = some (.int .i64 ((rd_T82 ((rd_T80 l0_4 x22_2).f0) x33_3).f1.f3)) := (blk_cell BK125.out 7).trans rfl
                                                have hfz68_0 := blk_frozen BK125.out 0
                                                have hfz68_1 := blk_frozen BK125.out 1
                                                have hfz68_2 := blk_frozen BK125.out 2
                                                have hfz68_3 := blk_frozen BK125.out 3
                                                have hfz68_4 := blk_frozen BK125.out 4
                                                have hfz68_5 := blk_frozen BK125.out 5
                                                have hfz68_6 := blk_frozen BK125.out 6
                                                have hfz68_7 := blk_frozen BK125.out 7
                                                go_wp2
                                                repeat (go_quiet (fail); try go_wp2)
                                                go_roundg k5
                                                case measure => have := HJ1.out; have := HK2.out; have := HK3.out; have := HJ23.out; have := HK5.out; omega
                                                case rel => exact ⟨(wrap64 (x7_5 + 1)), (by first | rfl | (simp; done) | (simp [*]; done)), H', ⟨by have := HJ1.out; have := HK2.out; have := HK3.out; have := HJ23.out; have := HK5.out; omega⟩, ⟨by (with_reducible repeat (first | refine blk_drewN ?_ _ | refine blk_drew ?_ | refine blk_alloc ?_ _)); exact BK120.out⟩, ⟨by (with_reducible repeat (first | refine blk_drewN ?_ _ | refine blk_drew ?_ | refine blk_alloc ?_ _)); exact BK123.out⟩, ⟨by (with_reducible repeat (first | refine blk_drewN ?_ _ | refine blk_drew ?_ | refine blk_alloc ?_ _)); exact BK125.out⟩, ⟨by repeat (first | (with_reducible first | exact HB.out | apply below_alloc | apply pw_below_drewN | apply below_drew1 | refine below_set ?_ GE120.out | refine below_set ?_ GE123.out | refine below_set ?_ GE125.out) | exact HB.out)⟩⟩
                                            · rw [if_neg c57] at H
                                              exact absurd H (by simp)
                                          · rw [if_neg c56] at H
                                            exact absurd H (by simp)
                                        · rw [if_neg c55] at H
                                          have c55b0 : decide (x7_5 < x33_3) = false := decide_eq_false c55
                                          clear c55
                                          have H' := Aside0.mk H
                                          clear H
                                          go_wp2
                                          repeat (go_quiet (fail); try go_wp2)
                                          go_roundg k5
                                          case measure => have := HJ1.out; have := HK2.out; have := HK3.out; have := HJ23.out; have := HK5.out; omega
                                          case rel => exact ⟨(wrap64 (x33_3 + 1)), (by first | rfl | (simp; done) | (simp [*]; done)), H', ⟨by have := HJ1.out; have := HK2.out; have := HK3.out; have := HJ23.out; have := HK5.out; omega⟩, ⟨by (with_reducible repeat (first | refine blk_drewN ?_ _ | refine blk_drew ?_ | refine blk_alloc ?_ _)); exact BK120.out⟩, ⟨by (with_reducible repeat (first | refine blk_drewN ?_ _ | refine blk_drew ?_ | refine blk_alloc ?_ _)); exact BK123.out⟩, ⟨by repeat (first | (with_reducible first | exact HB.out | apply below_alloc | apply pw_below_drewN | apply below_drew1 | refine below_set ?_ GE120.out | refine below_set ?_ GE123.out | refine below_set ?_ GE125.out) | exact HB.out)⟩⟩
                            · rw [if_neg c23] at H
                              exact absurd H (by simp)
                          · rw [if_neg c22] at H
                            exact absurd H (by simp)
                        · rw [if_neg c21] at H
                          have c21b0 : decide (x33_3 < (((rd_T80 l0_4 x22_2).f0).length : Int)) = false := decide_eq_false c21
                          clear c21
                          have H' := Aside0.mk H
                          clear H
                          go_wp2
                          repeat (go_quiet (fail); try go_wp2)
                          go_roundg k3
                          case measure => have := HJ1.out; have := HK2.out; have := HK3.out; omega
                          case rel => exact ⟨(wrap64 (x22_2 + 1)), (by first | rfl | (simp; done) | (simp [*]; done)), H', ⟨by have := HJ1.out; have := HK2.out; have := HK3.out; omega⟩, ⟨by (with_reducible repeat (first | refine blk_drewN ?_ _ | refine blk_drew ?_ | refine blk_alloc ?_ _)); exact BK120.out⟩, ⟨by repeat (first | (with_reducible first | exact HB.out | apply below_alloc | apply pw_below_drewN | apply below_drew1 | refine below_set ?_ GE120.out | refine below_set ?_ GE123.out) | exact HB.out)⟩⟩
                · rw [if_neg c13] at H
                  exact absurd H (by simp)
              · rw [if_neg c12] at H
                exact absurd H (by simp)
            · rw [if_neg c11] at H
              have c11b0 : decide (x22_2 < (l0_4.length : Int)) = false := decide_eq_false c11
              clear c11
              obtain rfl := Option.some.inj H
              go_wp2
              repeat (go_quiet (fail); try go_wp2)
              go_ret
              exact ⟨by first | rfl | (simp [errW_none, errW_some] <;> rfl) | (simp [*, errW_none, errW_some] <;> rfl), by repeat (first | (with_reducible first | exact HB.out | apply below_alloc | apply pw_below_drewN | apply below_drew1 | refine below_set ?_ GE120.out) | exact HB.out)⟩

end Go.Proofs.Ytkamfnmbidnhdaa.P
