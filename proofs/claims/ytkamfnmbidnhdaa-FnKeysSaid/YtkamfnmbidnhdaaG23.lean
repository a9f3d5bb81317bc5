/- spec.DrawKeyOrder: the walk (the print program falls over it), and the contract in the print's form. -/
import Derived.Test.YtkamfnmbidnhdaaPf52
import Derived.Test.YtkamfnmbidnhdaaPf53
import Derived.Test.YtkamfnmbidnhdaaPf54
import Derived.Deep.RegionWith
import Derived.BigRegion
namespace Go.Proofs.Ytkamfnmbidnhdaa.P
open Go.RowKit Go.Proofs.YtkamfnmbidnhdaaW.PrintWords Go.Proofs.YtkamfnmbidnhdaaW.PrintLast Go.Proofs.YtkamfnmbidnhdaaW.PrintMore
set_option linter.unusedVariables false
set_option linter.unusedSimpArgs false
def spec_DrawKeyOrder.f (k : Nat) (l0 : List Int) : Option (Int × Int × ByteArray × Int × Int × Int × ByteArray × Int) :=
  (spec_l6Cur_key.f k l0 0 0).bind fun a => (spec_l6Cur_pick.f l0 a.2.2.2.2.1 a.2.2.2.2.2 8).bind fun p =>
    if p.1 = 0 then (spec_l6Cur_val.f k l0 p.2.1 p.2.2 2).bind fun b => some (a.1, a.2.1, a.2.2.1, a.2.2.2.1, b.1, b.2.1, b.2.2.1, b.2.2.2.1)
    else (spec_l6Cur_key.f k l0 p.2.1 p.2.2).bind fun b => some (a.1, a.2.1, a.2.2.1, a.2.2.2.1, b.1, b.2.1, b.2.2.1, b.2.2.2.1)
theorem spec_DrawKeyOrder.mono : ∀ a0 k, LeO (spec_DrawKeyOrder.f k a0) (spec_DrawKeyOrder.f (k + 1) a0) := by
  intro a0 k
  unfold spec_DrawKeyOrder.f
  repeat' first
      | (with_reducible exact spec_l6Cur_key.mono _ _ _ _)
      | (with_reducible exact spec_l6Cur_val.mono _ _ _ _ _)
      | (with_reducible exact LeO.refl _)
      | (with_reducible refine LeO.ite ?_ ?_)
      | (with_reducible refine LeO.bind ?_ (fun _ => ?_))
set_option maxHeartbeats 4000000 in
set_option maxRecDepth 100000 in
theorem spec_DrawKeyOrder.calls (k : Nat) (A0 : Option Addr) (c0 : Nat) (l0 : List Int) (r0 r1 : Int) (r2 : ByteArray) (r3 r4 r5 : Int) (r6 : ByteArray) (r7 : Int) (w : World) (hr0 : Kd.C (Kd.int .u8) w A0 l0.length l0) (hc0 : l0.length ≤ c0) (h : spec_DrawKeyOrder.f k l0 = some (r0, r1, r2, r3, r4, r5, r6, r7)) :
    Calls Try.prog 23 #[.slice A0 l0.length c0] w fun e w' => e = .returned (.tuple #[.agg #[.int .i64 r0, .int .i64 r1, .string r2, .int .i64 r3], .agg #[.int .i64 r4, .int .i64 r5, .string r6, .int .i64 r7]]) ∧ Below w.heap.size w w' := by
  have hu29 := Try.underlying29
  have hu73 := Try.underlying73
  simp only [spec_DrawKeyOrder.f] at h
  obtain ⟨⟨a0, a1, a2, a3, a4, a5⟩, hk, h⟩ := Option.bind_eq_some_iff.mp h
  obtain ⟨⟨p0, p1, p2⟩, hp, h⟩ := Option.bind_eq_some_iff.mp h
  dsimp only at hk hp h
  have HK := Aside0.mk hk
  have HP := Aside0.mk hp
  have HC := Aside0.mk hr0
  clear hk hp hr0
  by_cases c : p0 = 0
  · rw [if_pos c] at h
    obtain ⟨⟨b0, b1, b2, b3, b4, b5⟩, hb, h⟩ := Option.bind_eq_some_iff.mp h
    dsimp only at hb h
    simp only [Option.some.injEq, Prod.mk.injEq] at h
    obtain ⟨rfl, rfl, rfl, rfl, rfl, rfl, rfl, rfl⟩ := h
    have HV := Aside0.mk hb
    clear hb
    subst c
    go_enter Try.func23, Try.ntmps23
    go_upto_region 2 with fail
    have hI0 := IsS73.new w ((w.alloc (.cells #[.int .i64 0, .int .i64 0, .string (⟨#[]⟩ : ByteArray), .int .i64 0] 29)).alloc (.cells #[.int .i64 0, .int .i64 0, .string (⟨#[]⟩ : ByteArray), .int .i64 0] 29)) A0 c0 l0 0 0 (below_alloc (below_alloc (Below.refl _ _) _) _) HC.out
    have hB0 : Below w.heap.size w (((w.alloc (.cells #[.int .i64 0, .int .i64 0, .string (⟨#[]⟩ : ByteArray), .int .i64 0] 29)).alloc (.cells #[.int .i64 0, .int .i64 0, .string (⟨#[]⟩ : ByteArray), .int .i64 0] 29)).alloc (.cells #[.slice A0 l0.length c0, .int .i64 0, .int .u64 0] 73)) := below_alloc (below_alloc (below_alloc (Below.refl _ _) _) _) _
    have hb2 : (((w.alloc (.cells #[.int .i64 0, .int .i64 0, .string (⟨#[]⟩ : ByteArray), .int .i64 0] 29)).alloc (.cells #[.int .i64 0, .int .i64 0, .string (⟨#[]⟩ : ByteArray), .int .i64 0] 29)).alloc (.cells #[.slice A0 l0.length c0, .int .i64 0, .int .u64 0] 73)).heap[w.heap.size]? = some (.cells #[.int .i64 0, .int .i64 0, .string (⟨#[]⟩ : ByteArray), .int .i64 0] 29) := blk_alloc (blk_alloc (blk_new w _) _) _
    have hb3 : (((w.alloc (.cells #[.int .i64 0, .int .i64 0, .string (⟨#[]⟩ : ByteArray), .int .i64 0] 29)).alloc (.cells #[.int .i64 0, .int .i64 0, .string (⟨#[]⟩ : ByteArray), .int .i64 0] 29)).alloc (.cells #[.slice A0 l0.length c0, .int .i64 0, .int .u64 0] 73)).heap[w.heap.size + 1]? = some (.cells #[.int .i64 0, .int .i64 0, .string (⟨#[]⟩ : ByteArray), .int .i64 0] 29) := blk_alloc (by have := blk_new (w.alloc (.cells #[.int .i64 0, .int .i64 0, .string (⟨#[]⟩ : ByteArray), .int .i64 0] 29)) (.cells #[.int .i64 0, .int .i64 0, .string (⟨#[]⟩ : ByteArray), .int .i64 0] 29); simpa using this) _
    have hg : ((w.alloc (.cells #[.int .i64 0, .int .i64 0, .string (⟨#[]⟩ : ByteArray), .int .i64 0] 29)).alloc (.cells #[.int .i64 0, .int .i64 0, .string (⟨#[]⟩ : ByteArray), .int .i64 0] 29)).heap.size = w.heap.size + 1 + 1 := by simp
    rw [hg] at hI0
    have n23 : w.heap.size ≠ w.heap.size + 1 := by omega
    have n24 : w.heap.size ≠ w.heap.size + 1 + 1 := by omega
    have n34 : w.heap.size + 1 ≠ w.heap.size + 1 + 1 := by omega
    have l2 : w.heap.size ≤ w.heap.size := Nat.le_refl _
    have l3 : w.heap.size ≤ w.heap.size + 1 := Nat.le_succ _
    generalize hW : (((w.alloc (.cells #[.int .i64 0, .int .i64 0, .string (⟨#[]⟩ : ByteArray), .int .i64 0] 29)).alloc (.cells #[.int .i64 0, .int .i64 0, .string (⟨#[]⟩ : ByteArray), .int .i64 0] 29)).alloc (.cells #[.slice A0 l0.length c0, .int .i64 0, .int .u64 0] 73)) = W0 at hI0 hB0 hb2 hb3 ⊢
    clear hW hg
    have HI0 := Aside0.mk hI0
    have HB0 := Aside0.mk hB0
    have Hb2 := Aside0.mk hb2
    have Hb3 := Aside0.mk hb3
    have HN := Aside0.mk (And.intro n23 (And.intro n24 n34))
    have HL := Aside0.mk (And.intro l2 l3)
    clear hI0 hB0 hb2 hb3 n23 n24 n34 l2 l3
    generalize w.heap.size + 1 + 1 = gs at HI0 HN ⊢
    generalize w.heap.size + 1 = g3 at Hb3 HN HL ⊢
    go_upto_region 3 with (go_at_call 52; refine (spec_l6Cur_key.calls k gs l0 0 0 a0 a1 a2 a3 a4 a5 w W0 HI0.out HB0.out HK.out).mono ?_; rintro e w1 ⟨rfl, hI, hB, hK⟩; have HI1 := Aside0.mk hI; have HB1 := Aside0.mk hB; have Hc2 := Aside0.mk (KeepBut.blk hK Hb2.out HN.out.2.1 (by simp)); have Hc3 := Aside0.mk (KeepBut.blk hK Hb3.out HN.out.2.2 (by simp)); clear hI hB hK)
    have hI2 := HI1.out.alloc (.cells #[.int .i64 a0, .int .i64 a1, .string a2, .int .i64 a3] 29)
    have hB2 := below_alloc HB1.out (.cells #[.int .i64 a0, .int .i64 a1, .string a2, .int .i64 a3] 29)
    have hd2 := blk_alloc Hc2.out (.cells #[.int .i64 a0, .int .i64 a1, .string a2, .int .i64 a3] 29)
    have hd3 := blk_alloc Hc3.out (.cells #[.int .i64 a0, .int .i64 a1, .string a2, .int .i64 a3] 29)
    have hd5 := blk_new w1 (.cells #[.int .i64 a0, .int .i64 a1, .string a2, .int .i64 a3] 29)
    have n5s : w1.heap.size ≠ gs := Nat.ne_of_gt HI1.out.lt
    have n52 : w1.heap.size ≠ w.heap.size := Nat.ne_of_gt (blk_lt Hc2.out)
    have n53 : w1.heap.size ≠ g3 := Nat.ne_of_gt (blk_lt Hc3.out)
    generalize hW2 : w1.alloc (.cells #[.int .i64 a0, .int .i64 a1, .string a2, .int .i64 a3] 29) = W2 at hI2 hB2 hd2 hd3 hd5 ⊢
    generalize w1.heap.size = g5 at hd5 n5s n52 n53 ⊢
    clear hW2
    have HI2 := Aside0.mk hI2
    have HB2 := Aside0.mk hB2
    have Hd2 := Aside0.mk hd2
    have Hd3 := Aside0.mk hd3
    have Hd5 := Aside0.mk hd5
    have HM := Aside0.mk (And.intro n5s (And.intro n52 n53))
    clear hI2 hB2 hd2 hd3 hd5 n5s n52 n53
    go_upto_region 4 with (go_at_call 53; refine (spec_l6Cur_pick.calls gs l0 a4 a5 8 _ p1 p2 w W2 HI2.out HB2.out HP.out).mono ?_; rintro e w3 ⟨rfl, hI, hB, hK⟩; have HI3 := Aside0.mk hI; have HB3 := Aside0.mk hB; have He2 := Aside0.mk (KeepBut.blk hK Hd2.out HN.out.2.1 (by simp)); have He3 := Aside0.mk (KeepBut.blk hK Hd3.out HN.out.2.2 (by simp)); have He5 := Aside0.mk (KeepBut.blk hK Hd5.out HM.out.1 (by simp)); clear hI hB hK)
    have he5 := He5.out
    have y0 : w3.cell? ⟨g5, 0, none⟩ = some (.int .i64 a0) := (blk_cell he5 0).trans rfl
    have yf0 := blk_frozen he5 0
    have y1 : w3.cell? ⟨g5, 1, none⟩ = some (.int .i64 a1) := (blk_cell he5 1).trans rfl
    have yf1 := blk_frozen he5 1
    have y2 : w3.cell? ⟨g5, 2, none⟩ = some (.string a2) := (blk_cell he5 2).trans rfl
    have yf2 := blk_frozen he5 2
    have y3 : w3.cell? ⟨g5, 3, none⟩ = some (.int .i64 a3) := (blk_cell he5 3).trans rfl
    have yf3 := blk_frozen he5 3
    clear he5
    have n23 : w.heap.size ≠ g3 := HN.out.1
    have n25 : g5 ≠ w.heap.size := HM.out.2.1
    have n35 : g5 ≠ g3 := HM.out.2.2
    go_region_with (go_at_call 54; refine (spec_l6Cur_val.calls k gs l0 p1 p2 2 b0 b1 b2 b3 b4 b5 w _ ?s1 ?s2 HV.out).mono ?_; (case s1 => repeat (first | exact HI3.out | apply IsS73.drew | apply IsS73.drewN)); (case s2 => repeat (first | exact HB3.out | apply below_drew1 | apply pw_below_drewN)); rintro e w4 ⟨rfl, hI, hB, hK⟩; have HB4 := Aside0.mk hB; have Hq2 := KeepBut.blk hK (by repeat (first | exact He2.out | refine blk_drew ?_ | refine blk_drewN ?_ _)) HN.out.2.1 (by simp); have Hq3 := KeepBut.blk hK (by repeat (first | exact He3.out | refine blk_drew ?_ | refine blk_drewN ?_ _)) HN.out.2.2 (by simp); have Hq5 := KeepBut.blk hK (by repeat (first | exact He5.out | refine blk_drew ?_ | refine blk_drewN ?_ _)) HM.out.1 (by simp); clear hI hB hK; have u0 : w4.cell? ⟨w.heap.size, 0, none⟩ = some (.int .i64 0) := (blk_cell Hq2 0).trans rfl; have uf0 := blk_frozen Hq2 0; have u1 : w4.cell? ⟨w.heap.size, 1, none⟩ = some (.int .i64 0) := (blk_cell Hq2 1).trans rfl; have uf1 := blk_frozen Hq2 1; have u2 : w4.cell? ⟨w.heap.size, 2, none⟩ = some (.string (⟨#[]⟩ : ByteArray)) := (blk_cell Hq2 2).trans rfl; have uf2 := blk_frozen Hq2 2; have u3 : w4.cell? ⟨w.heap.size, 3, none⟩ = some (.int .i64 0) := (blk_cell Hq2 3).trans rfl; have uf3 := blk_frozen Hq2 3; have v0 : w4.cell? ⟨g3, 0, none⟩ = some (.int .i64 0) := (blk_cell Hq3 0).trans rfl; have vf0 := blk_frozen Hq3 0; have v1 : w4.cell? ⟨g3, 1, none⟩ = some (.int .i64 0) := (blk_cell Hq3 1).trans rfl; have vf1 := blk_frozen Hq3 1; have v2 : w4.cell? ⟨g3, 2, none⟩ = some (.string (⟨#[]⟩ : ByteArray)) := (blk_cell Hq3 2).trans rfl; have vf2 := blk_frozen Hq3 2; have v3 : w4.cell? ⟨g3, 3, none⟩ = some (.int .i64 0) := (blk_cell Hq3 3).trans rfl; have vf3 := blk_frozen Hq3 3; have x0 : w4.cell? ⟨g5, 0, none⟩ = some (.int .i64 a0) := (blk_cell Hq5 0).trans rfl; have xf0 := blk_frozen Hq5 0; have x1 : w4.cell? ⟨g5, 1, none⟩ = some (.int .i64 a1) := (blk_cell Hq5 1).trans rfl; have xf1 := blk_frozen Hq5 1; have x2 : w4.cell? ⟨g5, 2, none⟩ = some (.string a2) := (blk_cell Hq5 2).trans rfl; have xf2 := blk_frozen Hq5 2; have x3 : w4.cell? ⟨g5, 3, none⟩ = some (.int .i64 a3) := (blk_cell Hq5 3).trans rfl; have xf3 := blk_frozen Hq5 3; have HQ2 := Aside0.mk Hq2; have HQ3 := Aside0.mk Hq3; clear Hq2 Hq3 Hq5)
    all_goals (
      go_wp2_with fail
      have hr2 := blk_far (blk_far (blk_far (blk_far (blk_put (blk_put (blk_put (blk_put HQ2.out 0 (.int .i64 a0) rfl) 1 (.int .i64 a1) rfl) 2 (.string a2) rfl) 3 (.int .i64 a3) rfl) (p := ⟨g3, 0, none⟩) n23 (.int .i64 b0)) (p := ⟨g3, 1, none⟩) n23 (.int .i64 b1)) (p := ⟨g3, 2, none⟩) n23 (.string b2)) (p := ⟨g3, 3, none⟩) n23 (.int .i64 b3)
      have hr3 := blk_put (blk_put (blk_put (blk_put (blk_far (blk_far (blk_far (blk_far HQ3.out (p := ⟨w.heap.size, 0, none⟩) n23.symm (.int .i64 a0)) (p := ⟨w.heap.size, 1, none⟩) n23.symm (.int .i64 a1)) (p := ⟨w.heap.size, 2, none⟩) n23.symm (.string a2)) (p := ⟨w.heap.size, 3, none⟩) n23.symm (.int .i64 a3)) 0 (.int .i64 b0) rfl) 1 (.int .i64 b1) rfl) 2 (.string b2) rfl) 3 (.int .i64 b3) rfl
      (try simp only [Exit.inBlock, Exit.then])
      refine bodyPost_ret (results_cc rfl _ _ w.heap.size g3 29 29 _ _ (0, 0) (0, 0) _ _ rfl hr2 hu29 rfl (by kernel_rfl) rfl hr3 hu29 rfl (by kernel_rfl)) rfl ?_
      exact ⟨rfl, below_set (below_set (below_set (below_set (below_set (below_set (below_set (below_set HB4.out (Nat.le_refl _)) (Nat.le_refl _)) (Nat.le_refl _)) (Nat.le_refl _)) HL.out.2) HL.out.2) HL.out.2) HL.out.2⟩)
  · rw [if_neg c] at h
    obtain ⟨⟨b0, b1, b2, b3, b4, b5⟩, hb, h⟩ := Option.bind_eq_some_iff.mp h
    dsimp only at hb h
    simp only [Option.some.injEq, Prod.mk.injEq] at h
    obtain ⟨rfl, rfl, rfl, rfl, rfl, rfl, rfl, rfl⟩ := h
    have HV := Aside0.mk hb
    clear hb
    have cb : (p0 == 0) = false := by simp [c]
    have cd : decide (p0 = 0) = false := decide_eq_false c
    have ci : (p0 = 0) = False := eq_false c
    clear c
    go_enter Try.func23, Try.ntmps23
    go_upto_region 2 with fail
    have hI0 := IsS73.new w ((w.alloc (.cells #[.int .i64 0, .int .i64 0, .string (⟨#[]⟩ : ByteArray), .int .i64 0] 29)).alloc (.cells #[.int .i64 0, .int .i64 0, .string (⟨#[]⟩ : ByteArray), .int .i64 0] 29)) A0 c0 l0 0 0 (below_alloc (below_alloc (Below.refl _ _) _) _) HC.out
    have hB0 : Below w.heap.size w (((w.alloc (.cells #[.int .i64 0, .int .i64 0, .string (⟨#[]⟩ : ByteArray), .int .i64 0] 29)).alloc (.cells #[.int .i64 0, .int .i64 0, .string (⟨#[]⟩ : ByteArray), .int .i64 0] 29)).alloc (.cells #[.slice A0 l0.length c0, .int .i64 0, .int .u64 0] 73)) := below_alloc (below_alloc (below_alloc (Below.refl _ _) _) _) _
    have hb2 : (((w.alloc (.cells #[.int .i64 0, .int .i64 0, .string (⟨#[]⟩ : ByteArray), .int .i64 0] 29)).alloc (.cells #[.int .i64 0, .int .i64 0, .string (⟨#[]⟩ : ByteArray), .int .i64 0] 29)).alloc (.cells #[.slice A0 l0.length c0, .int .i64 0, .int .u64 0] 73)).heap[w.heap.size]? = some (.cells #[.int .i64 0, .int .i64 0, .string (⟨#[]⟩ : ByteArray), .int .i64 0] 29) := blk_alloc (blk_alloc (blk_new w _) _) _
    have hb3 : (((w.alloc (.cells #[.int .i64 0, .int .i64 0, .string (⟨#[]⟩ : ByteArray), .int .i64 0] 29)).alloc (.cells #[.int .i64 0, .int .i64 0, .string (⟨#[]⟩ : ByteArray), .int .i64 0] 29)).alloc (.cells #[.slice A0 l0.length c0, .int .i64 0, .int .u64 0] 73)).heap[w.heap.size + 1]? = some (.cells #[.int .i64 0, .int .i64 0, .string (⟨#[]⟩ : ByteArray), .int .i64 0] 29) := blk_alloc (by have := blk_new (w.alloc (.cells #[.int .i64 0, .int .i64 0, .string (⟨#[]⟩ : ByteArray), .int .i64 0] 29)) (.cells #[.int .i64 0, .int .i64 0, .string (⟨#[]⟩ : ByteArray), .int .i64 0] 29); simpa using this) _
    have hg : ((w.alloc (.cells #[.int .i64 0, .int .i64 0, .string (⟨#[]⟩ : ByteArray), .int .i64 0] 29)).alloc (.cells #[.int .i64 0, .int .i64 0, .string (⟨#[]⟩ : ByteArray), .int .i64 0] 29)).heap.size = w.heap.size + 1 + 1 := by simp
    rw [hg] at hI0
    have n23 : w.heap.size ≠ w.heap.size + 1 := by omega
    have n24 : w.heap.size ≠ w.heap.size + 1 + 1 := by omega
    have n34 : w.heap.size + 1 ≠ w.heap.size + 1 + 1 := by omega
    have l2 : w.heap.size ≤ w.heap.size := Nat.le_refl _
    have l3 : w.heap.size ≤ w.heap.size + 1 := Nat.le_succ _
    generalize hW : (((w.alloc (.cells #[.int .i64 0, .int .i64 0, .string (⟨#[]⟩ : ByteArray), .int .i64 0] 29)).alloc (.cells #[.int .i64 0, .int .i64 0, .string (⟨#[]⟩ : ByteArray), .int .i64 0] 29)).alloc (.cells #[.slice A0 l0.length c0, .int .i64 0, .int .u64 0] 73)) = W0 at hI0 hB0 hb2 hb3 ⊢
    clear hW hg
    have HI0 := Aside0.mk hI0
    have HB0 := Aside0.mk hB0
    have Hb2 := Aside0.mk hb2
    have Hb3 := Aside0.mk hb3
    have HN := Aside0.mk (And.intro n23 (And.intro n24 n34))
    have HL := Aside0.mk (And.intro l2 l3)
    clear hI0 hB0 hb2 hb3 n23 n24 n34 l2 l3
    generalize w.heap.size + 1 + 1 = gs at HI0 HN ⊢
    generalize w.heap.size + 1 = g3 at Hb3 HN HL ⊢
    go_upto_region 3 with (go_at_call 52; refine (spec_l6Cur_key.calls k gs l0 0 0 a0 a1 a2 a3 a4 a5 w W0 HI0.out HB0.out HK.out).mono ?_; rintro e w1 ⟨rfl, hI, hB, hK⟩; have HI1 := Aside0.mk hI; have HB1 := Aside0.mk hB; have Hc2 := Aside0.mk (KeepBut.blk hK Hb2.out HN.out.2.1 (by simp)); have Hc3 := Aside0.mk (KeepBut.blk hK Hb3.out HN.out.2.2 (by simp)); clear hI hB hK)
    have hI2 := HI1.out.alloc (.cells #[.int .i64 a0, .int .i64 a1, .string a2, .int .i64 a3] 29)
    have hB2 := below_alloc HB1.out (.cells #[.int .i64 a0, .int .i64 a1, .string a2, .int .i64 a3] 29)
    have hd2 := blk_alloc Hc2.out (.cells #[.int .i64 a0, .int .i64 a1, .string a2, .int .i64 a3] 29)
    have hd3 := blk_alloc Hc3.out (.cells #[.int .i64 a0, .int .i64 a1, .string a2, .int .i64 a3] 29)
    have hd5 := blk_new w1 (.cells #[.int .i64 a0, .int .i64 a1, .string a2, .int .i64 a3] 29)
    have n5s : w1.heap.size ≠ gs := Nat.ne_of_gt HI1.out.lt
    have n52 : w1.heap.size ≠ w.heap.size := Nat.ne_of_gt (blk_lt Hc2.out)
    have n53 : w1.heap.size ≠ g3 := Nat.ne_of_gt (blk_lt Hc3.out)
    generalize hW2 : w1.alloc (.cells #[.int .i64 a0, .int .i64 a1, .string a2, .int .i64 a3] 29) = W2 at hI2 hB2 hd2 hd3 hd5 ⊢
    generalize w1.heap.size = g5 at hd5 n5s n52 n53 ⊢
    clear hW2
    have HI2 := Aside0.mk hI2
    have HB2 := Aside0.mk hB2
    have Hd2 := Aside0.mk hd2
    have Hd3 := Aside0.mk hd3
    have Hd5 := Aside0.mk hd5
    have HM := Aside0.mk (And.intro n5s (And.intro n52 n53))
    clear hI2 hB2 hd2 hd3 hd5 n5s n52 n53
    go_upto_region 5 with (go_at_call 53; refine (spec_l6Cur_pick.calls gs l0 a4 a5 8 _ p1 p2 w W2 HI2.out HB2.out HP.out).mono ?_; rintro e w3 ⟨rfl, hI, hB, hK⟩; have HI3 := Aside0.mk hI; have HB3 := Aside0.mk hB; have He2 := Aside0.mk (KeepBut.blk hK Hd2.out HN.out.2.1 (by simp)); have He3 := Aside0.mk (KeepBut.blk hK Hd3.out HN.out.2.2 (by simp)); have He5 := Aside0.mk (KeepBut.blk hK Hd5.out HM.out.1 (by simp)); clear hI hB hK)
    have he5 := He5.out
    have y0 : w3.cell? ⟨g5, 0, none⟩ = some (.int .i64 a0) := (blk_cell he5 0).trans rfl
    have yf0 := blk_frozen he5 0
    have y1 : w3.cell? ⟨g5, 1, none⟩ = some (.int .i64 a1) := (blk_cell he5 1).trans rfl
    have yf1 := blk_frozen he5 1
    have y2 : w3.cell? ⟨g5, 2, none⟩ = some (.string a2) := (blk_cell he5 2).trans rfl
    have yf2 := blk_frozen he5 2
    have y3 : w3.cell? ⟨g5, 3, none⟩ = some (.int .i64 a3) := (blk_cell he5 3).trans rfl
    have yf3 := blk_frozen he5 3
    clear he5
    have n23 : w.heap.size ≠ g3 := HN.out.1
    have n25 : g5 ≠ w.heap.size := HM.out.2.1
    have n35 : g5 ≠ g3 := HM.out.2.2
    go_region_with (go_at_call 52; refine (spec_l6Cur_key.calls k gs l0 p1 p2 b0 b1 b2 b3 b4 b5 w _ ?s1 ?s2 HV.out).mono ?_; (case s1 => repeat (first | exact HI3.out | apply IsS73.drew | apply IsS73.drewN)); (case s2 => repeat (first | exact HB3.out | apply below_drew1 | apply pw_below_drewN)); rintro e w4 ⟨rfl, hI, hB, hK⟩; have HB4 := Aside0.mk hB; have Hq2 := KeepBut.blk hK (by repeat (first | exact He2.out | refine blk_drew ?_ | refine blk_drewN ?_ _)) HN.out.2.1 (by simp); have Hq3 := KeepBut.blk hK (by repeat (first | exact He3.out | refine blk_drew ?_ | refine blk_drewN ?_ _)) HN.out.2.2 (by simp); have Hq5 := KeepBut.blk hK (by repeat (first | exact He5.out | refine blk_drew ?_ | refine blk_drewN ?_ _)) HM.out.1 (by simp); clear hI hB hK; have u0 : w4.cell? ⟨w.heap.size, 0, none⟩ = some (.int .i64 0) := (blk_cell Hq2 0).trans rfl; have uf0 := blk_frozen Hq2 0; have u1 : w4.cell? ⟨w.heap.size, 1, none⟩ = some (.int .i64 0) := (blk_cell Hq2 1).trans rfl; have uf1 := blk_frozen Hq2 1; have u2 : w4.cell? ⟨w.heap.size, 2, none⟩ = some (.string (⟨#[]⟩ : ByteArray)) := (blk_cell Hq2 2).trans rfl; have uf2 := blk_frozen Hq2 2; have u3 : w4.cell? ⟨w.heap.size, 3, none⟩ = some (.int .i64 0) := (blk_cell Hq2 3).trans rfl; have uf3 := blk_frozen Hq2 3; have v0 : w4.cell? ⟨g3, 0, none⟩ = some (.int .i64 0) := (blk_cell Hq3 0).trans rfl; have vf0 := blk_frozen Hq3 0; have v1 : w4.cell? ⟨g3, 1, none⟩ = some (.int .i64 0) := (blk_cell Hq3 1).trans rfl; have vf1 := blk_frozen Hq3 1; have v2 : w4.cell? ⟨g3, 2, none⟩ = some (.string (⟨#[]⟩ : ByteArray)) := (blk_cell Hq3 2).trans rfl; have vf2 := blk_frozen Hq3 2; have v3 : w4.cell? ⟨g3, 3, none⟩ = some (.int .i64 0) := (blk_cell Hq3 3).trans rfl; have vf3 := blk_frozen Hq3 3; have x0 : w4.cell? ⟨g5, 0, none⟩ = some (.int .i64 a0) := (blk_cell Hq5 0).trans rfl; have xf0 := blk_frozen Hq5 0; have x1 : w4.cell? ⟨g5, 1, none⟩ = some (.int .i64 a1) := (blk_cell Hq5 1).trans rfl; have xf1 := blk_frozen Hq5 1; have x2 : w4.cell? ⟨g5, 2, none⟩ = some (.string a2) := (blk_cell Hq5 2).trans rfl; have xf2 := blk_frozen Hq5 2; have x3 : w4.cell? ⟨g5, 3, none⟩ = some (.int .i64 a3) := (blk_cell Hq5 3).trans rfl; have xf3 := blk_frozen Hq5 3; have HQ2 := Aside0.mk Hq2; have HQ3 := Aside0.mk Hq3; clear Hq2 Hq3 Hq5)
    all_goals (
      go_wp2_with fail
      have hr2 := blk_far (blk_far (blk_far (blk_far (blk_put (blk_put (blk_put (blk_put HQ2.out 0 (.int .i64 a0) rfl) 1 (.int .i64 a1) rfl) 2 (.string a2) rfl) 3 (.int .i64 a3) rfl) (p := ⟨g3, 0, none⟩) n23 (.int .i64 b0)) (p := ⟨g3, 1, none⟩) n23 (.int .i64 b1)) (p := ⟨g3, 2, none⟩) n23 (.string b2)) (p := ⟨g3, 3, none⟩) n23 (.int .i64 b3)
      have hr3 := blk_put (blk_put (blk_put (blk_put (blk_far (blk_far (blk_far (blk_far HQ3.out (p := ⟨w.heap.size, 0, none⟩) n23.symm (.int .i64 a0)) (p := ⟨w.heap.size, 1, none⟩) n23.symm (.int .i64 a1)) (p := ⟨w.heap.size, 2, none⟩) n23.symm (.string a2)) (p := ⟨w.heap.size, 3, none⟩) n23.symm (.int .i64 a3)) 0 (.int .i64 b0) rfl) 1 (.int .i64 b1) rfl) 2 (.string b2) rfl) 3 (.int .i64 b3) rfl
      (try simp only [Exit.inBlock, Exit.then])
      refine bodyPost_ret (results_cc rfl _ _ w.heap.size g3 29 29 _ _ (0, 0) (0, 0) _ _ rfl hr2 hu29 rfl (by kernel_rfl) rfl hr3 hu29 rfl (by kernel_rfl)) rfl ?_
      exact ⟨rfl, below_set (below_set (below_set (below_set (below_set (below_set (below_set (below_set HB4.out (Nat.le_refl _)) (Nat.le_refl _)) (Nat.le_refl _)) (Nat.le_refl _)) HL.out.2) HL.out.2) HL.out.2) HL.out.2⟩)
end Go.Proofs.Ytkamfnmbidnhdaa.P
