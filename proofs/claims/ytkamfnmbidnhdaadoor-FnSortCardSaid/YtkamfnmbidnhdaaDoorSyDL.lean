/- spec's sort: what it answers. -/
import Derived.Test.YtkamfnmbidnhdaaDoorSyDK
set_option linter.unusedVariables false
set_option linter.unusedSimpArgs false
set_option linter.unusedSectionVars false
namespace Go.Proofs.YtkamfnmbidnhdaaDoor
open Go.Sy
set_option maxRecDepth 100000
set_option maxHeartbeats 16000000
set_option linter.unusedVariables false
set_option linter.unusedSimpArgs false
abbrev ZY := ((Nat × Hp) × (List Int × (List (Int × Int) × Bool))) × YS
def zL : Lm := [(2, ⟨none, [.v (ZV.val (.int .i64)), .v (ZV.val .sl), .v (ZV.val .sl)], 28⟩)]
theorem specSort (ts : List (List Int)) (A : Option Addr) (n c : Nat) (h : Hp) (hP : Mat h A n ts) :
    TriS Tryd.prog 17 [.v (.slice A n c)] [] h (fun y : YS => .ag (ssv (sCode ts) y.1.1 (sOrd ts).length y.1.2 y.2.1 (sAsk ts).length y.2.2)) (fun _ => [])
      (fun y h' => Ints h' y.1.1 (sOrd ts).length (sOrd ts) ∧ Asks h' y.2.1 (sAsk ts).length (sAsk ts) ∧ Le h h') := by
  obtain rfl := hP.len
  refine enterS Tryd.func17 rfl (n := 111) rfl rfl (fun k N => ?_)
  by_cases hsq : SqOk ts
  · have hl := hsq.1
    repeat' (first | (refine r_pure hT rfl rfl rfl rfl ?_) | (refine r_new hT rfl rfl rfl rfl ?_) | (refine r_write hT rfl rfl rfl ?_) | (refine r_nil ?_) | (refine q_nil ?_) | (refine p_call (l1square ts A ts.length c _ hP) rfl rfl rfl rfl rfl (hC _ rfl) rfl rfl rfl ?_) | (refine c_not rfl (fun hx => absurd hsq hx) (fun _ => ?_)) | (refine r_build hT rfl rfl rfl (ps := [(0, .tmp 18)]) rfl rfl rfl rfl rfl rfl ?_) | (refine r_arith rfl rfl rfl rfl rfl rfl rfl (by omega) ?_) | (with_reducible refine r_seq ?_) | (with_reducible refine x_then ?_) | (with_reducible refine r_region ?_) | (refine r_draw hM (by kernel_rfl) ?_) | (with_reducible refine r_skip ?_) | (with_reducible refine r_ret ?_) | (with_reducible refine x_then_ret ?_) | (with_reducible refine r_block ?_) | (with_reducible refine x_block ?_) | (with_reducible refine x_block_ret ?_) | (with_reducible refine r_exit ?_) | (with_reducible refine x_then_exit ?_) | (with_reducible refine x_block_here ?_) | (refine x_block_past rfl ?_) | (refine c_yes rfl (by omega) ?_) | (refine c_no rfl (by omega) ?_) | (refine c_no rfl (fun h => h rfl) ?_) | (refine r_cond_false rfl ?_) | (refine r_cond_true rfl ?_) | (refine r_cond_dec rfl (fun _ => ?_) (fun _ => ?_)) | (refine r_cond_true rfl ?_) | (refine r_cond_false rfl ?_) | (refine c_not rfl (fun _ => ?_) (fun _ => ?_)) | (refine r_off rfl rfl rfl ?_) | (refine q_guard rfl rfl (fun _ => ?_) (fun _ => ?_)) | (refine q_guardn rfl rfl (fun _ => ?_) (fun _ => ?_)))
    refine r_pub 20 (fun _ => lCells A ts.length c none 0 0 false) rfl rfl (fun _ => rfl) (fun pb hpb => ?_)
    repeat' (first | (refine r_pure hT rfl rfl rfl rfl ?_) | (refine r_new hT rfl rfl rfl rfl ?_) | (refine r_write hT rfl rfl rfl ?_) | (refine r_nil ?_) | (refine q_nil ?_) | (refine r_makeN hT rfl rfl rfl rfl rfl rfl rfl (by simp) rfl rfl (by dsimp only; omega) (by omega) (fun b0 hb0 => ?_)) | (refine r_arith rfl rfl rfl rfl rfl rfl rfl (by omega) ?_) | (with_reducible refine r_seq ?_) | (with_reducible refine x_then ?_) | (with_reducible refine r_region ?_) | (refine r_draw hM (by kernel_rfl) ?_) | (with_reducible refine r_skip ?_) | (with_reducible refine r_ret ?_) | (with_reducible refine x_then_ret ?_) | (with_reducible refine r_block ?_) | (with_reducible refine x_block ?_) | (with_reducible refine x_block_ret ?_) | (with_reducible refine r_exit ?_) | (with_reducible refine x_then_exit ?_) | (with_reducible refine x_block_here ?_) | (refine x_block_past rfl ?_) | (refine c_yes rfl (by omega) ?_) | (refine c_no rfl (by omega) ?_) | (refine c_no rfl (fun h => h rfl) ?_) | (refine r_cond_false rfl ?_) | (refine r_cond_true rfl ?_) | (refine r_cond_dec rfl (fun _ => ?_) (fun _ => ?_)) | (refine r_cond_true rfl ?_) | (refine r_cond_false rfl ?_) | (refine c_not rfl (fun _ => ?_) (fun _ => ?_)) | (refine r_off rfl rfl rfl ?_) | (refine q_guard rfl rfl (fun _ => ?_) (fun _ => ?_)) | (refine q_guardn rfl rfl (fun _ => ?_) (fun _ => ?_)))
    change upd h pb (.cells (lCells A ts.length c none 0 0 false).toArray 80 (0, 0)) b0 = none at hb0
    have n0 := up_none hb0
    have hOm : Own (upd (upd h pb (.cells (lCells A ts.length c none 0 0 false).toArray 80 (0, 0))) b0 (.cells (reps ts.length [Value.int .i64 0]).toArray 3 (0, 0))) (some ⟨b0, 0, none⟩) ts.length ts.length 3 1 (reps ts.length [Value.int .i64 0]) := own_made rfl
    refine r_loop (γ := Nat × Hp) (fun g => g.1 ≤ ts.length ∧ Le (upd h pb (.cells (lCells A ts.length c none 0 0 false).toArray 80 (0, 0))) g.2 ∧ Own g.2 (some ⟨b0, 0, none⟩) ts.length ts.length 3 1 (((upTo ts.length).take g.1).flatMap Ic ++ reps (ts.length - g.1) [Value.int .i64 0]))
      (fun g => [(2, .p 2 0), (3, .v (ptr pb)), (4, .v (.int .i64 ts.length)), (5, .v (.slice (some ⟨b0, 0, none⟩) ts.length ts.length)), (25, .v (.slice (some ⟨b0, 0, none⟩) ts.length ts.length)), (26, .v (.int .i64 ts.length)), (27, .v (.int .i64 g.1))])
      (fun _ => zL) (fun g => g.2) (fun g => ts.length - g.1)
      (0, upd (upd h pb (.cells (lCells A ts.length c none 0 0 false).toArray 80 (0, 0))) b0 (.cells (reps ts.length [Value.int .i64 0]).toArray 3 (0, 0))) ⟨Nat.zero_le _, (Le.refl _).upd hb0, by simp only [List.take_zero, List.flatMap_nil, List.nil_append, Nat.sub_zero]; exact hOm⟩
      (into rfl ⟨rfl, rfl, rfl, rfl, rfl, rfl, rfl, trivial⟩ ⟨rfl, trivial⟩ rfl rfl) ?_
    rintro ⟨i, v⟩ ⟨hi, hle, hO⟩
    dsimp only at *
    by_cases hlt : i < ts.length
    · repeat' (first | (refine r_pure hT rfl rfl rfl rfl ?_) | (refine r_new hT rfl rfl rfl rfl ?_) | (refine r_write hT rfl rfl rfl ?_) | (refine r_nil ?_) | (refine q_nil ?_) | (refine r_indexN hT rfl rfl rfl rfl rfl rfl rfl rfl rfl (by omega) ?_) | (refine r_store_own (o := i * 1) hT hO rfl rfl rfl rfl rfl rfl rfl rfl rfl rfl rfl (by rw [hO.len]; show i * 1 + 1 ≤ ts.length * 1; omega) (fun u' hO' hu' => ?_)) | (refine r_arith rfl rfl rfl rfl rfl rfl rfl (by omega) ?_) | (with_reducible refine r_seq ?_) | (with_reducible refine x_then ?_) | (with_reducible refine r_region ?_) | (refine r_draw hM (by kernel_rfl) ?_) | (with_reducible refine r_skip ?_) | (with_reducible refine r_ret ?_) | (with_reducible refine x_then_ret ?_) | (with_reducible refine r_block ?_) | (with_reducible refine x_block ?_) | (with_reducible refine x_block_ret ?_) | (with_reducible refine r_exit ?_) | (with_reducible refine x_then_exit ?_) | (with_reducible refine x_block_here ?_) | (refine x_block_past rfl ?_) | (refine c_yes rfl (by omega) ?_) | (refine c_no rfl (by omega) ?_) | (refine c_no rfl (fun h => h rfl) ?_) | (refine r_cond_false rfl ?_) | (refine r_cond_true rfl ?_) | (refine r_cond_dec rfl (fun _ => ?_) (fun _ => ?_)) | (refine r_cond_true rfl ?_) | (refine r_cond_false rfl ?_) | (refine c_not rfl (fun _ => ?_) (fun _ => ?_)) | (refine r_off rfl rfl rfl ?_) | (refine q_guard rfl rfl (fun _ => ?_) (fun _ => ?_)) | (refine q_guardn rfl rfl (fun _ => ?_) (fun _ => ?_)))
      rw [show [Value.int .i64 (i : Int)] = Ic (i : Int) from rfl, set_next Ic_len rfl (upTo_get hlt) (upTo_len _).symm] at hO'
      exact x_round (i + 1, u') ⟨hlt, fun x o hx => by show u' x = some o; rw [hu' x (fun e => by subst e; rw [hb0] at hx; cases hx)]; exact hle x o hx, hO'⟩ (by simp; omega) (into rfl ⟨rfl, rfl, rfl, rfl, rfl, rfl, rfl, trivial⟩ ⟨rfl, trivial⟩ rfl rfl)
    obtain rfl : i = ts.length := by omega
    rw [List.take_of_length_le (by rw [upTo_len]; exact Nat.le_refl _), Nat.sub_self] at hO
    simp only [reps, List.append_nil] at hO
    have hlh : Le h v := fun x o hx => hle x o (by rw [upd_ne (fun e => by subst e; rw [hpb] at hx; cases hx)]; exact hx)
    have hL0 : LSt h v pb A c ts none 0 [] false := ⟨hle _ _ (upd_here ..), own_nil, hlh, hpb, off_nil, by simp [blk], hP⟩
    have hN0 : NLt h v pb A c ts none 0 [] false (some ⟨b0, 0, none⟩) ts.length (upTo ts.length) := ⟨hL0, by rw [upTo_len]; exact hO, fun b hb => by have e := Option.some.inj hb; subst e; exact n0.2, fun b hb hq => by
      have e := Option.some.inj hb; subst e
      rcases hq with hq | hq
      · exact n0.1 hq
      · cases hq⟩
    have hcd : sCode ts = (if (srt ts).2.isSome then 0 else 2) := if_pos hsq
    have hod : sOrd ts = (srt ts).2.getD [] := if_pos hsq
    have had : sAsk ts = (srt ts).1 := if_pos hsq
    have hRs : ps (Mof ts) ts.length 1 (upTo ts.length) [] = srt ts := rfl
    rw [hcd, hod, had]
    generalize srt ts = R at *
    clear hcd hod had hOm hO hL0 hb0 n0 hle hlh hlt
    repeat' (first | (refine r_pure hT rfl rfl rfl rfl ?_) | (refine r_new hT rfl rfl rfl rfl ?_) | (refine r_write hT rfl rfl rfl ?_) | (refine r_nil ?_) | (refine q_nil ?_) | (refine r_cutB (id := 2) (γ := ZY) (fun g => NLt h g.1.1.2 pb A c ts g.2.2.1 g.2.2.2 g.1.2.2.1 g.1.2.2.2 g.2.1.1 g.2.1.2 g.1.2.1 ∧ ((g.1.2.2.2 = false ∧ R = (g.1.2.2.1, some g.1.2.1)) ∨ (g.1.2.2.2 = true ∧ R = (g.1.2.2.1, none)))) (fun g => [(2, .p 2 0), (3, .v (ptr pb)), (5, .v (.slice g.2.1.1 g.1.2.1.length g.2.1.2))]) (fun _ => zL) (fun g => g.1.1.2) ?_ ?_) | (refine r_arith rfl rfl rfl rfl rfl rfl rfl (by omega) ?_) | (with_reducible refine r_seq ?_) | (with_reducible refine x_then ?_) | (with_reducible refine r_region ?_) | (refine r_draw hM (by kernel_rfl) ?_) | (with_reducible refine r_skip ?_) | (with_reducible refine r_ret ?_) | (with_reducible refine x_then_ret ?_) | (with_reducible refine r_block ?_) | (with_reducible refine x_block ?_) | (with_reducible refine x_block_ret ?_) | (with_reducible refine r_exit ?_) | (with_reducible refine x_then_exit ?_) | (with_reducible refine x_block_here ?_) | (refine x_block_past rfl ?_) | (refine c_yes rfl (by omega) ?_) | (refine c_no rfl (by omega) ?_) | (refine c_no rfl (fun h => h rfl) ?_) | (refine r_cond_false rfl ?_) | (refine r_cond_true rfl ?_) | (refine r_cond_dec rfl (fun _ => ?_) (fun _ => ?_)) | (refine r_cond_true rfl ?_) | (refine r_cond_false rfl ?_) | (refine c_not rfl (fun _ => ?_) (fun _ => ?_)) | (refine r_off rfl rfl rfl ?_) | (refine q_guard rfl rfl (fun _ => ?_) (fun _ => ?_)) | (refine q_guardn rfl rfl (fun _ => ?_) (fun _ => ?_)))
    · refine r_loop (γ := ZY) (fun g => 0 < g.1.1.1 ∧ g.1.1.1 ≤ 400 ∧ NLt h g.1.1.2 pb A c ts g.2.2.1 g.2.2.2 g.1.2.2.1 g.1.2.2.2 g.2.1.1 g.2.1.2 g.1.2.1 ∧
          ((g.1.2.2.2 = false ∧ g.1.2.1.length = ts.length ∧ Inn ts.length g.1.2.1 ∧ ps (Mof ts) ts.length g.1.1.1 g.1.2.1 g.1.2.2.1 = R) ∨ (g.1.2.2.2 = true ∧ R = (g.1.2.2.1, none))) ∧ g.1.2.2.1.length ≤ 1000 * g.1.1.1)
        (fun g => [(2, .p 2 0), (3, .v (ptr pb)), (4, .v (.int .i64 ts.length)), (5, .v (.slice g.2.1.1 g.1.2.1.length g.2.1.2)), (7, .v (.int .i64 g.1.1.1))]) (fun _ => zL) (fun g => g.1.1.2) (fun g => ts.length - g.1.1.1)
        (((1, v), (upTo ts.length, ([], false))), ((some ⟨b0, 0, none⟩, ts.length), (none, 0))) ⟨Nat.le_refl 1, by dsimp only; omega, hN0, .inl ⟨rfl, upTo_len _, upTo_inn _, hRs⟩, by simp⟩
        (into rfl ⟨rfl, rfl, rfl, congrArg (fun z => some (SV.v (.slice (some ⟨b0, 0, none⟩) z ts.length))) (upTo_len _).symm, rfl, trivial⟩ ⟨rfl, trivial⟩ rfl rfl) ?_
      clear hN0 hRs
      rintro ⟨⟨⟨s, u⟩, ⟨l, ⟨q, fl⟩⟩⟩, ⟨⟨Ao, co⟩, ⟨Aq, cq⟩⟩⟩ ⟨hs0, hs4, hN, hcase, hql⟩
      dsimp only at *
      have hatW := hN.qs.at_
      by_cases hlt : s < ts.length
      · cases fl with
        | true =>
          have hR : R = (q, none) := by
            rcases hcase with ⟨h, _⟩ | ⟨_, h⟩
            · cases h
            · exact h
          repeat' (first | (refine r_pure hT rfl rfl rfl rfl ?_) | (refine r_new hT rfl rfl rfl rfl ?_) | (refine r_write hT rfl rfl rfl ?_) | (refine r_nil ?_) | (refine q_nil ?_) | (refine q_gyes rfl rfl (by omega) ?_) | (refine r_load hT hatW rfl rfl rfl rfl rfl rfl rfl rfl rfl rfl rfl ?_) | (refine r_arith rfl rfl rfl rfl rfl rfl rfl (by omega) ?_) | (with_reducible refine r_seq ?_) | (with_reducible refine x_then ?_) | (with_reducible refine r_region ?_) | (refine r_draw hM (by kernel_rfl) ?_) | (with_reducible refine r_skip ?_) | (with_reducible refine r_ret ?_) | (with_reducible refine x_then_ret ?_) | (with_reducible refine r_block ?_) | (with_reducible refine x_block ?_) | (with_reducible refine x_block_ret ?_) | (with_reducible refine r_exit ?_) | (with_reducible refine x_then_exit ?_) | (with_reducible refine x_block_here ?_) | (refine x_block_past rfl ?_) | (refine c_yes rfl (by omega) ?_) | (refine c_no rfl (by omega) ?_) | (refine c_no rfl (fun h => h rfl) ?_) | (refine r_cond_false rfl ?_) | (refine r_cond_true rfl ?_) | (refine r_cond_dec rfl (fun _ => ?_) (fun _ => ?_)) | (refine r_cond_true rfl ?_) | (refine r_cond_false rfl ?_) | (refine c_not rfl (fun _ => ?_) (fun _ => ?_)) | (refine r_off rfl rfl rfl ?_) | (refine q_guard rfl rfl (fun _ => ?_) (fun _ => ?_)) | (refine q_guardn rfl rfl (fun _ => ?_) (fun _ => ?_)))
          exact x_cut (γ := ZY) (((s, u), (l, (q, true))), ((Ao, co), (Aq, cq))) ⟨hN, .inr ⟨rfl, hR⟩⟩ (into rfl ⟨rfl, rfl, rfl, trivial⟩ ⟨rfl, trivial⟩ rfl rfl)
        | false =>
          have hcase : l.length = ts.length ∧ Inn ts.length l ∧ ps (Mof ts) ts.length s l q = R := by
            rcases hcase with ⟨_, h⟩ | ⟨h, _⟩
            · exact h
            · cases h
          obtain ⟨hln, hlr, hps⟩ := hcase
          obtain ⟨hb1, hb2⟩ := withA_le hN.qs.base hN.an
          have hQB : LSt (withA h u Ao) u pb A c ts Aq cq q false := hN.qs.up hb1 hb2 (fun b hb => by unfold withA; rw [if_neg (fun e => hN.ap b e hb)]; exact hN.qs.off b hb)
          have hOB : Ints (withA h u Ao) Ao l.length l := ⟨rfl, (own_withA hN.nl).sl⟩
          have hcap := hN.nl.cap
          rw [ps, dif_pos ⟨hs0, hlt⟩] at hps
          generalize withA h u Ao = hB at *
          repeat' (first | (refine r_pure hT rfl rfl rfl rfl ?_) | (refine r_new hT rfl rfl rfl rfl ?_) | (refine r_write hT rfl rfl rfl ?_) | (refine r_nil ?_) | (refine q_nil ?_) | (refine q_gyes rfl rfl (by omega) ?_) | (refine r_load hT hatW rfl rfl rfl rfl rfl rfl rfl rfl rfl rfl rfl ?_) | (refine r_cutB (id := 4) (γ := ZY) (fun g => NLt hB g.1.1.2 pb A c ts g.2.2.1 g.2.2.2 g.1.2.2.1 g.1.2.2.2 g.2.1.1 g.2.1.2 g.1.2.1 ∧ ((g.1.2.2.2 = false ∧ rd (Mof ts) s l [] 0 q = (g.1.2.2.1, some g.1.2.1) ∧ g.1.2.1.length = l.length ∧ Inn ts.length g.1.2.1) ∨ (g.1.2.2.2 = true ∧ rd (Mof ts) s l [] 0 q = (g.1.2.2.1, none))) ∧ g.1.2.2.1.length ≤ 1000 * s + 1000) (fun g => [(2, .p 2 0), (3, .v (ptr pb)), (4, .v (.int .i64 ts.length)), (7, .v (.int .i64 s)), (8, .v (.slice g.2.1.1 g.1.2.1.length g.2.1.2))]) (fun _ => zL) (fun g => g.1.1.2) ?_ ?_) | (refine r_arith rfl rfl rfl rfl rfl rfl rfl (by omega) ?_) | (with_reducible refine r_seq ?_) | (with_reducible refine x_then ?_) | (with_reducible refine r_region ?_) | (refine r_draw hM (by kernel_rfl) ?_) | (with_reducible refine r_skip ?_) | (with_reducible refine r_ret ?_) | (with_reducible refine x_then_ret ?_) | (with_reducible refine r_block ?_) | (with_reducible refine x_block ?_) | (with_reducible refine x_block_ret ?_) | (with_reducible refine r_exit ?_) | (with_reducible refine x_then_exit ?_) | (with_reducible refine x_block_here ?_) | (refine x_block_past rfl ?_) | (refine c_yes rfl (by omega) ?_) | (refine c_no rfl (by omega) ?_) | (refine c_no rfl (fun h => h rfl) ?_) | (refine r_cond_false rfl ?_) | (refine r_cond_true rfl ?_) | (refine r_cond_dec rfl (fun _ => ?_) (fun _ => ?_)) | (refine r_cond_true rfl ?_) | (refine r_cond_false rfl ?_) | (refine c_not rfl (fun _ => ?_) (fun _ => ?_)) | (refine r_off rfl rfl rfl ?_) | (refine q_guard rfl rfl (fun _ => ?_) (fun _ => ?_)) | (refine q_guardn rfl rfl (fun _ => ?_) (fun _ => ?_)))
          · refine r_loop (γ := ZY) (fun g => g.1.1.1 ≤ 1000 ∧ NLt hB g.1.1.2 pb A c ts g.2.2.1 g.2.2.2 g.1.2.2.1 g.1.2.2.2 g.2.1.1 g.2.1.2 g.1.2.1 ∧
                ((g.1.2.2.2 = false ∧ Inn ts.length g.1.2.1 ∧ rd (Mof ts) s l g.1.2.1 g.1.1.1 g.1.2.2.1 = rd (Mof ts) s l [] 0 q) ∨ (g.1.2.2.2 = true ∧ rd (Mof ts) s l [] 0 q = (g.1.2.2.1, none))) ∧ g.1.2.1.length = min g.1.1.1 l.length ∧ g.1.2.2.1.length ≤ 1000 * s + g.1.2.1.length)
              (fun g => [(2, .p 2 0), (3, .v (ptr pb)), (4, .v (.int .i64 ts.length)), (5, .v (.slice Ao l.length co)), (7, .v (.int .i64 s)), (8, .v (.slice g.2.1.1 g.1.2.1.length g.2.1.2)), (9, .v (.int .i64 g.1.1.1))]) (fun _ => zL) (fun g => g.1.1.2) (fun g => l.length - g.1.1.1)
              (((0, u), ([], (q, false))), ((none, 0), (Aq, cq))) ⟨Nat.zero_le _, ⟨hQB, own_nil, off_nil, fun b hb => (by cases hb)⟩, .inl ⟨rfl, fun x hx => (by cases hx), rfl⟩, by simp, by simpa using hql⟩
              (into rfl ⟨rfl, rfl, rfl, rfl, rfl, rfl, rfl, trivial⟩ ⟨rfl, trivial⟩ rfl rfl) ?_
            clear hQB
            rintro ⟨⟨⟨i, u2⟩, ⟨nx, ⟨q2, fl2⟩⟩⟩, ⟨⟨An, cn⟩, ⟨Aq2, cq2⟩⟩⟩ ⟨hi1, hN2, hcase, hnl, hq2⟩
            dsimp only at *
            have hatW2 := hN2.qs.at_
            by_cases hi : i < l.length
            · cases fl2 with
              | true =>
                have hR : rd (Mof ts) s l [] 0 q = (q2, none) := by
                  rcases hcase with ⟨h, _⟩ | ⟨_, h⟩
                  · cases h
                  · exact h
                repeat' (first | (refine r_pure hT rfl rfl rfl rfl ?_) | (refine r_new hT rfl rfl rfl rfl ?_) | (refine r_write hT rfl rfl rfl ?_) | (refine r_nil ?_) | (refine q_nil ?_) | (refine q_gyes rfl rfl (by omega) ?_) | (refine r_load hT hatW2 rfl rfl rfl rfl rfl rfl rfl rfl rfl rfl rfl ?_) | (refine r_arith rfl rfl rfl rfl rfl rfl rfl (by omega) ?_) | (with_reducible refine r_seq ?_) | (with_reducible refine x_then ?_) | (with_reducible refine r_region ?_) | (refine r_draw hM (by kernel_rfl) ?_) | (with_reducible refine r_skip ?_) | (with_reducible refine r_ret ?_) | (with_reducible refine x_then_ret ?_) | (with_reducible refine r_block ?_) | (with_reducible refine x_block ?_) | (with_reducible refine x_block_ret ?_) | (with_reducible refine r_exit ?_) | (with_reducible refine x_then_exit ?_) | (with_reducible refine x_block_here ?_) | (refine x_block_past rfl ?_) | (refine c_yes rfl (by omega) ?_) | (refine c_no rfl (by omega) ?_) | (refine c_no rfl (fun h => h rfl) ?_) | (refine r_cond_false rfl ?_) | (refine r_cond_true rfl ?_) | (refine r_cond_dec rfl (fun _ => ?_) (fun _ => ?_)) | (refine r_cond_true rfl ?_) | (refine r_cond_false rfl ?_) | (refine c_not rfl (fun _ => ?_) (fun _ => ?_)) | (refine r_off rfl rfl rfl ?_) | (refine q_guard rfl rfl (fun _ => ?_) (fun _ => ?_)) | (refine q_guardn rfl rfl (fun _ => ?_) (fun _ => ?_)))
                exact x_cut (γ := ZY) (((i, u2), (nx, (q2, true))), ((An, cn), (Aq2, cq2))) ⟨hN2, .inr ⟨rfl, hR⟩, by dsimp only; omega⟩ (into rfl ⟨rfl, rfl, rfl, rfl, rfl, trivial⟩ ⟨rfl, trivial⟩ rfl rfl)
              | false =>
                have hcase : Inn ts.length nx ∧ rd (Mof ts) s l nx i q2 = rd (Mof ts) s l [] 0 q := by
                  rcases hcase with ⟨_, h⟩ | ⟨h, _⟩
                  · exact h
                  · cases h
                obtain ⟨hnr, hrd⟩ := hcase
                obtain ⟨hb3, hb4⟩ := withA_le hN2.qs.base hN2.an
                have hQC : LSt (withA hB u2 An) u2 pb A c ts Aq2 cq2 q2 false := hN2.qs.up hb3 hb4 (fun b hb => by unfold withA; rw [if_neg (fun e => hN2.ap b e hb)]; exact hN2.qs.off b hb)
                have hOC : Ints (withA hB u2 An) Ao l.length l := hOB.le hb3
                have hAnC : ∀ b, blk An = some b → (withA hB u2 An) b ≠ none := fun b hb => by unfold withA; rw [if_pos hb]; exact hN2.nl.live hb
                generalize withA hB u2 An = hD at *
                rw [rd, dif_pos ⟨hs0, hi⟩] at hrd
                have hw1 : i ≤ min (i + s) ts.length ∧ min (i + s) ts.length ≤ ts.length ∧ min (i + s) ts.length ≤ min (min (i + s) ts.length + s) ts.length ∧ min (min (i + s) ts.length + s) ts.length ≤ ts.length ∧ min (min (i + s) ts.length + s) ts.length = min (i + 2 * s) ts.length := by omega
                have hxl : (sl l i (min (i + s) ts.length)).length = min (i + s) ts.length - i := sl_len _ _ _ (by omega)
                have hyl : (sl l (min (i + s) ts.length) (min (min (i + s) ts.length + s) ts.length)).length = min (min (i + s) ts.length + s) ts.length - min (i + s) ts.length := sl_len _ _ _ (by omega)
                have hxI := hOC.sub Ic_len (l := i) (h := min (i + s) ts.length) (by omega) (by omega) hcap
                have hyI := hOC.sub Ic_len (l := min (i + s) ts.length) (h := min (min (i + s) ts.length + s) ts.length) (by omega) (by omega) hcap
                have hmrg := mergeL hD pb A c ts hsq (sl l i (min (i + s) ts.length)) (sl l (min (i + s) ts.length) (min (min (i + s) ts.length + s) ts.length)) (subA Ao co i 1) (subA Ao co (min (i + s) ts.length) 1) (co - i) (co - min (i + s) ts.length) (by rw [hxl]; exact hxI) (by rw [hyl]; exact hyI)
                  (fun x hx => hlr x (sl_mem hx)) (fun x hx => hlr x (sl_mem hx)) (by rw [hxl, hyl]; omega) u2 Aq2 cq2 q2 hQC (by omega) _ rfl
                rw [hxl, hyl] at hmrg
                rw [hln, show nx = nx ++ [] from (List.append_nil nx).symm, mg_out] at hrd
                generalize hMGe : mg (Mof ts) [] (sl l i (min (i + s) ts.length)) (sl l (min (i + s) ts.length) (min (min (i + s) ts.length + s) ts.length)) q2 = MG at *
                generalize hm1 : min (i + s) ts.length = m1 at *
                generalize hm2 : min (m1 + s) ts.length = m2 at *
                repeat' (first | (refine r_pure hT rfl rfl rfl rfl ?_) | (refine r_new hT rfl rfl rfl rfl ?_) | (refine r_write hT rfl rfl rfl ?_) | (refine r_nil ?_) | (refine q_nil ?_) | (refine q_gyes rfl rfl (by omega) ?_) | (refine r_load hT hatW2 rfl rfl rfl rfl rfl rfl rfl rfl rfl rfl rfl ?_) | (refine r_addN rfl rfl rfl rfl rfl rfl (by omega) ?_) | (refine r_cutC (c := .tmp 69) (γ := Unit) (p := ((ts.length : Nat) : Int) < ((i + s : Nat) : Int)) rfl (fun _ => True) (fun _ => [(2, .p 2 0), (3, .v (ptr pb)), (4, .v (.int .i64 ts.length)), (5, .v (.slice Ao l.length co)), (7, .v (.int .i64 s)), (8, .v (.slice An nx.length cn)), (9, .v (.int .i64 i)), (10, .v (.int .i64 (m1 : Nat))), (11, .v (.int .i64 (i + s + s : Nat)))]) (fun _ => zL) (fun _ => u2) (fun hp => ?_) (fun hp => ?_) (fun _ _ => ?_)) | (refine r_cutC (c := .tmp 73) (γ := Unit) (p := ((ts.length : Nat) : Int) < ((i + s + s : Nat) : Int)) rfl (fun _ => True) (fun _ => [(2, .p 2 0), (3, .v (ptr pb)), (4, .v (.int .i64 ts.length)), (5, .v (.slice Ao l.length co)), (7, .v (.int .i64 s)), (8, .v (.slice An nx.length cn)), (9, .v (.int .i64 i)), (10, .v (.int .i64 (m1 : Nat))), (11, .v (.int .i64 (m2 : Nat)))]) (fun _ => zL) (fun _ => u2) (fun hp => ?_) (fun hp => ?_) (fun _ _ => ?_)) | (exact x_cut () trivial (into rfl ⟨rfl, rfl, rfl, rfl, rfl, rfl, rfl, congrArg (fun z : Nat => some (SV.v (.int .i64 (z : Int)))) (by omega), rfl, trivial⟩ ⟨rfl, trivial⟩ rfl rfl)) | (exact x_cut () trivial (into rfl ⟨rfl, rfl, rfl, rfl, rfl, rfl, rfl, rfl, congrArg (fun z : Nat => some (SV.v (.int .i64 (z : Int)))) (by omega), trivial⟩ ⟨rfl, trivial⟩ rfl rfl)) | (refine r_many (id := 24) [0, 1, 2, 3, 4, 5, 6, 7, 8, 11] [] hD hb4 hM (by kernel_rfl) rfl (by kernel_rfl) rfl rfl rfl (fun β0 => ?_)) | (refine r_slice2 hT rfl rfl rfl rfl rfl rfl rfl rfl rfl rfl (by omega) (by omega) ?_) | (refine r_call hmrg rfl rfl rfl rfl rfl (hC _ rfl) rfl rfl (fun y u6 hy => ?_)) | (refine m_keep hy.1.qs.base ⟨rfl, trivial⟩ rfl rfl ?_) | (refine r_arith rfl rfl rfl rfl rfl rfl rfl (by omega) ?_) | (with_reducible refine r_seq ?_) | (with_reducible refine x_then ?_) | (with_reducible refine r_region ?_) | (refine r_draw hM (by kernel_rfl) ?_) | (with_reducible refine r_skip ?_) | (with_reducible refine r_ret ?_) | (with_reducible refine x_then_ret ?_) | (with_reducible refine r_block ?_) | (with_reducible refine x_block ?_) | (with_reducible refine x_block_ret ?_) | (with_reducible refine r_exit ?_) | (with_reducible refine x_then_exit ?_) | (with_reducible refine x_block_here ?_) | (refine x_block_past rfl ?_) | (refine c_yes rfl (by omega) ?_) | (refine c_no rfl (by omega) ?_) | (refine c_no rfl (fun h => h rfl) ?_) | (refine r_cond_false rfl ?_) | (refine r_cond_true rfl ?_) | (refine r_cond_dec rfl (fun _ => ?_) (fun _ => ?_)) | (refine r_cond_true rfl ?_) | (refine r_cond_false rfl ?_) | (refine c_not rfl (fun _ => ?_) (fun _ => ?_)) | (refine r_off rfl rfl rfl ?_) | (refine q_guard rfl rfl (fun _ => ?_) (fun _ => ?_)) | (refine q_guardn rfl rfl (fun _ => ?_) (fun _ => ?_)) | (refine s_nil ?_) | (with_reducible refine a_full ?_) | (refine m_step rfl rfl (List.cons_ne_nil _ _) ?_) | (refine allR_cons rfl ?_ ?_) | (exact allR_nil) | (refine m_end rfl rfl rfl ?_))
                obtain ⟨⟨Am, cm⟩, ⟨ml, ⟨⟨Aq1, cq1⟩, ⟨q1, fl1⟩⟩⟩⟩ := y
                dsimp only at hy ⊢
                obtain ⟨hN3, hMGc, hmll, hq1⟩ := hy
                clear hmrg hxI hyI
                have hAmB : Off hB Am := fun b hb => none_le hb3 (hN3.an b hb)
                have hBu : Le hB u6 := hb3.trans hN3.qs.base
                obtain ⟨he1, he2⟩ := withA_le hBu hAmB
                have hIm : Ints (withA hB u6 Am) Am ml.length ml := ⟨rfl, (own_withA hN3.nl).sl⟩
                have hQR : LSt (withA hB u6 Am) u6 pb A c ts Aq1 cq1 q1 fl1 := (hN3.qs.down hb3 (hN2.qs.mat)).up he1 he2 (fun b hb => by unfold withA; rw [if_neg (fun e => hN3.ap b e hb)]; exact none_le hb3 (hN3.qs.off b hb))
                have hNR : NLt (withA hB u6 Am) u6 pb A c ts Aq1 cq1 q1 fl1 An cn nx := ⟨hQR, hN2.nl.le (fun b o hb ho => by
                    obtain ⟨o2, ho2⟩ := Option.ne_none_iff_exists'.1 (hAnC b hb)
                    have e := hb4 _ _ ho2
                    rw [ho] at e
                    rw [← Option.some.inj e] at ho2
                    exact hN3.qs.base _ _ ho2), fun b hb => by
                    unfold withA; rw [if_neg (fun e => hAnC b hb (hN3.an b e))]; exact hN2.an b hb, fun b hb hq => hAnC b hb (hN3.qs.off b hq)⟩
                have hRB : Le hB (withA hB u6 Am) := he1
                have hmB := hN2.qs.mat
                generalize withA hB u6 Am = hR at *
                refine r_loop (γ := (Nat × Hp) × ((Option Addr × Nat) × List Int)) (fun g => g.1.1 ≤ ml.length ∧ NLt hR g.1.2 pb A c ts Aq1 cq1 q1 fl1 g.2.1.1 g.2.1.2 g.2.2 ∧ g.2.2 ++ ml.drop g.1.1 = nx ++ ml)
                  (fun g => [(2, .p 2 0), (3, .v (ptr pb)), (4, .v (.int .i64 ts.length)), (5, .v (.slice Ao l.length co)), (7, .v (.int .i64 s)), (8, .v (.slice g.2.1.1 g.2.2.length g.2.1.2)), (9, .v (.int .i64 i)), (84, .v (.slice Am ml.length cm)), (85, .v (.int .i64 ml.length)), (86, .v (.int .i64 g.1.1))]) (fun _ => zL) (fun g => g.1.2) (fun g => ml.length - g.1.1)
                  ((0, u6), ((An, cn), nx)) ⟨Nat.zero_le _, hNR, rfl⟩ (into rfl ⟨rfl, rfl, rfl, rfl, rfl, rfl, rfl, rfl, rfl, rfl, trivial⟩ ⟨rfl, trivial⟩ rfl rfl) ?_
                clear hNR hQR
                rintro ⟨⟨j, v2⟩, ⟨⟨Ap, cp⟩, px⟩⟩ ⟨hj, hNP, hL2⟩
                dsimp only at *
                have hpx : px.length + (ml.length - j) = nx.length + ml.length := by have := congrArg List.length hL2; simpa using this
                by_cases hlt2 : j < ml.length
                · obtain ⟨bx, ox, x, rfl, hxh, hxm, hxa⟩ := ints_at hIm hlt2
                  repeat' (first | (refine r_pure hT rfl rfl rfl rfl ?_) | (refine r_new hT rfl rfl rfl rfl ?_) | (refine r_write hT rfl rfl rfl ?_) | (refine r_nil ?_) | (refine q_nil ?_) | (refine r_indexN hT rfl rfl rfl rfl rfl rfl rfl rfl rfl (by omega) ?_) | (refine r_load hT (hxa.le hNP.qs.base) rfl rfl rfl rfl rfl (Nat.add_zero _).symm rfl rfl rfl rfl rfl ?_) | (refine r_bslice hT (ps := [(0, .tmp 91)]) rfl rfl rfl rfl rfl rfl rfl (by simp) rfl rfl (by decide) (fun b2 hb2 => ?_)) | (refine r_append hT (cs := px.flatMap Ic) (news := Ic x) rfl rfl rfl rfl rfl rfl rfl rfl rfl rfl rfl (hNP.nl.le fun b o hb ho => by rw [upd_ne (fun e => by subst e; rw [hb2] at ho; cases ho)]; exact ho) (sl_all (upd_here ..) rfl) (by intro v hv; simp [Ic] at hv; subst hv; rfl) (by dsimp only; omega) (by omega) (fun A' c' u5 hO5 hG5 => ?_)) | (refine r_arith rfl rfl rfl rfl rfl rfl rfl (by omega) ?_) | (with_reducible refine r_seq ?_) | (with_reducible refine x_then ?_) | (with_reducible refine r_region ?_) | (refine r_draw hM (by kernel_rfl) ?_) | (with_reducible refine r_skip ?_) | (with_reducible refine r_ret ?_) | (with_reducible refine x_then_ret ?_) | (with_reducible refine r_block ?_) | (with_reducible refine x_block ?_) | (with_reducible refine x_block_ret ?_) | (with_reducible refine r_exit ?_) | (with_reducible refine x_then_exit ?_) | (with_reducible refine x_block_here ?_) | (refine x_block_past rfl ?_) | (refine c_yes rfl (by omega) ?_) | (refine c_no rfl (by omega) ?_) | (refine c_no rfl (fun h => h rfl) ?_) | (refine r_cond_false rfl ?_) | (refine r_cond_true rfl ?_) | (refine r_cond_dec rfl (fun _ => ?_) (fun _ => ?_)) | (refine r_cond_true rfl ?_) | (refine r_cond_false rfl ?_) | (refine c_not rfl (fun _ => ?_) (fun _ => ?_)) | (refine r_off rfl rfl rfl ?_) | (refine q_guard rfl rfl (fun _ => ?_) (fun _ => ?_)) | (refine q_guardn rfl rfl (fun _ => ?_) (fun _ => ?_)))
                  exact x_round ((j + 1, u5), ((A', c'), px ++ [x])) ⟨hlt2, (hNP.app ((Le.refl _).upd hb2) hG5 (by simpa using hO5) (by simp)).1, by rw [app_one hxh]; exact hL2⟩ (by simp; omega)
                    (into rfl ⟨rfl, rfl, rfl, rfl, rfl, congrArg (fun z => some (SV.v (.slice A' z c'))) (by simp), rfl, rfl, rfl, rfl, trivial⟩ ⟨rfl, trivial⟩ rfl rfl)
                · rw [List.drop_eq_nil_of_le (by omega), List.append_nil] at hL2
                  subst hL2
                  have hNB : NLt hB v2 pb A c ts Aq1 cq1 q1 fl1 Ap cp (nx ++ ml) := ⟨hNP.qs.down hRB hmB, hNP.nl, fun b hb => none_le hRB (hNP.an b hb), hNP.ap⟩
                  repeat' (first | (refine r_pure hT rfl rfl rfl rfl ?_) | (refine r_new hT rfl rfl rfl rfl ?_) | (refine r_write hT rfl rfl rfl ?_) | (refine r_nil ?_) | (refine q_nil ?_) | (refine r_arith rfl rfl rfl rfl rfl rfl rfl (by omega) ?_) | (with_reducible refine r_seq ?_) | (with_reducible refine x_then ?_) | (with_reducible refine r_region ?_) | (refine r_draw hM (by kernel_rfl) ?_) | (with_reducible refine r_skip ?_) | (with_reducible refine r_ret ?_) | (with_reducible refine x_then_ret ?_) | (with_reducible refine r_block ?_) | (with_reducible refine x_block ?_) | (with_reducible refine x_block_ret ?_) | (with_reducible refine r_exit ?_) | (with_reducible refine x_then_exit ?_) | (with_reducible refine x_block_here ?_) | (refine x_block_past rfl ?_) | (refine c_yes rfl (by omega) ?_) | (refine c_no rfl (by omega) ?_) | (refine c_no rfl (fun h => h rfl) ?_) | (refine r_cond_false rfl ?_) | (refine r_cond_true rfl ?_) | (refine r_cond_dec rfl (fun _ => ?_) (fun _ => ?_)) | (refine r_cond_true rfl ?_) | (refine r_cond_false rfl ?_) | (refine c_not rfl (fun _ => ?_) (fun _ => ?_)) | (refine r_off rfl rfl rfl ?_) | (refine q_guard rfl rfl (fun _ => ?_) (fun _ => ?_)) | (refine q_guardn rfl rfl (fun _ => ?_) (fun _ => ?_)))
                  exact x_round (γ := ZY) (((i + 2 * s, v2), (nx ++ ml, (q1, fl1))), ((Ap, cp), (Aq1, cq1))) ⟨by dsimp only; omega, hNB, (by
                    rcases hMGc with ⟨e1, e2⟩ | ⟨e1, e2⟩
                    · rw [e1] at hrd
                      refine .inl ⟨e2, fun x hx => ?_, hrd⟩
                      rcases List.mem_append.1 hx with hx | hx
                      · exact hnr x hx
                      · exact mg_mem (Mof ts) (fun x => 0 ≤ x ∧ x < ts.length) [] _ _ _ (hMGe.trans e1) (fun x hx => by cases hx) (fun x hx => hlr x (sl_mem hx)) (fun x hx => hlr x (sl_mem hx)) x hx
                    · rw [e1] at hrd
                      exact .inr ⟨e2, hrd.symm⟩), (by simp; omega), by simp; omega⟩ (by simp; omega)
                    (into rfl ⟨rfl, rfl, rfl, rfl, rfl, rfl, congrArg (fun z : Int => some (SV.v (.int .i64 z))) (by push_cast; omega), trivial⟩ ⟨rfl, trivial⟩ rfl rfl)
            · have hrd0 : rd (Mof ts) s l nx i q2 = (q2, some nx) := by rw [rd, dif_neg (fun e => hi e.2)]
              repeat' (first | (refine r_pure hT rfl rfl rfl rfl ?_) | (refine r_new hT rfl rfl rfl rfl ?_) | (refine r_write hT rfl rfl rfl ?_) | (refine r_nil ?_) | (refine q_nil ?_) | (refine q_gno rfl rfl (by omega) ?_) | (refine r_arith rfl rfl rfl rfl rfl rfl rfl (by omega) ?_) | (with_reducible refine r_seq ?_) | (with_reducible refine x_then ?_) | (with_reducible refine r_region ?_) | (refine r_draw hM (by kernel_rfl) ?_) | (with_reducible refine r_skip ?_) | (with_reducible refine r_ret ?_) | (with_reducible refine x_then_ret ?_) | (with_reducible refine r_block ?_) | (with_reducible refine x_block ?_) | (with_reducible refine x_block_ret ?_) | (with_reducible refine r_exit ?_) | (with_reducible refine x_then_exit ?_) | (with_reducible refine x_block_here ?_) | (refine x_block_past rfl ?_) | (refine c_yes rfl (by omega) ?_) | (refine c_no rfl (by omega) ?_) | (refine c_no rfl (fun h => h rfl) ?_) | (refine r_cond_false rfl ?_) | (refine r_cond_true rfl ?_) | (refine r_cond_dec rfl (fun _ => ?_) (fun _ => ?_)) | (refine r_cond_true rfl ?_) | (refine r_cond_false rfl ?_) | (refine c_not rfl (fun _ => ?_) (fun _ => ?_)) | (refine r_off rfl rfl rfl ?_) | (refine q_guard rfl rfl (fun _ => ?_) (fun _ => ?_)) | (refine q_guardn rfl rfl (fun _ => ?_) (fun _ => ?_)))
              exact x_cut (γ := ZY) (((i, u2), (nx, (q2, fl2))), ((An, cn), (Aq2, cq2))) ⟨hN2, (by
                rcases hcase with ⟨e1, e2, e3⟩ | ⟨e1, e2⟩
                · exact .inl ⟨e1, by rw [← e3, hrd0], by dsimp only; omega, e2⟩
                · exact .inr ⟨e1, e2⟩), by dsimp only; omega⟩ (into rfl ⟨rfl, rfl, rfl, rfl, rfl, trivial⟩ ⟨rfl, trivial⟩ rfl rfl)
          · rintro ⟨⟨⟨i, u2⟩, ⟨nx, ⟨q2, fl2⟩⟩⟩, ⟨⟨An, cn⟩, ⟨Aq2, cq2⟩⟩⟩ ⟨hN2, hcase, hq2⟩
            dsimp only at *
            have hNB : NLt h u2 pb A c ts Aq2 cq2 q2 fl2 An cn nx := ⟨hN2.qs.down hb1 hP, hN2.nl, fun b hb => none_le hb1 (hN2.an b hb), hN2.ap⟩
            repeat' (first | (refine r_pure hT rfl rfl rfl rfl ?_) | (refine r_new hT rfl rfl rfl rfl ?_) | (refine r_write hT rfl rfl rfl ?_) | (refine r_nil ?_) | (refine q_nil ?_) | (refine r_arith rfl rfl rfl rfl rfl rfl rfl (by omega) ?_) | (with_reducible refine r_seq ?_) | (with_reducible refine x_then ?_) | (with_reducible refine r_region ?_) | (refine r_draw hM (by kernel_rfl) ?_) | (with_reducible refine r_skip ?_) | (with_reducible refine r_ret ?_) | (with_reducible refine x_then_ret ?_) | (with_reducible refine r_block ?_) | (with_reducible refine x_block ?_) | (with_reducible refine x_block_ret ?_) | (with_reducible refine r_exit ?_) | (with_reducible refine x_then_exit ?_) | (with_reducible refine x_block_here ?_) | (refine x_block_past rfl ?_) | (refine c_yes rfl (by omega) ?_) | (refine c_no rfl (by omega) ?_) | (refine c_no rfl (fun h => h rfl) ?_) | (refine r_cond_false rfl ?_) | (refine r_cond_true rfl ?_) | (refine r_cond_dec rfl (fun _ => ?_) (fun _ => ?_)) | (refine r_cond_true rfl ?_) | (refine r_cond_false rfl ?_) | (refine c_not rfl (fun _ => ?_) (fun _ => ?_)) | (refine r_off rfl rfl rfl ?_) | (refine q_guard rfl rfl (fun _ => ?_) (fun _ => ?_)) | (refine q_guardn rfl rfl (fun _ => ?_) (fun _ => ?_)))
            exact x_round (γ := ZY) (((s * 2, u2), (nx, (q2, fl2))), ((An, cn), (Aq2, cq2))) ⟨by dsimp only; omega, by dsimp only; omega, hNB, (by
                rcases hcase with ⟨e1, e2, e3, e4⟩ | ⟨e1, e2⟩
                · rw [e2] at hps
                  exact .inl ⟨e1, by dsimp only; omega, e4, hps⟩
                · rw [e2] at hps
                  exact .inr ⟨e1, hps.symm⟩), by dsimp only; omega⟩ (by dsimp only; omega)
              (into rfl ⟨rfl, rfl, rfl, rfl, congrArg (fun z : Int => some (SV.v (.int .i64 z))) (by push_cast; omega), trivial⟩ ⟨rfl, trivial⟩ rfl rfl)
      · repeat' (first | (refine r_pure hT rfl rfl rfl rfl ?_) | (refine r_new hT rfl rfl rfl rfl ?_) | (refine r_write hT rfl rfl rfl ?_) | (refine r_nil ?_) | (refine q_nil ?_) | (refine q_gno rfl rfl (by omega) ?_) | (refine r_arith rfl rfl rfl rfl rfl rfl rfl (by omega) ?_) | (with_reducible refine r_seq ?_) | (with_reducible refine x_then ?_) | (with_reducible refine r_region ?_) | (refine r_draw hM (by kernel_rfl) ?_) | (with_reducible refine r_skip ?_) | (with_reducible refine r_ret ?_) | (with_reducible refine x_then_ret ?_) | (with_reducible refine r_block ?_) | (with_reducible refine x_block ?_) | (with_reducible refine x_block_ret ?_) | (with_reducible refine r_exit ?_) | (with_reducible refine x_then_exit ?_) | (with_reducible refine x_block_here ?_) | (refine x_block_past rfl ?_) | (refine c_yes rfl (by omega) ?_) | (refine c_no rfl (by omega) ?_) | (refine c_no rfl (fun h => h rfl) ?_) | (refine r_cond_false rfl ?_) | (refine r_cond_true rfl ?_) | (refine r_cond_dec rfl (fun _ => ?_) (fun _ => ?_)) | (refine r_cond_true rfl ?_) | (refine r_cond_false rfl ?_) | (refine c_not rfl (fun _ => ?_) (fun _ => ?_)) | (refine r_off rfl rfl rfl ?_) | (refine q_guard rfl rfl (fun _ => ?_) (fun _ => ?_)) | (refine q_guardn rfl rfl (fun _ => ?_) (fun _ => ?_)))
        exact x_cut (γ := ZY) (((s, u), (l, (q, fl))), ((Ao, co), (Aq, cq))) ⟨hN, (by
          rcases hcase with ⟨e1, e2, e3, e4⟩ | ⟨e1, e2⟩
          · rw [ps, dif_neg (fun e => hlt e.2)] at e4
            exact .inl ⟨e1, e4.symm⟩
          · exact .inr ⟨e1, e2⟩)⟩ (into rfl ⟨rfl, rfl, rfl, trivial⟩ ⟨rfl, trivial⟩ rfl rfl)
    · clear hN0 hRs
      rintro ⟨⟨⟨s, u⟩, ⟨l, ⟨q, fl⟩⟩⟩, ⟨⟨Ao, co⟩, ⟨Aq, cq⟩⟩⟩ ⟨hN, hcase⟩
      dsimp only at *
      have hatW := hN.qs.at_
      cases fl with
      | false =>
        have hR : R = (q, some l) := by
          rcases hcase with ⟨_, h⟩ | ⟨h, _⟩
          · exact h
          · cases h
        subst hR
        repeat' (first | (refine r_pure hT rfl rfl rfl rfl ?_) | (refine r_new hT rfl rfl rfl rfl ?_) | (refine r_write hT rfl rfl rfl ?_) | (refine r_nil ?_) | (refine q_nil ?_) | (refine r_load hT hatW rfl rfl rfl rfl rfl rfl rfl rfl rfl rfl rfl ?_) | (refine r_build hT rfl rfl rfl (ps := [(1, .tmp 105), (2, .tmp 109)]) rfl rfl rfl rfl rfl rfl ?_) | (refine r_arith rfl rfl rfl rfl rfl rfl rfl (by omega) ?_) | (with_reducible refine r_seq ?_) | (with_reducible refine x_then ?_) | (with_reducible refine r_region ?_) | (refine r_draw hM (by kernel_rfl) ?_) | (with_reducible refine r_skip ?_) | (with_reducible refine r_ret ?_) | (with_reducible refine x_then_ret ?_) | (with_reducible refine r_block ?_) | (with_reducible refine x_block ?_) | (with_reducible refine x_block_ret ?_) | (with_reducible refine r_exit ?_) | (with_reducible refine x_then_exit ?_) | (with_reducible refine x_block_here ?_) | (refine x_block_past rfl ?_) | (refine c_yes rfl (by omega) ?_) | (refine c_no rfl (by omega) ?_) | (refine c_no rfl (fun h => h rfl) ?_) | (refine r_cond_false rfl ?_) | (refine r_cond_true rfl ?_) | (refine r_cond_dec rfl (fun _ => ?_) (fun _ => ?_)) | (refine r_cond_true rfl ?_) | (refine r_cond_false rfl ?_) | (refine c_not rfl (fun _ => ?_) (fun _ => ?_)) | (refine r_off rfl rfl rfl ?_) | (refine q_guard rfl rfl (fun _ => ?_) (fun _ => ?_)) | (refine q_guardn rfl rfl (fun _ => ?_) (fun _ => ?_)))
        exact r_fin hT rfl (((Ao, co), (Aq, cq)) : YS) rfl rfl rfl trivial rfl ⟨⟨rfl, hN.nl.sl⟩, ⟨rfl, hN.qs.own.sl⟩, hN.qs.base⟩
      | true =>
        have hR : R = (q, none) := by
          rcases hcase with ⟨h, _⟩ | ⟨_, h⟩
          · cases h
          · exact h
        subst hR
        repeat' (first | (refine r_pure hT rfl rfl rfl rfl ?_) | (refine r_new hT rfl rfl rfl rfl ?_) | (refine r_write hT rfl rfl rfl ?_) | (refine r_nil ?_) | (refine q_nil ?_) | (refine r_load hT hatW rfl rfl rfl rfl rfl rfl rfl rfl rfl rfl rfl ?_) | (refine r_build hT rfl rfl rfl (ps := [(0, .const (.int .i64 2)), (2, .tmp 103)]) rfl rfl rfl rfl rfl rfl ?_) | (refine r_arith rfl rfl rfl rfl rfl rfl rfl (by omega) ?_) | (with_reducible refine r_seq ?_) | (with_reducible refine x_then ?_) | (with_reducible refine r_region ?_) | (refine r_draw hM (by kernel_rfl) ?_) | (with_reducible refine r_skip ?_) | (with_reducible refine r_ret ?_) | (with_reducible refine x_then_ret ?_) | (with_reducible refine r_block ?_) | (with_reducible refine x_block ?_) | (with_reducible refine x_block_ret ?_) | (with_reducible refine r_exit ?_) | (with_reducible refine x_then_exit ?_) | (with_reducible refine x_block_here ?_) | (refine x_block_past rfl ?_) | (refine c_yes rfl (by omega) ?_) | (refine c_no rfl (by omega) ?_) | (refine c_no rfl (fun h => h rfl) ?_) | (refine r_cond_false rfl ?_) | (refine r_cond_true rfl ?_) | (refine r_cond_dec rfl (fun _ => ?_) (fun _ => ?_)) | (refine r_cond_true rfl ?_) | (refine r_cond_false rfl ?_) | (refine c_not rfl (fun _ => ?_) (fun _ => ?_)) | (refine r_off rfl rfl rfl ?_) | (refine q_guard rfl rfl (fun _ => ?_) (fun _ => ?_)) | (refine q_guardn rfl rfl (fun _ => ?_) (fun _ => ?_)))
        exact r_fin hT rfl (((none, 0), (Aq, cq)) : YS) rfl rfl rfl trivial rfl ⟨⟨rfl, own_nil.sl (e := 0)⟩, ⟨rfl, hN.qs.own.sl⟩, hN.qs.base⟩
  · have hcd : sCode ts = 1 := if_neg hsq
    have hod : sOrd ts = [] := if_neg hsq
    have had : sAsk ts = [] := if_neg hsq
    rw [hcd, hod, had]
    repeat' (first | (refine r_pure hT rfl rfl rfl rfl ?_) | (refine r_new hT rfl rfl rfl rfl ?_) | (refine r_write hT rfl rfl rfl ?_) | (refine r_nil ?_) | (refine q_nil ?_) | (refine p_call (l1square ts A ts.length c _ hP) rfl rfl rfl rfl rfl (hC _ rfl) rfl rfl rfl ?_) | (refine c_not rfl (fun _ => ?_) (fun hx => absurd hx hsq)) | (refine r_build hT rfl rfl rfl rfl rfl rfl rfl rfl rfl ?_) | (refine r_arith rfl rfl rfl rfl rfl rfl rfl (by omega) ?_) | (with_reducible refine r_seq ?_) | (with_reducible refine x_then ?_) | (with_reducible refine r_region ?_) | (refine r_draw hM (by kernel_rfl) ?_) | (with_reducible refine r_skip ?_) | (with_reducible refine r_ret ?_) | (with_reducible refine x_then_ret ?_) | (with_reducible refine r_block ?_) | (with_reducible refine x_block ?_) | (with_reducible refine x_block_ret ?_) | (with_reducible refine r_exit ?_) | (with_reducible refine x_then_exit ?_) | (with_reducible refine x_block_here ?_) | (refine x_block_past rfl ?_) | (refine c_yes rfl (by omega) ?_) | (refine c_no rfl (by omega) ?_) | (refine c_no rfl (fun h => h rfl) ?_) | (refine r_cond_false rfl ?_) | (refine r_cond_true rfl ?_) | (refine r_cond_dec rfl (fun _ => ?_) (fun _ => ?_)) | (refine r_cond_true rfl ?_) | (refine r_cond_false rfl ?_) | (refine c_not rfl (fun _ => ?_) (fun _ => ?_)) | (refine r_off rfl rfl rfl ?_) | (refine q_guard rfl rfl (fun _ => ?_) (fun _ => ?_)) | (refine q_guardn rfl rfl (fun _ => ?_) (fun _ => ?_)))
    exact r_fin hT rfl (((none, 0), (none, 0)) : YS) rfl rfl rfl trivial rfl ⟨⟨rfl, own_nil.sl (e := 0)⟩, ⟨rfl, own_nil.sl (e := 0)⟩, Le.refl _⟩
end Go.Proofs.YtkamfnmbidnhdaaDoor
