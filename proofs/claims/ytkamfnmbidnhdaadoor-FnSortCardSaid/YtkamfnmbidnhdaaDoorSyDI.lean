/- impl.Sort: what it answers; its answer owns its memory. -/
import Derived.Test.YtkamfnmbidnhdaaDoorSyDH
import Derived.Test.YtkamfnmbidnhdaaDoorSyPub
set_option linter.unusedVariables false
set_option linter.unusedSimpArgs false
set_option linter.unusedSectionVars false
namespace Go.Proofs.YtkamfnmbidnhdaaDoor
open Go.Sy
set_option maxRecDepth 100000
set_option maxHeartbeats 8000000
set_option linter.unusedVariables false
set_option linter.unusedSimpArgs false
def srt (ts : List (List Int)) : List (Int × Int) × Option (List Int) := msort (Mof ts) ts.length
/-- The code, the order, what was asked. -/
def sCode (ts : List (List Int)) : Int := if SqOk ts then (if (srt ts).2.isSome then 0 else 2) else 1
def sOrd (ts : List (List Int)) : List Int := if SqOk ts then (srt ts).2.getD [] else []
def sAsk (ts : List (List Int)) : List (Int × Int) := if SqOk ts then (srt ts).1 else []
theorem upTo_get {n i : Nat} (h : i < n) : (upTo n)[i]? = some (i : Int) := by simp [upTo, h]
theorem upTo_len (n : Nat) : (upTo n).length = n := by simp [upTo]
theorem upTo_inn (n : Nat) : Inn n (upTo n) := fun x hx => by
  simp only [upTo, List.mem_map, List.mem_range] at hx
  obtain ⟨i, hi, rfl⟩ := hx
  omega
theorem implSort (tE : TypeId) (vE : Value) (ts : List (List Int)) (A : Option Addr) (n c : Nat) (h : Hp) (hP : Mat h A n ts) (hE : At h 0 0 [.iface tE vE]) :
    TriS Tryd.prog 13 [.v (.slice A n c)] [] h (fun y : YS => .ag (ssv (sCode ts) y.1.1 (sOrd ts).length y.1.2 y.2.1 (sAsk ts).length y.2.2)) (fun _ => [])
      (fun y h' => Own h' y.1.1 (sOrd ts).length y.1.2 3 1 ((sOrd ts).flatMap Ic) ∧ Own h' y.2.1 (sAsk ts).length y.2.2 76 2 ((sAsk ts).flatMap Ac) ∧ Le h h' ∧ Off h y.1.1 ∧ Off h y.2.1 ∧ ∀ b, blk y.1.1 = some b → blk y.2.1 ≠ some b) := by
  obtain rfl := hP.len
  refine enterS Tryd.func13 rfl (n := 37) rfl rfl (fun k N => ?_)
  by_cases hsq : SqOk ts
  · have hl := hsq.1
    repeat' (first | (refine r_pure hT rfl rfl rfl rfl ?_) | (refine r_new hT rfl rfl rfl rfl ?_) | (refine r_write hT rfl rfl rfl ?_) | (refine r_nil ?_) | (refine q_nil ?_) | (refine p_call (squareOk ts A ts.length c _ hP) rfl rfl rfl rfl rfl (hC _ rfl) rfl rfl rfl ?_) | (refine c_not rfl (fun hx => absurd hsq hx) (fun _ => ?_)) | (refine r_makeN hT rfl rfl rfl rfl rfl rfl rfl (by simp) rfl rfl (by dsimp only; omega) (by omega) (fun b0 hb0 => ?_)) | (refine r_arith rfl rfl rfl rfl rfl rfl rfl (by omega) ?_) | (with_reducible refine r_seq ?_) | (with_reducible refine x_then ?_) | (with_reducible refine r_region ?_) | (refine r_draw hM (by kernel_rfl) ?_) | (with_reducible refine r_skip ?_) | (with_reducible refine r_ret ?_) | (with_reducible refine x_then_ret ?_) | (with_reducible refine r_block ?_) | (with_reducible refine x_block ?_) | (with_reducible refine x_block_ret ?_) | (with_reducible refine r_exit ?_) | (with_reducible refine x_then_exit ?_) | (with_reducible refine x_block_here ?_) | (refine x_block_past rfl ?_) | (refine c_yes rfl (by omega) ?_) | (refine c_no rfl (by omega) ?_) | (refine c_no rfl (fun h => h rfl) ?_) | (refine r_cond_false rfl ?_) | (refine r_cond_true rfl ?_) | (refine r_cond_dec rfl (fun _ => ?_) (fun _ => ?_)) | (refine r_cond_true rfl ?_) | (refine r_cond_false rfl ?_) | (refine c_not rfl (fun _ => ?_) (fun _ => ?_)) | (refine r_off rfl rfl rfl ?_) | (refine q_guard rfl rfl (fun _ => ?_) (fun _ => ?_)) | (refine q_guardn rfl rfl (fun _ => ?_) (fun _ => ?_)))
    have hOm : Own (upd h b0 (.cells (reps ts.length [Value.int .i64 0]).toArray 3 (0, 0))) (some ⟨b0, 0, none⟩) ts.length ts.length 3 1 (reps ts.length [Value.int .i64 0]) := own_made rfl
    refine r_loop (γ := Nat × Hp) (fun g => g.1 ≤ ts.length ∧ Le h g.2 ∧ Own g.2 (some ⟨b0, 0, none⟩) ts.length ts.length 3 1 (((upTo ts.length).take g.1).flatMap Ic ++ reps (ts.length - g.1) [Value.int .i64 0]))
      (fun g => [(1, .p 1 0), (2, .p 2 0), (3, .p 3 0), (4, .v (.slice (some ⟨b0, 0, none⟩) ts.length ts.length)), (15, .v (.slice (some ⟨b0, 0, none⟩) ts.length ts.length)), (16, .v (.int .i64 ts.length)), (17, .v (.int .i64 g.1))])
      (fun _ => [(3, ⟨none, [.v (ZV.val (.int .i64)), .v (ZV.val .sl), .v (ZV.val .sl)], 28⟩), (2, ⟨none, [.v (ZV.val (.int .i64)), .v (ZV.val .sl), .v (ZV.val .sl)], 28⟩), (1, ⟨none, [.v (.slice A ts.length c)], 24⟩)]) (fun g => g.2) (fun g => ts.length - g.1)
      (0, upd h b0 (.cells (reps ts.length [Value.int .i64 0]).toArray 3 (0, 0))) ⟨Nat.zero_le _, (Le.refl h).upd hb0, by simp only [List.take_zero, List.flatMap_nil, List.nil_append, Nat.sub_zero]; exact hOm⟩
      (into rfl ⟨rfl, rfl, rfl, rfl, rfl, rfl, rfl, trivial⟩ ⟨rfl, rfl, rfl, trivial⟩ rfl rfl) ?_
    rintro ⟨i, v⟩ ⟨hi, hle, hO⟩
    dsimp only at *
    by_cases hlt : i < ts.length
    · repeat' (first | (refine r_pure hT rfl rfl rfl rfl ?_) | (refine r_new hT rfl rfl rfl rfl ?_) | (refine r_write hT rfl rfl rfl ?_) | (refine r_nil ?_) | (refine q_nil ?_) | (refine r_indexN hT rfl rfl rfl rfl rfl rfl rfl rfl rfl (by omega) ?_) | (refine r_store_own (o := i * 1) hT hO rfl rfl rfl rfl rfl rfl rfl rfl rfl rfl rfl (by rw [hO.len]; show i * 1 + 1 ≤ ts.length * 1; omega) (fun u' hO' hu' => ?_)) | (refine r_arith rfl rfl rfl rfl rfl rfl rfl (by omega) ?_) | (with_reducible refine r_seq ?_) | (with_reducible refine x_then ?_) | (with_reducible refine r_region ?_) | (refine r_draw hM (by kernel_rfl) ?_) | (with_reducible refine r_skip ?_) | (with_reducible refine r_ret ?_) | (with_reducible refine x_then_ret ?_) | (with_reducible refine r_block ?_) | (with_reducible refine x_block ?_) | (with_reducible refine x_block_ret ?_) | (with_reducible refine r_exit ?_) | (with_reducible refine x_then_exit ?_) | (with_reducible refine x_block_here ?_) | (refine x_block_past rfl ?_) | (refine c_yes rfl (by omega) ?_) | (refine c_no rfl (by omega) ?_) | (refine c_no rfl (fun h => h rfl) ?_) | (refine r_cond_false rfl ?_) | (refine r_cond_true rfl ?_) | (refine r_cond_dec rfl (fun _ => ?_) (fun _ => ?_)) | (refine r_cond_true rfl ?_) | (refine r_cond_false rfl ?_) | (refine c_not rfl (fun _ => ?_) (fun _ => ?_)) | (refine r_off rfl rfl rfl ?_) | (refine q_guard rfl rfl (fun _ => ?_) (fun _ => ?_)) | (refine q_guardn rfl rfl (fun _ => ?_) (fun _ => ?_)))
      rw [show [Value.int .i64 (i : Int)] = Ic (i : Int) from rfl, set_next Ic_len rfl (upTo_get hlt) (upTo_len _).symm] at hO'
      exact x_round (i + 1, u') ⟨hlt, fun x o hx => by show u' x = some o; rw [hu' x (fun e => by subst e; rw [hb0] at hx; cases hx)]; exact hle x o hx, hO'⟩ (by simp; omega) (into rfl ⟨rfl, rfl, rfl, rfl, rfl, rfl, rfl, trivial⟩ ⟨rfl, rfl, rfl, trivial⟩ rfl rfl)
    · obtain rfl : i = ts.length := by omega
      rw [List.take_of_length_le (by rw [upTo_len]; exact Nat.le_refl _), Nat.sub_self] at hO
      simp only [reps, List.append_nil] at hO
      repeat' (first | (refine r_pure hT rfl rfl rfl rfl ?_) | (refine r_new hT rfl rfl rfl rfl ?_) | (refine r_write hT rfl rfl rfl ?_) | (refine r_nil ?_) | (refine q_nil ?_) | (refine r_arith rfl rfl rfl rfl rfl rfl rfl (by omega) ?_) | (with_reducible refine r_seq ?_) | (with_reducible refine x_then ?_) | (with_reducible refine r_region ?_) | (refine r_draw hM (by kernel_rfl) ?_) | (with_reducible refine r_skip ?_) | (with_reducible refine r_ret ?_) | (with_reducible refine x_then_ret ?_) | (with_reducible refine r_block ?_) | (with_reducible refine x_block ?_) | (with_reducible refine x_block_ret ?_) | (with_reducible refine r_exit ?_) | (with_reducible refine x_then_exit ?_) | (with_reducible refine x_block_here ?_) | (refine x_block_past rfl ?_) | (refine c_yes rfl (by omega) ?_) | (refine c_no rfl (by omega) ?_) | (refine c_no rfl (fun h => h rfl) ?_) | (refine r_cond_false rfl ?_) | (refine r_cond_true rfl ?_) | (refine r_cond_dec rfl (fun _ => ?_) (fun _ => ?_)) | (refine r_cond_true rfl ?_) | (refine r_cond_false rfl ?_) | (refine c_not rfl (fun _ => ?_) (fun _ => ?_)) | (refine r_off rfl rfl rfl ?_) | (refine q_guard rfl rfl (fun _ => ?_) (fun _ => ?_)) | (refine q_guardn rfl rfl (fun _ => ?_) (fun _ => ?_)))
      refine r_pub 3 (fun _ => qCells none 0 0) rfl rfl (fun _ => rfl) (fun pb hpb => ?_)
      refine r_pub 1 (fun _ => [Value.slice A ts.length c]) rfl rfl (fun _ => rfl) (fun pa hpa => ?_)
      change upd v pb (.cells (qCells none 0 0).toArray 28 (0, 0)) pa = none at hpa
      have n1 := up_none hpa
      have hle0 : Le h (upd v pa (.cells [Value.slice A ts.length c].toArray 24 (0, 0))) := le_fresh hle n1.2
      have hlev : Le v (upd v pa (.cells [Value.slice A ts.length c].toArray 24 (0, 0))) := (Le.refl v).upd n1.2
      have hQ0 : QSt (upd v pa (.cells [Value.slice A ts.length c].toArray 24 (0, 0))) (upd (upd v pb (.cells (qCells none 0 0).toArray 28 (0, 0))) pa (.cells [Value.slice A ts.length c].toArray 24 (0, 0))) pb pa (.iface tE vE) A c ts none 0 [] :=
        ⟨by rw [upd_ne (Ne.symm n1.1), upd_here]; rfl, own_nil, fun b o hb => by
          by_cases e : b = pa
          · subst e; rw [upd_here] at hb ⊢; exact hb
          · rw [upd_ne e] at hb ⊢; rw [upd_ne (fun e2 => by subst e2; rw [hpb] at hb; cases hb)]; exact hb, by rw [upd_ne (Ne.symm n1.1)]; exact hpb, off_nil, by simp [blk], upd_here .., hP.le hle0, hE.le hle0⟩
      have hItems : Ints (upd v pa (.cells [Value.slice A ts.length c].toArray 24 (0, 0))) (some ⟨b0, 0, none⟩) ts.length (upTo ts.length) := ⟨(upTo_len _).symm, hO.sl.le hlev⟩
      have hItems2 : Ints (upd v pa (.cells [Value.slice A ts.length c].toArray 24 (0, 0))) (some ⟨b0, 0, none⟩) (upTo ts.length).length (upTo ts.length) := by rw [upTo_len]; exact hItems
      have hRs : ps (Mof ts) (upTo ts.length).length 1 (upTo ts.length) [] = srt ts := by rw [upTo_len]; rfl
      have hsort := sortBy51 _ pb pa tE vE A c ts hsq (upTo ts.length) (some ⟨b0, 0, none⟩) ts.length hItems2 (by rw [upTo_len]; exact hl) (upTo_inn _) _ none 0 hQ0 (srt ts) hRs
      rw [upTo_len] at hsort
      have hcd : sCode ts = (if (srt ts).2.isSome then 0 else 2) := if_pos hsq
      have hod : sOrd ts = (srt ts).2.getD [] := if_pos hsq
      have had : sAsk ts = (srt ts).1 := if_pos hsq
      rw [hcd, hod, had]
      generalize srt ts = R at *
      obtain ⟨q, r⟩ := R
      dsimp only at *
      cases r with
      | some l =>
        repeat' (first | (refine r_pure hT rfl rfl rfl rfl ?_) | (refine r_new hT rfl rfl rfl rfl ?_) | (refine r_write hT rfl rfl rfl ?_) | (refine r_nil ?_) | (refine q_nil ?_) | (refine r_call hsort rfl rfl rfl rfl rfl (hC _ rfl) rfl rfl (fun y u6 hN => ?_)) | (refine r_ifnil hT rfl rfl rfl rfl (.inr rfl) rfl rfl rfl rfl ?_) | ((refine r_store hT rfl rfl rfl rfl rfl rfl rfl rfl rfl rfl hN.qs.cell (Nat.le_succ 2) ?_ ; have hat9 : At (upd u6 pb (.cells [Value.int .i64 0, .slice y.1.1 l.length y.1.2, .slice y.2.1 q.length y.2.2].toArray 28 (0, 0))) pb 0 [Value.int .i64 0, .slice y.1.1 l.length y.1.2, .slice y.2.1 q.length y.2.2] := at_of (upd_here ..))) | (refine r_load hT hat9 rfl rfl rfl rfl rfl (Nat.add_zero _).symm rfl rfl rfl rfl rfl ?_) | (refine r_arith rfl rfl rfl rfl rfl rfl rfl (by omega) ?_) | (with_reducible refine r_seq ?_) | (with_reducible refine x_then ?_) | (with_reducible refine r_region ?_) | (refine r_draw hM (by kernel_rfl) ?_) | (with_reducible refine r_skip ?_) | (with_reducible refine r_ret ?_) | (with_reducible refine x_then_ret ?_) | (with_reducible refine r_block ?_) | (with_reducible refine x_block ?_) | (with_reducible refine x_block_ret ?_) | (with_reducible refine r_exit ?_) | (with_reducible refine x_then_exit ?_) | (with_reducible refine x_block_here ?_) | (refine x_block_past rfl ?_) | (refine c_yes rfl (by omega) ?_) | (refine c_no rfl (by omega) ?_) | (refine c_no rfl (fun h => h rfl) ?_) | (refine r_cond_false rfl ?_) | (refine r_cond_true rfl ?_) | (refine r_cond_dec rfl (fun _ => ?_) (fun _ => ?_)) | (refine r_cond_true rfl ?_) | (refine r_cond_false rfl ?_) | (refine c_not rfl (fun _ => ?_) (fun _ => ?_)) | (refine r_off rfl rfl rfl ?_) | (refine q_guard rfl rfl (fun _ => ?_) (fun _ => ?_)) | (refine q_guardn rfl rfl (fun _ => ?_) (fun _ => ?_)))
        exact r_fin hT rfl (y : YS) rfl rfl rfl trivial rfl ⟨hN.nl.le fun b o hb ho => by rw [upd_ne (fun e => hN.ap b hb (.inl e))]; exact ho, hN.qs.own.le fun b o hb ho => by rw [upd_ne (fun e => hN.qs.ap (by rw [← e]; exact hb))]; exact ho,
          fun x o hx => by rw [upd_ne (fun e => by subst e; rw [hle _ _ hx] at hpb; cases hpb)]; exact hN.qs.base x o (hle0 x o hx), fun b hb => none_le hle0 (hN.an b hb), fun b hb => none_le hle0 (hN.qs.ho b hb), fun b hb e => hN.ap b hb (.inr e)⟩
      | none =>
        repeat' (first | (refine r_pure hT rfl rfl rfl rfl ?_) | (refine r_new hT rfl rfl rfl rfl ?_) | (refine r_write hT rfl rfl rfl ?_) | (refine r_nil ?_) | (refine q_nil ?_) | (refine r_call hsort rfl rfl rfl rfl rfl (hC _ rfl) rfl rfl (fun y u6 hN => ?_)) | (refine r_ifnil hT rfl rfl rfl rfl (.inr rfl) rfl rfl rfl rfl ?_) | ((refine r_store hT rfl rfl rfl rfl rfl rfl rfl rfl rfl rfl hN.qs.cell (Nat.le_add_right 1 2) ?_ ; have hc8 : upd u6 pb (.cells [Value.int .i64 2, .slice none 0 0, .slice y.2.1 q.length y.2.2].toArray 28 (0, 0)) pb = _ := upd_here ..)) | ((refine r_store hT rfl rfl rfl rfl rfl rfl rfl rfl rfl rfl hc8 (Nat.le_succ 2) ?_ ; have hat9 : At (upd (upd u6 pb (.cells [Value.int .i64 2, .slice none 0 0, .slice y.2.1 q.length y.2.2].toArray 28 (0, 0))) pb (.cells [Value.int .i64 2, .slice y.1.1 0 y.1.2, .slice y.2.1 q.length y.2.2].toArray 28 (0, 0))) pb 0 [Value.int .i64 2, .slice y.1.1 0 y.1.2, .slice y.2.1 q.length y.2.2] := at_of (upd_here ..))) | (refine r_load hT hat9 rfl rfl rfl rfl rfl (Nat.add_zero _).symm rfl rfl rfl rfl rfl ?_) | (refine r_arith rfl rfl rfl rfl rfl rfl rfl (by omega) ?_) | (with_reducible refine r_seq ?_) | (with_reducible refine x_then ?_) | (with_reducible refine r_region ?_) | (refine r_draw hM (by kernel_rfl) ?_) | (with_reducible refine r_skip ?_) | (with_reducible refine r_ret ?_) | (with_reducible refine x_then_ret ?_) | (with_reducible refine r_block ?_) | (with_reducible refine x_block ?_) | (with_reducible refine x_block_ret ?_) | (with_reducible refine r_exit ?_) | (with_reducible refine x_then_exit ?_) | (with_reducible refine x_block_here ?_) | (refine x_block_past rfl ?_) | (refine c_yes rfl (by omega) ?_) | (refine c_no rfl (by omega) ?_) | (refine c_no rfl (fun h => h rfl) ?_) | (refine r_cond_false rfl ?_) | (refine r_cond_true rfl ?_) | (refine r_cond_dec rfl (fun _ => ?_) (fun _ => ?_)) | (refine r_cond_true rfl ?_) | (refine r_cond_false rfl ?_) | (refine c_not rfl (fun _ => ?_) (fun _ => ?_)) | (refine r_off rfl rfl rfl ?_) | (refine q_guard rfl rfl (fun _ => ?_) (fun _ => ?_)) | (refine q_guardn rfl rfl (fun _ => ?_) (fun _ => ?_)))
        exact r_fin hT rfl (y : YS) rfl rfl rfl trivial rfl ⟨hN.nl.le fun b o hb ho => by rw [upd_ne (fun e => hN.ap b hb (.inl e)), upd_ne (fun e => hN.ap b hb (.inl e))]; exact ho, hN.qs.own.le fun b o hb ho => by rw [upd_ne (fun e => hN.qs.ap (by rw [← e]; exact hb)), upd_ne (fun e => hN.qs.ap (by rw [← e]; exact hb))]; exact ho,
          fun x o hx => by rw [upd_ne (fun e => by subst e; rw [hle _ _ hx] at hpb; cases hpb), upd_ne (fun e => by subst e; rw [hle _ _ hx] at hpb; cases hpb)]; exact hN.qs.base x o (hle0 x o hx), fun b hb => none_le hle0 (hN.an b hb), fun b hb => none_le hle0 (hN.qs.ho b hb), fun b hb e => hN.ap b hb (.inr e)⟩
  · have hcd : sCode ts = 1 := if_neg hsq
    have hod : sOrd ts = [] := if_neg hsq
    have had : sAsk ts = [] := if_neg hsq
    rw [hcd, hod, had]
    repeat' (first | (refine r_pure hT rfl rfl rfl rfl ?_) | (refine r_new hT rfl rfl rfl rfl ?_) | (refine r_write hT rfl rfl rfl ?_) | (refine r_nil ?_) | (refine q_nil ?_) | (refine p_call (squareOk ts A ts.length c _ hP) rfl rfl rfl rfl rfl (hC _ rfl) rfl rfl rfl ?_) | (refine c_not rfl (fun _ => ?_) (fun hx => absurd hx hsq)) | (refine r_build hT rfl rfl rfl rfl rfl rfl rfl rfl rfl ?_) | (refine r_arith rfl rfl rfl rfl rfl rfl rfl (by omega) ?_) | (with_reducible refine r_seq ?_) | (with_reducible refine x_then ?_) | (with_reducible refine r_region ?_) | (refine r_draw hM (by kernel_rfl) ?_) | (with_reducible refine r_skip ?_) | (with_reducible refine r_ret ?_) | (with_reducible refine x_then_ret ?_) | (with_reducible refine r_block ?_) | (with_reducible refine x_block ?_) | (with_reducible refine x_block_ret ?_) | (with_reducible refine r_exit ?_) | (with_reducible refine x_then_exit ?_) | (with_reducible refine x_block_here ?_) | (refine x_block_past rfl ?_) | (refine c_yes rfl (by omega) ?_) | (refine c_no rfl (by omega) ?_) | (refine c_no rfl (fun h => h rfl) ?_) | (refine r_cond_false rfl ?_) | (refine r_cond_true rfl ?_) | (refine r_cond_dec rfl (fun _ => ?_) (fun _ => ?_)) | (refine r_cond_true rfl ?_) | (refine r_cond_false rfl ?_) | (refine c_not rfl (fun _ => ?_) (fun _ => ?_)) | (refine r_off rfl rfl rfl ?_) | (refine q_guard rfl rfl (fun _ => ?_) (fun _ => ?_)) | (refine q_guardn rfl rfl (fun _ => ?_) (fun _ => ?_)))
    exact r_fin hT rfl (((none, 0), (none, 0)) : YS) rfl rfl rfl trivial rfl ⟨own_nil, own_nil, Le.refl _, off_nil, off_nil, fun b hb => (by cases hb)⟩
end Go.Proofs.YtkamfnmbidnhdaaDoor
