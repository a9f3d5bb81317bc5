/- spec.l3classes. No condition. -/
import Derived.Test.YtkamfnmbidnhdaaDoorSyDKg
import Derived.Test.YtkamfnmbidnhdaaDoorSqAL
set_option linter.unusedVariables false
set_option linter.unusedSimpArgs false
set_option linter.unusedSectionVars false
namespace Go.Proofs.YtkamfnmbidnhdaaDoor
open Go.Sy
set_option maxRecDepth 100000
set_option maxHeartbeats 8000000
set_option linter.unusedVariables false
set_option linter.unusedSimpArgs false
theorem reps_cons {n i : Nat} {z : List Value} (h : i < n) : reps (n - i) z = z ++ reps (n - (i + 1)) z := by
  obtain ⟨m, hm⟩ : ∃ m, n - i = m + 1 := ⟨n - i - 1, by omega⟩
  have : n - (i + 1) = m := by omega
  rw [hm, this]; rfl
def SRow (q : Hp) (hs : List Hd) (st : List (List Pr)) : Prop := ∀ (j : Nat) (x : Hd) (t : List Pr), hs[j]? = some x → st[j]? = some t → x.n ≤ x.c ∧ Pairs q x.A x.n t
theorem classes86 (ts : List (List Pr)) (A : Option Addr) (n cA : Nat) (h : Hp) (hP : Tabs h A n ts) (hCl : ClOk ts) :
    TriS Tryd.prog 86 [.v (.slice A n cA)] [] h (fun y : Option Addr × Nat => .v (.slice y.1 ts.length y.2)) (fun _ => []) (fun y h' => Own h' y.1 ts.length y.2 3 1 ((cI (cls (ts.map srt))).flatMap Ic) ∧ Le h h' ∧ Off h y.1) := by
  obtain rfl := hP.len
  have hnum := hCl.num
  have hstl : (ts.map srt).length = ts.length := List.length_map _
  have hIn := hCl.inSrt
  refine enterS Tryd.func86 rfl (n := 86) rfl rfl (fun k N => ?_)
  repeat' (first | (refine r_pure hT rfl rfl rfl rfl ?_) | (refine r_new hT rfl rfl rfl rfl ?_) | (refine r_write hT rfl rfl rfl ?_) | (refine r_nil ?_) | (refine q_nil ?_) | (refine r_arith rfl rfl rfl rfl rfl rfl rfl (by omega) ?_) | (with_reducible refine r_seq ?_) | (with_reducible refine x_then ?_) | (with_reducible refine r_region ?_) | (refine r_draw hM (by kernel_rfl) ?_) | (with_reducible refine r_skip ?_) | (with_reducible refine r_ret ?_) | (with_reducible refine x_then_ret ?_) | (with_reducible refine r_block ?_) | (with_reducible refine x_block ?_) | (with_reducible refine x_block_ret ?_) | (with_reducible refine r_exit ?_) | (with_reducible refine x_then_exit ?_) | (with_reducible refine x_block_here ?_) | (refine x_block_past rfl ?_) | (refine c_yes rfl (by omega) ?_) | (refine c_no rfl (by omega) ?_) | (refine c_no rfl (fun h => h rfl) ?_) | (refine r_cond_false rfl ?_) | (refine r_cond_true rfl ?_) | (refine r_cond_dec rfl (fun _ => ?_) (fun _ => ?_)) | (refine r_cond_true rfl ?_) | (refine r_cond_false rfl ?_) | (refine c_not rfl (fun _ => ?_) (fun _ => ?_)) | (refine r_off rfl rfl rfl ?_) | (refine q_guard rfl rfl (fun _ => ?_) (fun _ => ?_)) | (refine q_guardn rfl rfl (fun _ => ?_) (fun _ => ?_)))
  refine r_loop (γ := (Nat × Hp) × ((Option Addr × Nat) × (List Hd × Hp))) (fun g => g.1.1 ≤ ts.length ∧ Le h g.2.2.2 ∧ Le g.2.2.2 g.1.2 ∧ Off g.2.2.2 g.2.1.1 ∧ Own g.1.2 g.2.1.1 g.1.1 g.2.1.2 59 1 (g.2.2.1.flatMap Hd.v) ∧ g.2.2.1.length = g.1.1 ∧ SRow g.2.2.2 g.2.2.1 (ts.map srt))
    (fun g => [(0, .v (.slice A ts.length cA)), (3, .v (.slice g.2.1.1 g.1.1 g.2.1.2)), (11, .v (.slice A ts.length cA)), (12, .v (.int .i64 (ts.length : Int))), (13, .v (.int .i64 (g.1.1 : Int)))]) (fun _ => []) (fun g => g.1.2) (fun g => ts.length - g.1.1)
    ((0, h), ((none, 0), ([], h))) ⟨Nat.zero_le _, Le.refl h, Le.refl h, off_nil, own_nil, rfl, fun j x t hx => by simp at hx⟩ (into rfl ⟨rfl, rfl, rfl, rfl, rfl, trivial⟩ trivial rfl rfl) ?_
  rintro ⟨⟨i, v⟩, ⟨⟨As, cs⟩, ⟨hs, q⟩⟩⟩ ⟨hi, hhq, hqv, hoq, hO, hlen, hS⟩
  dsimp only at *
  by_cases hlt : i < ts.length
  · obtain ⟨b, off, A1, n1, c1, t, rfl, hd, hix, hm, hat, hc1, hp1⟩ := (hP.le (hhq.trans hqv)).elem hlt
    have htl := (hCl.tok t hm).1
    repeat' (first | (refine r_pure hT rfl rfl rfl rfl ?_) | (refine r_new hT rfl rfl rfl rfl ?_) | (refine r_write hT rfl rfl rfl ?_) | (refine r_nil ?_) | (refine q_nil ?_) | (refine r_indexN hT rfl rfl rfl rfl rfl rfl rfl rfl rfl hlt ?_) | (refine r_load hT hat rfl rfl rfl rfl rfl (Nat.add_zero _).symm rfl rfl rfl rfl rfl ?_) | (refine r_call (sorted90 t A1 n1 c1 _ hp1 (fun p hp => hCl.ky hm hp) (by omega)) rfl rfl rfl rfl rfl (hC _ rfl) rfl rfl (fun y u1 hy => ?_)) | (refine r_bslice hT (ps := [(0, .tmp 19)]) rfl rfl rfl rfl rfl rfl rfl (by simp) rfl rfl (by decide) (fun b3 hb3 => ?_)) | ((refine r_append hT (cs := hs.flatMap Hd.v) (news := [(⟨y.1, t.length, y.2⟩ : Hd)].flatMap Hd.v) rfl rfl rfl rfl rfl rfl rfl rfl rfl rfl rfl (own_fr (hO.le fun b o _ => hy.choose_spec.2.2.2.1 b o) hb3) (sl_blk (upd_here ..) rfl) (fun v hv => by simp only [List.flatMap_cons, List.flatMap_nil, List.append_nil, Hd.v, List.mem_singleton] at hv; subst hv; rfl) (by dsimp only; omega) (by omega) (fun A' c' u3 hO3 hG3 => ?_))) | (refine r_arith rfl rfl rfl rfl rfl rfl rfl (by omega) ?_) | (with_reducible refine r_seq ?_) | (with_reducible refine x_then ?_) | (with_reducible refine r_region ?_) | (refine r_draw hM (by kernel_rfl) ?_) | (with_reducible refine r_skip ?_) | (with_reducible refine r_ret ?_) | (with_reducible refine x_then_ret ?_) | (with_reducible refine r_block ?_) | (with_reducible refine x_block ?_) | (with_reducible refine x_block_ret ?_) | (with_reducible refine r_exit ?_) | (with_reducible refine x_then_exit ?_) | (with_reducible refine x_block_here ?_) | (refine x_block_past rfl ?_) | (refine c_yes rfl (by omega) ?_) | (refine c_no rfl (by omega) ?_) | (refine c_no rfl (fun h => h rfl) ?_) | (refine r_cond_false rfl ?_) | (refine r_cond_true rfl ?_) | (refine r_cond_dec rfl (fun _ => ?_) (fun _ => ?_)) | (refine r_cond_true rfl ?_) | (refine r_cond_false rfl ?_) | (refine c_not rfl (fun _ => ?_) (fun _ => ?_)) | (refine r_off rfl rfl rfl ?_) | (refine q_guard rfl rfl (fun _ => ?_) (fun _ => ?_)) | (refine q_guardn rfl rfl (fun _ => ?_) (fun _ => ?_)))
    obtain ⟨ys, hy1, hy2, hy3, hy4, hy5⟩ := hy
    obtain rfl := hCl.uniq hm hy1 hy2
    have hAy : ∀ z, blk As = some z → blk y.1 ≠ some z := fun z hz e => by
      cases As with
      | none => cases hz
      | some a =>
        obtain ⟨_, arr, h2, _⟩ := hO.row a rfl
        have e1 : a.block = z := Option.some.inj hz
        rw [e1, hy5 z e] at h2; cases h2
    have hqp : Le q (ptw u1 As) := fun z o hz => by
      unfold ptw
      rw [if_neg (fun e => by rw [hoq z e] at hz; cases hz)]
      exact hy4 z o (hqv z o hz)
    have hk3 := hG3 (ptw u1 As) ((ptw_le u1 As).trans (le_frsh (Le.refl u1) hb3)) (ptw_off u1 As)
    refine x_round ((i + 1, u3), ((A', c'), (hs ++ [⟨y.1, t.length, y.2⟩], ptw u1 As))) ⟨hlt, hhq.trans hqp, hk3.1, hk3.2, by simpa using hO3, by simp [hlen], fun j x t' hx ht' => ?_⟩ (by dsimp only; omega) (into rfl ⟨rfl, rfl, rfl, rfl, rfl, trivial⟩ trivial rfl rfl)
    by_cases hj : j < hs.length
    · rw [List.getElem?_append_left hj] at hx
      obtain ⟨g1, g2⟩ := hS j x t' hx ht'
      exact ⟨g1, g2.le hqp⟩
    · have hj2 : j = hs.length := by
        have := (List.getElem?_eq_some_iff.1 hx).1
        simp at this; omega
      subst hj2
      rw [List.getElem?_append_right (Nat.le_refl _)] at hx
      simp at hx
      subst hx
      rw [hlen, ClOk.srt_mem hix] at ht'
      have e5 := Option.some.inj ht'
      subst e5
      have hyc := hy3.cap
      exact ⟨hyc, (own_pairs (hy3.le fun b o hb ho => by show ptw u1 As b = some o; unfold ptw; rw [if_neg (fun e => hAy b e hb)]; exact ho))⟩
  · obtain rfl : i = ts.length := by omega
    repeat' (first | (refine r_pure hT rfl rfl rfl rfl ?_) | (refine r_new hT rfl rfl rfl rfl ?_) | (refine r_write hT rfl rfl rfl ?_) | (refine r_nil ?_) | (refine q_nil ?_) | (refine r_makeN (t := 25) hT rfl rfl rfl rfl rfl rfl rfl (by simp) rfl rfl (by dsimp only; omega) (by omega) (fun b1 hb1 => ?_)) | (refine r_arith rfl rfl rfl rfl rfl rfl rfl (by omega) ?_) | (with_reducible refine r_seq ?_) | (with_reducible refine x_then ?_) | (with_reducible refine r_region ?_) | (refine r_draw hM (by kernel_rfl) ?_) | (with_reducible refine r_skip ?_) | (with_reducible refine r_ret ?_) | (with_reducible refine x_then_ret ?_) | (with_reducible refine r_block ?_) | (with_reducible refine x_block ?_) | (with_reducible refine x_block_ret ?_) | (with_reducible refine r_exit ?_) | (with_reducible refine x_then_exit ?_) | (with_reducible refine x_block_here ?_) | (refine x_block_past rfl ?_) | (refine c_yes rfl (by omega) ?_) | (refine c_no rfl (by omega) ?_) | (refine c_no rfl (fun h => h rfl) ?_) | (refine r_cond_false rfl ?_) | (refine r_cond_true rfl ?_) | (refine r_cond_dec rfl (fun _ => ?_) (fun _ => ?_)) | (refine r_cond_true rfl ?_) | (refine r_cond_false rfl ?_) | (refine c_not rfl (fun _ => ?_) (fun _ => ?_)) | (refine r_off rfl rfl rfl ?_) | (refine q_guard rfl rfl (fun _ => ?_) (fun _ => ?_)) | (refine q_guardn rfl rfl (fun _ => ?_) (fun _ => ?_)))
    replace hb1 : v b1 = none := hb1
    have hl1 := le_frsh (o := (.cells (reps ts.length [Value.int .i64 0]).toArray 3 (0, 0))) (Le.refl v) hb1
    have hO1 : Own (upd v b1 (.cells (reps ts.length [Value.int .i64 0]).toArray 3 (0, 0))) (some ⟨b1, 0, none⟩) ts.length ts.length 3 1 (reps ts.length [Value.int .i64 0]) := own_made rfl
    have hhv := hhq.trans hqv
    have hSR : Rd Hd.v 1 v As ts.length hs := ⟨hlen.symm, hO.sl⟩
    refine r_loop (γ := (Nat × List Nat) × (Hp × (Option Addr × Nat))) (fun g => Rch (ts.map srt) g.1.1 g.1.2 ∧ Le v g.2.1 ∧ Own g.2.1 g.2.2.1 ts.length g.2.2.2 3 1 ((cI g.1.2).flatMap Ic) ∧ Off h g.2.2.1)
      (fun g => [(0, .v (.slice A ts.length cA)), (3, .v (.slice As ts.length cs)), (6, .v (.slice g.2.2.1 ts.length g.2.2.2))]) (fun _ => []) (fun g => g.2.1) (fun g => g.1.1)
      ((ts.length + 1, List.replicate ts.length 0), (_, (some ⟨b1, 0, none⟩, ts.length)))
      ⟨by have := rch_start (ts.map srt); rwa [hstl] at this, hl1, by dsimp only; rw [cI_zero]; exact hO1, fun b hb => by have e := Option.some.inj hb; subst e; exact none_of hhv hb1⟩ (into rfl ⟨rfl, rfl, rfl, trivial⟩ trivial rfl rfl) ?_
    rintro ⟨⟨f, c⟩, ⟨u0, ⟨Ac, cc⟩⟩⟩ ⟨hRch, hl0, hOw, hoff⟩
    dsimp only at *
    have hGc := hRch.good
    rw [hstl] at hGc
    have hcl := hGc.len
    have hPc : Ints u0 Ac ts.length (cI c) := ⟨by rw [cI_len, hcl], hOw.sl⟩
    have hnl : (nxt (ts.map srt) c).length = ts.length := by rw [nxt_len, hstl]
    repeat' (first | (refine r_pure hT rfl rfl rfl rfl ?_) | (refine r_new hT rfl rfl rfl rfl ?_) | (refine r_write hT rfl rfl rfl ?_) | (refine r_nil ?_) | (refine q_nil ?_) | (refine r_makeN (t := 25) hT rfl rfl rfl rfl rfl rfl rfl (by simp) rfl rfl (by dsimp only; omega) (by omega) (fun b9 hb9 => ?_)) | (refine r_arith rfl rfl rfl rfl rfl rfl rfl (by omega) ?_) | (with_reducible refine r_seq ?_) | (with_reducible refine x_then ?_) | (with_reducible refine r_region ?_) | (refine r_draw hM (by kernel_rfl) ?_) | (with_reducible refine r_skip ?_) | (with_reducible refine r_ret ?_) | (with_reducible refine x_then_ret ?_) | (with_reducible refine r_block ?_) | (with_reducible refine x_block ?_) | (with_reducible refine x_block_ret ?_) | (with_reducible refine r_exit ?_) | (with_reducible refine x_then_exit ?_) | (with_reducible refine x_block_here ?_) | (refine x_block_past rfl ?_) | (refine c_yes rfl (by omega) ?_) | (refine c_no rfl (by omega) ?_) | (refine c_no rfl (fun h => h rfl) ?_) | (refine r_cond_false rfl ?_) | (refine r_cond_true rfl ?_) | (refine r_cond_dec rfl (fun _ => ?_) (fun _ => ?_)) | (refine r_cond_true rfl ?_) | (refine r_cond_false rfl ?_) | (refine c_not rfl (fun _ => ?_) (fun _ => ?_)) | (refine r_off rfl rfl rfl ?_) | (refine q_guard rfl rfl (fun _ => ?_) (fun _ => ?_)) | (refine q_guardn rfl rfl (fun _ => ?_) (fun _ => ?_)))
    replace hb9 : u0 b9 = none := hb9
    refine r_loop (γ := (Nat × Hp) × Bool) (fun g => g.1.1 ≤ ts.length ∧ Le u0 g.1.2 ∧ Own g.1.2 (some ⟨b9, 0, none⟩) ts.length ts.length 3 1 (((cI (nxt (ts.map srt) c)).take g.1.1).flatMap Ic ++ reps (ts.length - g.1.1) [Value.int .i64 0]) ∧ (g.2 = true ↔ ∃ j, j < g.1.1 ∧ at0 (nxt (ts.map srt) c) j ≠ at0 c j))
      (fun g => [(0, .v (.slice A ts.length cA)), (3, .v (.slice As ts.length cs)), (6, .v (.slice Ac ts.length cc)), (7, .v (.slice (some ⟨b9, 0, none⟩) ts.length ts.length)), (8, .v (.bool g.2)), (30, .v (.int .i64 (ts.length : Int))), (31, .v (.int .i64 (g.1.1 : Int)))]) (fun _ => []) (fun g => g.1.2) (fun g => ts.length - g.1.1)
      ((0, _), false) ⟨Nat.zero_le _, le_frsh (Le.refl u0) hb9, by simp only [List.take_zero, List.flatMap_nil, List.nil_append, Nat.sub_zero]; exact own_made rfl, by simp⟩ (into rfl ⟨rfl, rfl, rfl, rfl, rfl, rfl, rfl, trivial⟩ trivial rfl rfl) ?_
    rintro ⟨⟨i, w⟩, more⟩ ⟨hi, hlw, hOn, hmo⟩
    dsimp only at *
    by_cases hlt : i < ts.length
    · have hxn : (cI (nxt (ts.map srt) c))[i]? = some ((at0 (nxt (ts.map srt) c) i : Nat) : Int) := at0_cI (by rw [hnl]; exact hlt)
      have hpre : (((cI (nxt (ts.map srt) c)).take i).flatMap Ic).length = i * 1 := by rw [flat_length Ic_len, List.length_take, cI_len, hnl, Nat.min_eq_left (by omega)]
      rw [reps_cons hlt] at hOn
      obtain ⟨bc, offc, pc, rfl, _, hixc, _, hatc0⟩ := hPc.elem Ic_len (i := i) (by rw [cI_len, hcl]; exact hlt)
      obtain rfl := cI_get hixc
      obtain ⟨bS, offS, xi, rfl, _, hxi, _, hatS⟩ := hSR.elem Hd.v_len (i := i) (by omega)
      obtain ⟨ti, hti⟩ : ∃ t, ts[i]? = some t := ⟨_, List.getElem?_eq_getElem hlt⟩
      have hsti := ClOk.srt_mem hti
      obtain ⟨hxic, hPi⟩ := hS i xi (srt ti) hxi hsti
      obtain ⟨xiA, xin, xic⟩ := xi
      dsimp only at hxic hPi
      have hlti : i < (ts.map srt).length := by rw [hstl]; exact hlt
      have hmi := List.mem_of_getElem? hti
      have hsgi : (ts.map srt)[i] = srt ti := (List.getElem?_eq_some_iff.1 hsti).2
      repeat' (first | (refine r_pure hT rfl rfl rfl rfl ?_) | (refine r_new hT rfl rfl rfl rfl ?_) | (refine r_write hT rfl rfl rfl ?_) | (refine r_nil ?_) | (refine q_nil ?_) | (refine r_indexN hT rfl rfl rfl rfl rfl rfl rfl rfl rfl hlt ?_) | (refine r_store_row0 hT hOn (w0 := w) (fun _ _ => rfl) rfl rfl rfl rfl (by rw [hpre]) rfl rfl rfl rfl rfl rfl rfl (fun w1 hO1 hK1 => ?_)) | (refine r_arith rfl rfl rfl rfl rfl rfl rfl (by omega) ?_) | (with_reducible refine r_seq ?_) | (with_reducible refine x_then ?_) | (with_reducible refine r_region ?_) | (refine r_draw hM (by kernel_rfl) ?_) | (with_reducible refine r_skip ?_) | (with_reducible refine r_ret ?_) | (with_reducible refine x_then_ret ?_) | (with_reducible refine r_block ?_) | (with_reducible refine x_block ?_) | (with_reducible refine x_block_ret ?_) | (with_reducible refine r_exit ?_) | (with_reducible refine x_then_exit ?_) | (with_reducible refine x_block_here ?_) | (refine x_block_past rfl ?_) | (refine c_yes rfl (by omega) ?_) | (refine c_no rfl (by omega) ?_) | (refine c_no rfl (fun h => h rfl) ?_) | (refine r_cond_false rfl ?_) | (refine r_cond_true rfl ?_) | (refine r_cond_dec rfl (fun _ => ?_) (fun _ => ?_)) | (refine r_cond_true rfl ?_) | (refine r_cond_false rfl ?_) | (refine c_not rfl (fun _ => ?_) (fun _ => ?_)) | (refine r_off rfl rfl rfl ?_) | (refine q_guard rfl rfl (fun _ => ?_) (fun _ => ?_)) | (refine q_guardn rfl rfl (fun _ => ?_) (fun _ => ?_)))
      have hlw1 : Le u0 w1 := fun x o hx => by rw [hK1 x (fun e => by rw [e, hb9] at hx; cases hx)]; exact hlw x o hx
      refine r_loop (γ := (Nat × Nat) × Hp) (fun g => g.1.1 ≤ i ∧ Mid (ts.map srt) c i g.1.1 g.1.2 ∧ Le u0 g.2 ∧ Own g.2 (some ⟨b9, 0, none⟩) ts.length ts.length 3 1 (((cI (nxt (ts.map srt) c)).take i).flatMap Ic ++ (Ic (g.1.2 : Int) ++ reps (ts.length - (i + 1)) [Value.int .i64 0])))
        (fun g => [(0, .v (.slice A ts.length cA)), (3, .v (.slice (some ⟨bS, offS, none⟩) ts.length cs)), (6, .v (.slice (some ⟨bc, offc, none⟩) ts.length cc)), (7, .v (.slice (some ⟨b9, 0, none⟩) ts.length ts.length)), (8, .v (.bool more)), (30, .v (.int .i64 (ts.length : Int))), (31, .v (.int .i64 (i : Int))), (9, .v (.int .i64 (i : Int))), (10, .v (.int .i64 ((g.1.1 : Int) - 1)))]) (fun _ => []) (fun g => g.2) (fun g => g.1.1)
        ((i, i), w1) ⟨Nat.le_refl _, Mid.start _ _ _, hlw1, hO1⟩ (into rfl ⟨rfl, rfl, rfl, rfl, rfl, rfl, rfl, rfl, rfl, trivial⟩ trivial rfl rfl) ?_
      rintro ⟨⟨k1, x⟩, w2⟩ ⟨hk1, hMid, hlw2, hO2⟩
      dsimp only at *
      have hatci := hatc0.le hlw2
      have hatsi := hatS.le (hl0.trans hlw2)
      by_cases h0 : k1 = 0
      · have hno : ¬ ((k1 : Int) - 1 ≥ 0) := by omega
        have hx : x = at0 (nxt (ts.map srt) c) i := by rw [h0] at hMid; exact hMid.fin hlti
        subst hx
        have hO3 : Own w2 (some ⟨b9, 0, none⟩) ts.length ts.length 3 1 (((cI (nxt (ts.map srt) c)).take (i + 1)).flatMap Ic ++ reps (ts.length - (i + 1)) [Value.int .i64 0]) := by
          rw [take_snoc hxn, List.flatMap_append, List.append_assoc]
          simpa using hO2
        have hgn : (((cI (nxt (ts.map srt) c)).take i).flatMap Ic ++ (Ic ((at0 (nxt (ts.map srt) c) i : Nat) : Int) ++ reps (ts.length - (i + 1)) [Value.int .i64 0]))[i]? = some (.int .i64 ((at0 (nxt (ts.map srt) c) i : Nat) : Int)) := by
          rw [List.getElem?_append_right (by rw [hpre]; omega), hpre, Nat.mul_one, Nat.sub_self]; rfl
        have hatn := own_at hO2 hgn
        by_cases hne : at0 (nxt (ts.map srt) c) i = at0 c i
        · have hneI : ((at0 (nxt (ts.map srt) c) i : Nat) : Int) = ((at0 c i : Nat) : Int) := by rw [hne]
          repeat' (first | (refine r_pure hT rfl rfl rfl rfl ?_) | (refine r_new hT rfl rfl rfl rfl ?_) | (refine r_write hT rfl rfl rfl ?_) | (refine r_nil ?_) | (refine q_nil ?_) | (refine c_no rfl hno ?_) | (refine r_indexN hT rfl rfl rfl rfl rfl rfl rfl rfl rfl hlt ?_) | (refine r_load hT hatn rfl rfl rfl rfl rfl (Nat.add_zero _).symm rfl rfl rfl rfl rfl ?_) | (refine r_load hT hatci rfl rfl rfl rfl rfl (Nat.add_zero _).symm rfl rfl rfl rfl rfl ?_) | (refine c_no rfl (fun h => h hneI) ?_) | (refine r_arith rfl rfl rfl rfl rfl rfl rfl (by omega) ?_) | (with_reducible refine r_seq ?_) | (with_reducible refine x_then ?_) | (with_reducible refine r_region ?_) | (refine r_draw hM (by kernel_rfl) ?_) | (with_reducible refine r_skip ?_) | (with_reducible refine r_ret ?_) | (with_reducible refine x_then_ret ?_) | (with_reducible refine r_block ?_) | (with_reducible refine x_block ?_) | (with_reducible refine x_block_ret ?_) | (with_reducible refine r_exit ?_) | (with_reducible refine x_then_exit ?_) | (with_reducible refine x_block_here ?_) | (refine x_block_past rfl ?_) | (refine c_yes rfl (by omega) ?_) | (refine c_no rfl (by omega) ?_) | (refine c_no rfl (fun h => h rfl) ?_) | (refine r_cond_false rfl ?_) | (refine r_cond_true rfl ?_) | (refine r_cond_dec rfl (fun _ => ?_) (fun _ => ?_)) | (refine r_cond_true rfl ?_) | (refine r_cond_false rfl ?_) | (refine c_not rfl (fun _ => ?_) (fun _ => ?_)) | (refine r_off rfl rfl rfl ?_) | (refine q_guard rfl rfl (fun _ => ?_) (fun _ => ?_)) | (refine q_guardn rfl rfl (fun _ => ?_) (fun _ => ?_)))
          exact x_round ((i + 1, w2), more) ⟨hlt, hlw2, hO3, hmo.trans ⟨fun ⟨j, h1, h2⟩ => ⟨j, Nat.lt_succ_of_lt h1, h2⟩, fun ⟨j, h1, h2⟩ => ⟨j, (Nat.lt_succ_iff_lt_or_eq.1 h1).elim id (fun h3 => absurd (by rw [h3]; exact hne) h2), h2⟩⟩⟩ (by dsimp only; omega) (into rfl ⟨rfl, rfl, rfl, rfl, rfl, rfl, rfl, trivial⟩ trivial rfl rfl)
        · have hneI : ¬ ((at0 (nxt (ts.map srt) c) i : Nat) : Int) = ((at0 c i : Nat) : Int) := by omega
          repeat' (first | (refine r_pure hT rfl rfl rfl rfl ?_) | (refine r_new hT rfl rfl rfl rfl ?_) | (refine r_write hT rfl rfl rfl ?_) | (refine r_nil ?_) | (refine q_nil ?_) | (refine c_no rfl hno ?_) | (refine r_indexN hT rfl rfl rfl rfl rfl rfl rfl rfl rfl hlt ?_) | (refine r_load hT hatn rfl rfl rfl rfl rfl (Nat.add_zero _).symm rfl rfl rfl rfl rfl ?_) | (refine r_load hT hatci rfl rfl rfl rfl rfl (Nat.add_zero _).symm rfl rfl rfl rfl rfl ?_) | (refine c_yes rfl hneI ?_) | (refine r_arith rfl rfl rfl rfl rfl rfl rfl (by omega) ?_) | (with_reducible refine r_seq ?_) | (with_reducible refine x_then ?_) | (with_reducible refine r_region ?_) | (refine r_draw hM (by kernel_rfl) ?_) | (with_reducible refine r_skip ?_) | (with_reducible refine r_ret ?_) | (with_reducible refine x_then_ret ?_) | (with_reducible refine r_block ?_) | (with_reducible refine x_block ?_) | (with_reducible refine x_block_ret ?_) | (with_reducible refine r_exit ?_) | (with_reducible refine x_then_exit ?_) | (with_reducible refine x_block_here ?_) | (refine x_block_past rfl ?_) | (refine c_yes rfl (by omega) ?_) | (refine c_no rfl (by omega) ?_) | (refine c_no rfl (fun h => h rfl) ?_) | (refine r_cond_false rfl ?_) | (refine r_cond_true rfl ?_) | (refine r_cond_dec rfl (fun _ => ?_) (fun _ => ?_)) | (refine r_cond_true rfl ?_) | (refine r_cond_false rfl ?_) | (refine c_not rfl (fun _ => ?_) (fun _ => ?_)) | (refine r_off rfl rfl rfl ?_) | (refine q_guard rfl rfl (fun _ => ?_) (fun _ => ?_)) | (refine q_guardn rfl rfl (fun _ => ?_) (fun _ => ?_)))
          exact x_round ((i + 1, w2), true) ⟨hlt, hlw2, hO3, ⟨fun _ => ⟨i, Nat.lt_succ_self _, hne⟩, fun _ => rfl⟩⟩ (by dsimp only; omega) (into rfl ⟨rfl, rfl, rfl, rfl, rfl, rfl, rfl, trivial⟩ trivial rfl rfl)
      · obtain ⟨kk, rfl⟩ : ∃ kk, k1 = kk + 1 := ⟨k1 - 1, by omega⟩
        have hkk : ((kk + 1 : Nat) : Int) - 1 = (kk : Int) := by omega
        rw [hkk]
        have hge : (kk : Int) ≥ 0 := by omega
        have hkn : kk < ts.length := by omega
        have hki : kk < i := by omega
        obtain ⟨bc2, offc2, pc2, ec, _, hixc2, _, hatck⟩ := hPc.elem Ic_len (i := kk) (by rw [cI_len, hcl]; exact hkn)
        have ec2 := Option.some.inj ec
        simp only [Addr.mk.injEq] at ec2
        obtain ⟨rfl, rfl, _⟩ := ec2
        obtain rfl := cI_get hixc2
        replace hatck := hatck.le hlw2
        obtain ⟨bS2, offS2, xk, eS, _, hxk, _, hatsk⟩ := hSR.elem Hd.v_len (i := kk) (by omega)
        have eS2 := Option.some.inj eS
        simp only [Addr.mk.injEq] at eS2
        obtain ⟨rfl, rfl, _⟩ := eS2
        replace hatsk := hatsk.le (hl0.trans hlw2)
        obtain ⟨tk, htk⟩ : ∃ t, ts[kk]? = some t := ⟨_, List.getElem?_eq_getElem hkn⟩
        have hstk := ClOk.srt_mem htk
        obtain ⟨hxkc, hPk⟩ := hS kk xk (srt tk) hxk hstk
        obtain ⟨xkA, xkn, xkc⟩ := xk
        dsimp only at hxkc hPk
        have hltk : kk < (ts.map srt).length := by rw [hstl]; exact hkn
        have hmk := List.mem_of_getElem? htk
        have hsgk : (ts.map srt)[kk] = srt tk := (List.getElem?_eq_some_iff.1 hstk).2
        have hInk : ∀ p ∈ srt tk, In c.length p.val := fun p hp => by rw [hcl, ← hstl]; exact hIn _ (List.mem_of_getElem? hstk) p hp
        have hIni : ∀ p ∈ srt ti, In c.length p.val := fun p hp => by rw [hcl, ← hstl]; exact hIn _ (List.mem_of_getElem? hsti) p hp
        have hTk : ∀ p ∈ srt tk, Tv p.val := fun p hp => tv_of ((hCl.tok tk hmk).2.1 p ((srt_perm tk).mem_iff.1 hp)).2.1
        have hTi : ∀ p ∈ srt ti, Tv p.val := fun p hp => tv_of ((hCl.tok ti hmi).2.1 p ((srt_perm ti).mem_iff.1 hp)).2.1
        have hll := (srt_perm tk).length_eq
        have hll2 := (srt_perm ti).length_eq
        have hll3 := (hCl.tok tk hmk).1
        have hll4 := (hCl.tok ti hmi).1
        have hqw := hqv.trans (hl0.trans hlw2)
        have hL := looks125 (srt tk) (srt ti) c xkA xiA _ xkn xkc xin xic ts.length cc w2 (hPk.le hqw) (hPi.le hqw) (hPc.le hlw2) hInk hIni (by omega) (by omega)
        rw [looks_key hTk hTi] at hL
        by_cases hck : at0 c kk = at0 c i
        · have hckI : ((at0 c kk : Nat) : Int) = ((at0 c i : Nat) : Int) := by rw [hck]
          by_cases hkey : keyS c (srt tk) = keyS c (srt ti)
          · rw [decide_eq_true hkey] at hL
            have hxk2 : (cI (nxt (ts.map srt) c))[kk]? = some ((at0 (nxt (ts.map srt) c) kk : Nat) : Int) := at0_cI (by rw [hnl]; exact hkn)
            have hgn : (((cI (nxt (ts.map srt) c)).take i).flatMap Ic ++ (Ic (x : Int) ++ reps (ts.length - (i + 1)) [Value.int .i64 0]))[kk]? = some (.int .i64 ((at0 (nxt (ts.map srt) c) kk : Nat) : Int)) := by
              rw [List.getElem?_append_left (by rw [hpre]; omega)]
              have := flat_get Ic_len ((cI (nxt (ts.map srt) c)).take i) kk ((at0 (nxt (ts.map srt) c) kk : Nat) : Int) (by rw [List.getElem?_take_of_lt hki]; exact hxk2) 0 (.int .i64 ((at0 (nxt (ts.map srt) c) kk : Nat) : Int)) rfl
              simpa using this
            have hatn := own_at hO2 hgn
            repeat' (first | (refine r_pure hT rfl rfl rfl rfl ?_) | (refine r_new hT rfl rfl rfl rfl ?_) | (refine r_write hT rfl rfl rfl ?_) | (refine r_nil ?_) | (refine q_nil ?_) | (refine r_indexN hT rfl rfl rfl rfl rfl rfl rfl rfl rfl hkn ?_) | (refine r_indexN hT rfl rfl rfl rfl rfl rfl rfl rfl rfl hlt ?_) | (refine r_load hT hatck rfl rfl rfl rfl rfl (Nat.add_zero _).symm rfl rfl rfl rfl rfl ?_) | (refine r_load hT hatci rfl rfl rfl rfl rfl (Nat.add_zero _).symm rfl rfl rfl rfl rfl ?_) | (refine r_load hT hatsk rfl rfl rfl rfl rfl (Nat.add_zero _).symm rfl rfl rfl rfl rfl ?_) | (refine r_load hT hatsi rfl rfl rfl rfl rfl (Nat.add_zero _).symm rfl rfl rfl rfl rfl ?_) | (refine c_yes rfl hge ?_) | (refine q_guard rfl rfl (fun _ => ?_) (fun hx => absurd hckI hx)) | (refine p_call hL rfl rfl rfl rfl rfl (YtkamfnmbidnhdaaDoor.hC _ rfl) rfl rfl rfl ?_) | (refine r_load hT hatn rfl rfl rfl rfl rfl (Nat.add_zero _).symm rfl rfl rfl rfl rfl ?_) | (refine r_store_row0 hT hO2 (w0 := w2) (fun _ _ => rfl) rfl rfl rfl rfl (by rw [hpre]) rfl rfl rfl rfl rfl rfl rfl (fun w3 hO4 hK4 => ?_)) | (refine r_arith rfl rfl rfl rfl rfl rfl rfl (by omega) ?_) | (with_reducible refine r_seq ?_) | (with_reducible refine x_then ?_) | (with_reducible refine r_region ?_) | (refine r_draw hM (by kernel_rfl) ?_) | (with_reducible refine r_skip ?_) | (with_reducible refine r_ret ?_) | (with_reducible refine x_then_ret ?_) | (with_reducible refine r_block ?_) | (with_reducible refine x_block ?_) | (with_reducible refine x_block_ret ?_) | (with_reducible refine r_exit ?_) | (with_reducible refine x_then_exit ?_) | (with_reducible refine x_block_here ?_) | (refine x_block_past rfl ?_) | (refine c_yes rfl (by omega) ?_) | (refine c_no rfl (by omega) ?_) | (refine c_no rfl (fun h => h rfl) ?_) | (refine r_cond_false rfl ?_) | (refine r_cond_true rfl ?_) | (refine r_cond_dec rfl (fun _ => ?_) (fun _ => ?_)) | (refine r_cond_true rfl ?_) | (refine r_cond_false rfl ?_) | (refine c_not rfl (fun _ => ?_) (fun _ => ?_)) | (refine r_off rfl rfl rfl ?_))
            refine x_round ((kk, at0 (nxt (ts.map srt) c) kk), w3) ⟨by dsimp only; omega, Mid.hit (x := 0) hlti hki (by rw [hsgk, hsgi]; exact hkey), fun z o hz => ?_, hO4⟩ (by dsimp only; omega) (into rfl ⟨rfl, rfl, rfl, rfl, rfl, rfl, rfl, rfl, rfl, trivial⟩ trivial rfl rfl)
            show w3 z = some o
            rw [hK4 z (fun e => by rw [e, hb9] at hz; cases hz)]
            exact hlw2 z o hz
          · rw [decide_eq_false hkey] at hL
            repeat' (first | (refine r_pure hT rfl rfl rfl rfl ?_) | (refine r_new hT rfl rfl rfl rfl ?_) | (refine r_write hT rfl rfl rfl ?_) | (refine r_nil ?_) | (refine q_nil ?_) | (refine r_indexN hT rfl rfl rfl rfl rfl rfl rfl rfl rfl hkn ?_) | (refine r_indexN hT rfl rfl rfl rfl rfl rfl rfl rfl rfl hlt ?_) | (refine r_load hT hatck rfl rfl rfl rfl rfl (Nat.add_zero _).symm rfl rfl rfl rfl rfl ?_) | (refine r_load hT hatci rfl rfl rfl rfl rfl (Nat.add_zero _).symm rfl rfl rfl rfl rfl ?_) | (refine r_load hT hatsk rfl rfl rfl rfl rfl (Nat.add_zero _).symm rfl rfl rfl rfl rfl ?_) | (refine r_load hT hatsi rfl rfl rfl rfl rfl (Nat.add_zero _).symm rfl rfl rfl rfl rfl ?_) | (refine c_yes rfl hge ?_) | (refine q_guard rfl rfl (fun _ => ?_) (fun hx => absurd hckI hx)) | (refine p_call hL rfl rfl rfl rfl rfl (YtkamfnmbidnhdaaDoor.hC _ rfl) rfl rfl rfl ?_) | (refine r_arith rfl rfl rfl rfl rfl rfl rfl (by omega) ?_) | (with_reducible refine r_seq ?_) | (with_reducible refine x_then ?_) | (with_reducible refine r_region ?_) | (refine r_draw hM (by kernel_rfl) ?_) | (with_reducible refine r_skip ?_) | (with_reducible refine r_ret ?_) | (with_reducible refine x_then_ret ?_) | (with_reducible refine r_block ?_) | (with_reducible refine x_block ?_) | (with_reducible refine x_block_ret ?_) | (with_reducible refine r_exit ?_) | (with_reducible refine x_then_exit ?_) | (with_reducible refine x_block_here ?_) | (refine x_block_past rfl ?_) | (refine c_yes rfl (by omega) ?_) | (refine c_no rfl (by omega) ?_) | (refine c_no rfl (fun h => h rfl) ?_) | (refine r_cond_false rfl ?_) | (refine r_cond_true rfl ?_) | (refine r_cond_dec rfl (fun _ => ?_) (fun _ => ?_)) | (refine r_cond_true rfl ?_) | (refine r_cond_false rfl ?_) | (refine c_not rfl (fun _ => ?_) (fun _ => ?_)) | (refine r_off rfl rfl rfl ?_))
            exact x_round ((kk, x), w2) ⟨by dsimp only; omega, hMid.miss hlti hki (by rw [hsgk, hsgi]; exact hkey), hlw2, hO2⟩ (by dsimp only; omega) (into rfl ⟨rfl, rfl, rfl, rfl, rfl, rfl, rfl, rfl, rfl, trivial⟩ trivial rfl rfl)
        · have hckI : ¬ ((at0 c kk : Nat) : Int) = ((at0 c i : Nat) : Int) := by omega
          have hkey : keyS c (srt tk) ≠ keyS c (srt ti) := fun e => hck (hRch.fine kk i hltk hlti (by rw [hsgk, hsgi]; exact e))
          repeat' (first | (refine r_pure hT rfl rfl rfl rfl ?_) | (refine r_new hT rfl rfl rfl rfl ?_) | (refine r_write hT rfl rfl rfl ?_) | (refine r_nil ?_) | (refine q_nil ?_) | (refine r_indexN hT rfl rfl rfl rfl rfl rfl rfl rfl rfl hkn ?_) | (refine r_indexN hT rfl rfl rfl rfl rfl rfl rfl rfl rfl hlt ?_) | (refine r_load hT hatck rfl rfl rfl rfl rfl (Nat.add_zero _).symm rfl rfl rfl rfl rfl ?_) | (refine r_load hT hatci rfl rfl rfl rfl rfl (Nat.add_zero _).symm rfl rfl rfl rfl rfl ?_) | (refine r_load hT hatsk rfl rfl rfl rfl rfl (Nat.add_zero _).symm rfl rfl rfl rfl rfl ?_) | (refine r_load hT hatsi rfl rfl rfl rfl rfl (Nat.add_zero _).symm rfl rfl rfl rfl rfl ?_) | (refine c_yes rfl hge ?_) | (refine r_offu rfl rfl rfl rfl rfl rfl ?_) | (refine q_guard rfl rfl (fun hx => absurd hx hckI) (fun _ => ?_)) | (refine r_arith rfl rfl rfl rfl rfl rfl rfl (by omega) ?_) | (with_reducible refine r_seq ?_) | (with_reducible refine x_then ?_) | (with_reducible refine r_region ?_) | (refine r_draw hM (by kernel_rfl) ?_) | (with_reducible refine r_skip ?_) | (with_reducible refine r_ret ?_) | (with_reducible refine x_then_ret ?_) | (with_reducible refine r_block ?_) | (with_reducible refine x_block ?_) | (with_reducible refine x_block_ret ?_) | (with_reducible refine r_exit ?_) | (with_reducible refine x_then_exit ?_) | (with_reducible refine x_block_here ?_) | (refine x_block_past rfl ?_) | (refine c_yes rfl (by omega) ?_) | (refine c_no rfl (by omega) ?_) | (refine c_no rfl (fun h => h rfl) ?_) | (refine r_cond_false rfl ?_) | (refine r_cond_true rfl ?_) | (refine r_cond_dec rfl (fun _ => ?_) (fun _ => ?_)) | (refine r_cond_true rfl ?_) | (refine r_cond_false rfl ?_) | (refine c_not rfl (fun _ => ?_) (fun _ => ?_)) | (refine r_off rfl rfl rfl ?_))
          exact x_round ((kk, x), w2) ⟨by dsimp only; omega, hMid.miss hlti hki (by rw [hsgk, hsgi]; exact hkey), hlw2, hO2⟩ (by dsimp only; omega) (into rfl ⟨rfl, rfl, rfl, rfl, rfl, rfl, rfl, rfl, rfl, trivial⟩ trivial rfl rfl)
    · obtain rfl : i = ts.length := by omega
      rw [List.take_of_length_le (by rw [cI_len, hnl]; exact Nat.le_refl _)] at hOn
      simp only [Nat.sub_self, reps, List.append_nil] at hOn
      have hoff9 : Off h (some ⟨b9, 0, none⟩) := fun b hb => by have e := Option.some.inj hb; subst e; exact none_of (hhv.trans hl0) hb9
      cases more with
      | false =>
        have e1 : nxt (ts.map srt) c = c := good_ext hnl hcl (fun j hj => by
          by_cases e : at0 (nxt (ts.map srt) c) j = at0 c j
          · exact e
          · exact absurd (hmo.2 ⟨j, hj, e⟩) (by simp))
        have e2 := hRch.stop e1
        repeat' (first | (refine r_pure hT rfl rfl rfl rfl ?_) | (refine r_new hT rfl rfl rfl rfl ?_) | (refine r_write hT rfl rfl rfl ?_) | (refine r_nil ?_) | (refine q_nil ?_) | (refine r_arith rfl rfl rfl rfl rfl rfl rfl (by omega) ?_) | (with_reducible refine r_seq ?_) | (with_reducible refine x_then ?_) | (with_reducible refine r_region ?_) | (refine r_draw hM (by kernel_rfl) ?_) | (with_reducible refine r_skip ?_) | (with_reducible refine r_ret ?_) | (with_reducible refine x_then_ret ?_) | (with_reducible refine r_block ?_) | (with_reducible refine x_block ?_) | (with_reducible refine x_block_ret ?_) | (with_reducible refine r_exit ?_) | (with_reducible refine x_then_exit ?_) | (with_reducible refine x_block_here ?_) | (refine x_block_past rfl ?_) | (refine c_yes rfl (by omega) ?_) | (refine c_no rfl (by omega) ?_) | (refine c_no rfl (fun h => h rfl) ?_) | (refine r_cond_false rfl ?_) | (refine r_cond_true rfl ?_) | (refine r_cond_dec rfl (fun _ => ?_) (fun _ => ?_)) | (refine r_cond_true rfl ?_) | (refine r_cond_false rfl ?_) | (refine c_not rfl (fun _ => ?_) (fun _ => ?_)) | (refine r_off rfl rfl rfl ?_) | (refine q_guard rfl rfl (fun _ => ?_) (fun _ => ?_)) | (refine q_guardn rfl rfl (fun _ => ?_) (fun _ => ?_)))
        rw [e1, ← e2] at hOn
        exact r_fin hT rfl ((some ⟨b9, 0, none⟩, ts.length) : Option Addr × Nat) rfl rfl rfl trivial rfl ⟨hOn, (hhv.trans hl0).trans hlw, hoff9⟩
      | true =>
        obtain ⟨f', e2, hR'⟩ := hRch.step hIn (fun e1 => by
          obtain ⟨j, _, h2⟩ := hmo.1 rfl
          rw [e1] at h2
          exact h2 rfl)
        repeat' (first | (refine r_pure hT rfl rfl rfl rfl ?_) | (refine r_new hT rfl rfl rfl rfl ?_) | (refine r_write hT rfl rfl rfl ?_) | (refine r_nil ?_) | (refine q_nil ?_) | (refine r_arith rfl rfl rfl rfl rfl rfl rfl (by omega) ?_) | (with_reducible refine r_seq ?_) | (with_reducible refine x_then ?_) | (with_reducible refine r_region ?_) | (refine r_draw hM (by kernel_rfl) ?_) | (with_reducible refine r_skip ?_) | (with_reducible refine r_ret ?_) | (with_reducible refine x_then_ret ?_) | (with_reducible refine r_block ?_) | (with_reducible refine x_block ?_) | (with_reducible refine x_block_ret ?_) | (with_reducible refine r_exit ?_) | (with_reducible refine x_then_exit ?_) | (with_reducible refine x_block_here ?_) | (refine x_block_past rfl ?_) | (refine c_yes rfl (by omega) ?_) | (refine c_no rfl (by omega) ?_) | (refine c_no rfl (fun h => h rfl) ?_) | (refine r_cond_false rfl ?_) | (refine r_cond_true rfl ?_) | (refine r_cond_dec rfl (fun _ => ?_) (fun _ => ?_)) | (refine r_cond_true rfl ?_) | (refine r_cond_false rfl ?_) | (refine c_not rfl (fun _ => ?_) (fun _ => ?_)) | (refine r_off rfl rfl rfl ?_) | (refine q_guard rfl rfl (fun _ => ?_) (fun _ => ?_)) | (refine q_guardn rfl rfl (fun _ => ?_) (fun _ => ?_)))
        exact x_round ((f', nxt (ts.map srt) c), (w, (some ⟨b9, 0, none⟩, ts.length))) ⟨hR', hl0.trans hlw, hOn, hoff9⟩ (by dsimp only; omega) (into rfl ⟨rfl, rfl, rfl, trivial⟩ trivial rfl rfl)
end Go.Proofs.YtkamfnmbidnhdaaDoor
/- The tables that a walk adds. -/
namespace Go.Sy
set_option linter.unusedVariables false
theorem goes_closed {ts : List (List Pr)} (hA : AllIn ts) (f : Nat) : ∀ (l : List Pr) (o : List Nat), (∀ p ∈ l, In ts.length p.val) → Nm ts.length o → ts.length - o.length < f → New ts o (goes ts f o l) ∧ ∀ p ∈ l, p.val.k = 4 → p.val.a.toNat ∈ goes ts f o l
  | [], o, _, _, _ => ⟨New.refl _ _, fun p hp => by cases hp⟩
  | p :: r, o, hl, hN, hf => by
    have h1 := go_closed hA f o p.val hN (hl p (.head _)) hf
    have hlen := (go_pre ts f o p.val).length_le
    have h2 := goes_closed hA f r (go ts f o p.val) (fun q hq => hl q (.tail _ hq)) (go_nm hA f o p.val hN (hl p (.head _))) (by omega)
    refine ⟨h1.trans h2.1 (goes_pre ts f r _), fun q hq h4 => ?_⟩
    rcases List.mem_cons.1 hq with rfl | hq
    · obtain ⟨f', rfl⟩ : ∃ f', f = f' + 1 := ⟨f - 1, by omega⟩
      exact (goes_pre ts _ r _).subset (go_mem ts f' o q.val h4)
    · exact h2.2 q hq h4
def cNew (ts : List (List Pr)) (ord O : List Nat) : List (List Pr) := (O.drop ord.length).map fun a => (ts.getD a []).map (nPr O)
theorem cNew_refl (ts : List (List Pr)) (O : List Nat) : cNew ts O O = [] := by simp [cNew]
theorem cNew_len (ts : List (List Pr)) (ord O : List Nat) : (cNew ts ord O).length = O.length - ord.length := by simp [cNew]
theorem cNew_nil (ts : List (List Pr)) (O : List Nat) : cNew ts [] O = cTs ts O := by simp [cNew, cTs]
theorem mem_drop_new {a : Nat} {ord b : List Nat} (hn : b.Nodup) (hp : ord <+: b) (ha : a ∈ b.drop ord.length) : a ∉ ord := by
  obtain ⟨e, rfl⟩ := hp
  rw [List.drop_left' rfl] at ha
  exact fun h => (List.nodup_append.1 hn).2.2 a h a ha rfl
theorem nPr_pre {b c : List Nat} (hp : b <+: c) {t : List Pr} (h : ∀ p ∈ t, p.val.k = 4 → p.val.a.toNat ∈ b) : t.map (nPr c) = t.map (nPr b) :=
  List.map_congr_left fun p hpt => by unfold nPr; rw [ren_pre hp (h p hpt)]
theorem cNew_trans {ts : List (List Pr)} {ord b c : List Nat} (h1 : ord <+: b) (h2 : b <+: c) (hN : Nm ts.length b) (hcl : New ts ord b) : cNew ts ord c = cNew ts ord b ++ cNew ts b c := by
  have hl := h1.length_le
  obtain ⟨e, he⟩ := h2
  have hd : c.drop ord.length = b.drop ord.length ++ c.drop b.length := by
    rw [← he, List.drop_append_of_le_length hl, List.drop_left' rfl]
  unfold cNew
  rw [hd, List.map_append]
  congr 1
  refine List.map_congr_left fun a ha => ?_
  have hab : a ∈ b := List.mem_of_mem_drop ha
  have hlt := hN.lt a hab
  rw [List.getD_eq_getElem?_getD, List.getElem?_eq_getElem hlt]
  exact nPr_pre ⟨e, he⟩ (fun p hp h4 => hcl a hab (mem_drop_new hN.nodup h1 ha) _ (List.getElem?_eq_getElem hlt) p hp h4)
theorem cNew_new {ts : List (List Pr)} {ord O : List Nat} {a : Nat} {t : List Pr} (h : ord ++ [a] <+: O) (ht : ts[a]? = some t) : cNew ts ord O = t.map (nPr O) :: cNew ts (ord ++ [a]) O := by
  obtain ⟨e, rfl⟩ := h
  unfold cNew
  have h1 : (ord ++ [a] ++ e).drop ord.length = a :: e := by rw [List.append_assoc, List.drop_left' rfl]; rfl
  have h2 : (ord ++ [a] ++ e).drop (ord ++ [a]).length = e := List.drop_left' rfl
  rw [h1, h2, List.map_cons, List.getD_eq_getElem?_getD, ht]
  rfl
theorem goes_nPr {ts : List (List Pr)} (hA : AllIn ts) {f : Nat} {t : List Pr} {j : Nat} {p : Pr} {o : List Nat} (hp : t[j]? = some p) : goes ts f o (t.take (j + 1)) = go ts f (goes ts f o (t.take j)) p.val := by
  have : t.take (j + 1) = t.take j ++ [p] := by rw [List.take_add_one, hp]; rfl
  rw [this, goes_snoc]
end Go.Sy
