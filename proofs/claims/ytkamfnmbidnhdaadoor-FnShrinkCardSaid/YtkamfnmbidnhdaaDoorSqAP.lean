/- spec.l3classes. No condition. -/
import Derived.Test.YtkamfnmbidnhdaaDoorSqAO
set_option linter.unusedVariables false
set_option linter.unusedSimpArgs false
set_option linter.unusedSectionVars false
namespace Go.Proofs.YtkamfnmbidnhdaaDoor
open Go.Sy
set_option maxRecDepth 100000
set_option maxHeartbeats 8000000
set_option linter.unusedVariables false
set_option linter.unusedSimpArgs false
theorem reps_cons {n i : Nat} {z : List Value} (h : i < n) : reps (n - i) z = z ++ reps (n - (i + 1)) z := by
  obtain ⟨m, hm⟩ : ∃ m, n - i = m + 1 := ⟨n - i - 1, by omega⟩
  have : n - (i + 1) = m := by omega
  rw [hm, this]; rfl
def SRow (q : Hp) (hs : List Hd) (st : List (List Pr)) : Prop := ∀ (j : Nat) (x : Hd) (t : List Pr), hs[j]? = some x → st[j]? = some t → x.n ≤ x.c ∧ Pairs q x.A x.n t
theorem classes86 (ts : List (List Pr)) (A : Option Addr) (n cA : Nat) (h : Hp) (hP : Tabs h A n ts) (hCl : ClOk ts) :
    TriS Tryd.prog 86 [.v (.slice A n cA)] [] h (fun y : Option Addr × Nat => .v (.slice y.1 ts.length y.2)) (fun _ => []) (fun y h' => Own h' y.1 ts.length y.2 3 1 ((cI (cls (ts.map srt))).flatMap Ic) ∧ Le h h' ∧ Off h y.1) := by
  obtain rfl := hP.len
  have hnum := hCl.num
  have hstl : (ts.map srt).length = ts.length := List.length_map _
  have hIn := hCl.inSrt
  refine enterS Tryd.func86 rfl (n := 86) rfl rfl (fun k N => ?_)
  repeat' (first | (refine r_pure hT rfl rfl rfl rfl ?_) | (refine r_new hT rfl rfl rfl rfl ?_) | (refine r_write hT rfl rfl rfl ?_) | (refine r_nil ?_) | (refine q_nil ?_) | (refine r_arith rfl rfl rfl rfl rfl rfl rfl (by omega) ?_) | (with_reducible refine r_seq ?_) | (with_reducible refine x_then ?_) | (with_reducible refine r_region ?_) | (refine r_draw hM (by kernel_rfl) ?_) | (with_reducible refine r_skip ?_) | (with_reducible refine r_ret ?_) | (with_reducible refine x_then_ret ?_) | (with_reducible refine r_block ?_) | (with_reducible refine x_block ?_) | (with_reducible refine x_block_ret ?_) | (with_reducible refine r_exit ?_) | (with_reducible refine x_then_exit ?_) | (with_reducible refine x_block_here ?_) | (refine x_block_past rfl ?_) | (refine c_yes rfl (by omega) ?_) | (refine c_no rfl (by omega) ?_) | (refine c_no rfl (fun h => h rfl) ?_) | (refine r_cond_false rfl ?_) | (refine r_cond_true rfl ?_) | (refine r_cond_dec rfl (fun _ => ?_) (fun _ => ?_)) | (refine r_cond_true rfl ?_) | (refine r_cond_false rfl ?_) | (refine c_not rfl (fun _ => ?_) (fun _ => ?_)) | (refine r_off rfl rfl rfl ?_) | (refine q_guard rfl rfl (fun _ => ?_) (fun _ => ?_)) | (refine q_guardn rfl rfl (fun _ => ?_) (fun _ => ?_)))
  refine r_loop (γ := (Nat × Hp) × ((Option Addr × Nat) × (List Hd × Hp))) (fun g => g.1.1 ≤ ts.length ∧ Le h g.2.2.2 ∧ Le g.2.2.2 g.1.2 ∧ Off g.2.2.2 g.2.1.1 ∧ Own g.1.2 g.2.1.1 g.1.1 g.2.1.2 59 1 (g.2.2.1.flatMap Hd.v) ∧ g.2.2.1.length = g.1.1 ∧ SRow g.2.2.2 g.2.2.1 (ts.map srt))
    (fun g => [(0, .v (.slice A ts.length cA)), (3, .v (.slice g.2.1.1 g.1.1 g.2.1.2)), (11, .v (.slice A ts.length cA)), (12, .v (.int .i64 (ts.length : Int))), (13, .v (.int .i64 (g.1.1 : Int)))]) (fun _ => []) (fun g => g.1.2) (fun g => ts.length - g.1.1)
    ((0, h), ((none, 0), ([], h))) ⟨Nat.zero_le _, Le.refl h, Le.refl h, off_nil, own_nil, rfl, fun j x t hx => by simp at hx⟩ (into rfl ⟨rfl, rfl, rfl, rfl, rfl, trivial⟩ trivial rfl rfl) ?_
  rintro ⟨⟨i, v⟩, ⟨⟨As, cs⟩, ⟨hs, q⟩⟩⟩ ⟨hi, hhq, hqv, hoq, hO, hlen, hS⟩
  dsimp only at *
  by_cases hlt : i < ts.length
  · obtain ⟨b, off, A1, n1, c1, t, rfl, hd, hix, hm, hat, hc1, hp1⟩ := (hP.le (hhq.trans hqv)).elem hlt
    have htl := (hCl.tok t hm).1
    repeat' (first | (refine r_pure hT rfl rfl rfl rfl ?_) | (refine r_new hT rfl rfl rfl rfl ?_) | (refine r_write hT rfl rfl rfl ?_) | (refine r_nil ?_) | (refine q_nil ?_) | (refine r_indexN hT rfl rfl rfl rfl rfl rfl rfl rfl rfl hlt ?_) | (refine r_load hT hat rfl rfl rfl rfl rfl (Nat.add_zero _).symm rfl rfl rfl rfl rfl ?_) | (refine r_call (sorted90 t A1 n1 c1 _ hp1 (fun p hp => hCl.ky hm hp) (by omega)) rfl rfl rfl rfl rfl (hC _ rfl) rfl rfl (fun y u1 hy => ?_)) | (refine r_bslice hT (ps := [(0, .tmp 19)]) rfl rfl rfl rfl rfl rfl rfl (by simp) rfl rfl (by decide) (fun b3 hb3 => ?_)) | ((refine r_append hT (cs := hs.flatMap Hd.v) (news := [(⟨y.1, t.length, y.2⟩ : Hd)].flatMap Hd.v) rfl rfl rfl rfl rfl rfl rfl rfl rfl rfl rfl (own_fr (hO.le fun b o _ => hy.choose_spec.2.2.2.1 b o) hb3) (sl_blk (upd_here ..) rfl) (fun v hv => by simp only [List.flatMap_cons, List.flatMap_nil, List.append_nil, Hd.v, List.mem_singleton] at hv; subst hv; rfl) (by dsimp only; omega) (by omega) (fun A' c' u3 hO3 hG3 => ?_))) | (refine r_arith rfl rfl rfl rfl rfl rfl rfl (by omega) ?_) | (with_reducible refine r_seq ?_) | (with_reducible refine x_then ?_) | (with_reducible refine r_region ?_) | (refine r_draw hM (by kernel_rfl) ?_) | (with_reducible refine r_skip ?_) | (with_reducible refine r_ret ?_) | (with_reducible refine x_then_ret ?_) | (with_reducible refine r_block ?_) | (with_reducible refine x_block ?_) | (with_reducible refine x_block_ret ?_) | (with_reducible refine r_exit ?_) | (with_reducible refine x_then_exit ?_) | (with_reducible refine x_block_here ?_) | (refine x_block_past rfl ?_) | (refine c_yes rfl (by omega) ?_) | (refine c_no rfl (by omega) ?_) | (refine c_no rfl (fun h => h rfl) ?_) | (refine r_cond_false rfl ?_) | (refine r_cond_true rfl ?_) | (refine r_cond_dec rfl (fun _ => ?_) (fun _ => ?_)) | (refine r_cond_true rfl ?_) | (refine r_cond_false rfl ?_) | (refine c_not rfl (fun _ => ?_) (fun _ => ?_)) | (refine r_off rfl rfl rfl ?_) | (refine q_guard rfl rfl (fun _ => ?_) (fun _ => ?_)) | (refine q_guardn rfl rfl (fun _ => ?_) (fun _ => ?_)))
    obtain ⟨ys, hy1, hy2, hy3, hy4, hy5⟩ := hy
    obtain rfl := hCl.uniq hm hy1 hy2
    have hAy : ∀ z, blk As = some z → blk y.1 ≠ some z := fun z hz e => by
      cases As with
      | none => cases hz
      | some a =>
        obtain ⟨_, arr, h2, _⟩ := hO.row a rfl
        have e1 : a.block = z := Option.some.inj hz
        rw [e1, hy5 z e] at h2; cases h2
    have hqp : Le q (ptw u1 As) := fun z o hz => by
      unfold ptw
      rw [if_neg (fun e => by rw [hoq z e] at hz; cases hz)]
      exact hy4 z o (hqv z o hz)
    have hk3 := hG3 (ptw u1 As) ((ptw_le u1 As).trans (le_frsh (Le.refl u1) hb3)) (ptw_off u1 As)
    refine x_round ((i + 1, u3), ((A', c'), (hs ++ [⟨y.1, t.length, y.2⟩], ptw u1 As))) ⟨hlt, hhq.trans hqp, hk3.1, hk3.2, by simpa using hO3, by simp [hlen], fun j x t' hx ht' => ?_⟩ (by dsimp only; omega) (into rfl ⟨rfl, rfl, rfl, rfl, rfl, trivial⟩ trivial rfl rfl)
    by_cases hj : j < hs.length
    · rw [List.getElem?_append_left hj] at hx
      obtain ⟨g1, g2⟩ := hS j x t' hx ht'
      exact ⟨g1, g2.le hqp⟩
    · have hj2 : j = hs.length := by
        have := (List.getElem?_eq_some_iff.1 hx).1
        simp at this; omega
      subst hj2
      rw [List.getElem?_append_right (Nat.le_refl _)] at hx
      simp at hx
      subst hx
      rw [hlen, ClOk.srt_mem hix] at ht'
      have e5 := Option.some.inj ht'
      subst e5
      have hyc := hy3.cap
      exact ⟨hyc, (own_pairs (hy3.le fun b o hb ho => by show ptw u1 As b = some o; unfold ptw; rw [if_neg (fun e => hAy b e hb)]; exact ho))⟩
  · obtain rfl : i = ts.length := by omega
    repeat' (first | (refine r_pure hT rfl rfl rfl rfl ?_) | (refine r_new hT rfl rfl rfl rfl ?_) | (refine r_write hT rfl rfl rfl ?_) | (refine r_nil ?_) | (refine q_nil ?_) | (refine r_makeN (t := 25) hT rfl rfl rfl rfl rfl rfl rfl (by simp) rfl rfl (by dsimp only; omega) (by omega) (fun b1 hb1 => ?_)) | (refine r_arith rfl rfl rfl rfl rfl rfl rfl (by omega) ?_) | (with_reducible refine r_seq ?_) | (with_reducible refine x_then ?_) | (with_reducible refine r_region ?_) | (refine r_draw hM (by kernel_rfl) ?_) | (with_reducible refine r_skip ?_) | (with_reducible refine r_ret ?_) | (with_reducible refine x_then_ret ?_) | (with_reducible refine r_block ?_) | (with_reducible refine x_block ?_) | (with_reducible refine x_block_ret ?_) | (with_reducible refine r_exit ?_) | (with_reducible refine x_then_exit ?_) | (with_reducible refine x_block_here ?_) | (refine x_block_past rfl ?_) | (refine c_yes rfl (by omega) ?_) | (refine c_no rfl (by omega) ?_) | (refine c_no rfl (fun h => h rfl) ?_) | (refine r_cond_false rfl ?_) | (refine r_cond_true rfl ?_) | (refine r_cond_dec rfl (fun _ => ?_) (fun _ => ?_)) | (refine r_cond_true rfl ?_) | (refine r_cond_false rfl ?_) | (refine c_not rfl (fun _ => ?_) (fun _ => ?_)) | (refine r_off rfl rfl rfl ?_) | (refine q_guard rfl rfl (fun _ => ?_) (fun _ => ?_)) | (refine q_guardn rfl rfl (fun _ => ?_) (fun _ => ?_)))
    replace hb1 : v b1 = none := hb1
    have hl1 := le_frsh (o := (.cells (reps ts.length [Value.int .i64 0]).toArray 3 (0, 0))) (Le.refl v) hb1
    have hO1 : Own (upd v b1 (.cells (reps ts.length [Value.int .i64 0]).toArray 3 (0, 0))) (some ⟨b1, 0, none⟩) ts.length ts.length 3 1 (reps ts.length [Value.int .i64 0]) := own_made rfl
    have hhv := hhq.trans hqv
    have hSR : Rd Hd.v 1 v As ts.length hs := ⟨hlen.symm, hO.sl⟩
    refine r_loop (γ := (Nat × List Nat) × (Hp × (Option Addr × Nat))) (fun g => Rch (ts.map srt) g.1.1 g.1.2 ∧ Le v g.2.1 ∧ Own g.2.1 g.2.2.1 ts.length g.2.2.2 3 1 ((cI g.1.2).flatMap Ic) ∧ Off h g.2.2.1)
      (fun g => [(0, .v (.slice A ts.length cA)), (3, .v (.slice As ts.length cs)), (6, .v (.slice g.2.2.1 ts.length g.2.2.2))]) (fun _ => []) (fun g => g.2.1) (fun g => g.1.1)
      ((ts.length + 1, List.replicate ts.length 0), (_, (some ⟨b1, 0, none⟩, ts.length)))
      ⟨by have := rch_start (ts.map srt); rwa [hstl] at this, hl1, by dsimp only; rw [cI_zero]; exact hO1, fun b hb => by have e := Option.some.inj hb; subst e; exact none_of hhv hb1⟩ (into rfl ⟨rfl, rfl, rfl, trivial⟩ trivial rfl rfl) ?_
    rintro ⟨⟨f, c⟩, ⟨u0, ⟨Ac, cc⟩⟩⟩ ⟨hRch, hl0, hOw, hoff⟩
    dsimp only at *
    have hGc := hRch.good
    rw [hstl] at hGc
    have hcl := hGc.len
    have hPc : Ints u0 Ac ts.length (cI c) := ⟨by rw [cI_len, hcl], hOw.sl⟩
    have hnl : (nxt (ts.map srt) c).length = ts.length := by rw [nxt_len, hstl]
    repeat' (first | (refine r_pure hT rfl rfl rfl rfl ?_) | (refine r_new hT rfl rfl rfl rfl ?_) | (refine r_write hT rfl rfl rfl ?_) | (refine r_nil ?_) | (refine q_nil ?_) | (refine r_makeN (t := 25) hT rfl rfl rfl rfl rfl rfl rfl (by simp) rfl rfl (by dsimp only; omega) (by omega) (fun b9 hb9 => ?_)) | (refine r_arith rfl rfl rfl rfl rfl rfl rfl (by omega) ?_) | (with_reducible refine r_seq ?_) | (with_reducible refine x_then ?_) | (with_reducible refine r_region ?_) | (refine r_draw hM (by kernel_rfl) ?_) | (with_reducible refine r_skip ?_) | (with_reducible refine r_ret ?_) | (with_reducible refine x_then_ret ?_) | (with_reducible refine r_block ?_) | (with_reducible refine x_block ?_) | (with_reducible refine x_block_ret ?_) | (with_reducible refine r_exit ?_) | (with_reducible refine x_then_exit ?_) | (with_reducible refine x_block_here ?_) | (refine x_block_past rfl ?_) | (refine c_yes rfl (by omega) ?_) | (refine c_no rfl (by omega) ?_) | (refine c_no rfl (fun h => h rfl) ?_) | (refine r_cond_false rfl ?_) | (refine r_cond_true rfl ?_) | (refine r_cond_dec rfl (fun _ => ?_) (fun _ => ?_)) | (refine r_cond_true rfl ?_) | (refine r_cond_false rfl ?_) | (refine c_not rfl (fun _ => ?_) (fun _ => ?_)) | (refine r_off rfl rfl rfl ?_) | (refine q_guard rfl rfl (fun _ => ?_) (fun _ => ?_)) | (refine q_guardn rfl rfl (fun _ => ?_) (fun _ => ?_)))
    replace hb9 : u0 b9 = none := hb9
    refine r_loop (γ := (Nat × Hp) × Bool) (fun g => g.1.1 ≤ ts.length ∧ Le u0 g.1.2 ∧ Own g.1.2 (some ⟨b9, 0, none⟩) ts.length ts.length 3 1 (((cI (nxt (ts.map srt) c)).take g.1.1).flatMap Ic ++ reps (ts.length - g.1.1) [Value.int .i64 0]) ∧ (g.2 = true ↔ ∃ j, j < g.1.1 ∧ at0 (nxt (ts.map srt) c) j ≠ at0 c j))
      (fun g => [(0, .v (.slice A ts.length cA)), (3, .v (.slice As ts.length cs)), (6, .v (.slice Ac ts.length cc)), (7, .v (.slice (some ⟨b9, 0, none⟩) ts.length ts.length)), (8, .v (.bool g.2)), (30, .v (.int .i64 (ts.length : Int))), (31, .v (.int .i64 (g.1.1 : Int)))]) (fun _ => []) (fun g => g.1.2) (fun g => ts.length - g.1.1)
      ((0, _), false) ⟨Nat.zero_le _, le_frsh (Le.refl u0) hb9, by simp only [List.take_zero, List.flatMap_nil, List.nil_append, Nat.sub_zero]; exact own_made rfl, by simp⟩ (into rfl ⟨rfl, rfl, rfl, rfl, rfl, rfl, rfl, trivial⟩ trivial rfl rfl) ?_
    rintro ⟨⟨i, w⟩, more⟩ ⟨hi, hlw, hOn, hmo⟩
    dsimp only at *
    by_cases hlt : i < ts.length
    · have hxn : (cI (nxt (ts.map srt) c))[i]? = some ((at0 (nxt (ts.map srt) c) i : Nat) : Int) := at0_cI (by rw [hnl]; exact hlt)
      have hpre : (((cI (nxt (ts.map srt) c)).take i).flatMap Ic).length = i * 1 := by rw [flat_length Ic_len, List.length_take, cI_len, hnl, Nat.min_eq_left (by omega)]
      rw [reps_cons hlt] at hOn
      obtain ⟨bc, offc, pc, rfl, _, hixc, _, hatc0⟩ := hPc.elem Ic_len (i := i) (by rw [cI_len, hcl]; exact hlt)
      obtain rfl := cI_get hixc
      obtain ⟨bS, offS, xi, rfl, _, hxi, _, hatS⟩ := hSR.elem Hd.v_len (i := i) (by omega)
      obtain ⟨ti, hti⟩ : ∃ t, ts[i]? = some t := ⟨_, List.getElem?_eq_getElem hlt⟩
      have hsti := ClOk.srt_mem hti
      obtain ⟨hxic, hPi⟩ := hS i xi (srt ti) hxi hsti
      obtain ⟨xiA, xin, xic⟩ := xi
      dsimp only at hxic hPi
      have hlti : i < (ts.map srt).length := by rw [hstl]; exact hlt
      have hmi := List.mem_of_getElem? hti
      have hsgi : (ts.map srt)[i] = srt ti := (List.getElem?_eq_some_iff.1 hsti).2
      repeat' (first | (refine r_pure hT rfl rfl rfl rfl ?_) | (refine r_new hT rfl rfl rfl rfl ?_) | (refine r_write hT rfl rfl rfl ?_) | (refine r_nil ?_) | (refine q_nil ?_) | (refine r_indexN hT rfl rfl rfl rfl rfl rfl rfl rfl rfl hlt ?_) | (refine r_store_row0 hT hOn (w0 := w) (fun _ _ => rfl) rfl rfl rfl rfl (by rw [hpre]) rfl rfl rfl rfl rfl rfl rfl (fun w1 hO1 hK1 => ?_)) | (refine r_arith rfl rfl rfl rfl rfl rfl rfl (by omega) ?_) | (with_reducible refine r_seq ?_) | (with_reducible refine x_then ?_) | (with_reducible refine r_region ?_) | (refine r_draw hM (by kernel_rfl) ?_) | (with_reducible refine r_skip ?_) | (with_reducible refine r_ret ?_) | (with_reducible refine x_then_ret ?_) | (with_reducible refine r_block ?_) | (with_reducible refine x_block ?_) | (with_reducible refine x_block_ret ?_) | (with_reducible refine r_exit ?_) | (with_reducible refine x_then_exit ?_) | (with_reducible refine x_block_here ?_) | (refine x_block_past rfl ?_) | (refine c_yes rfl (by omega) ?_) | (refine c_no rfl (by omega) ?_) | (refine c_no rfl (fun h => h rfl) ?_) | (refine r_cond_false rfl ?_) | (refine r_cond_true rfl ?_) | (refine r_cond_dec rfl (fun _ => ?_) (fun _ => ?_)) | (refine r_cond_true rfl ?_) | (refine r_cond_false rfl ?_) | (refine c_not rfl (fun _ => ?_) (fun _ => ?_)) | (refine r_off rfl rfl rfl ?_) | (refine q_guard rfl rfl (fun _ => ?_) (fun _ => ?_)) | (refine q_guardn rfl rfl (fun _ => ?_) (fun _ => ?_)))
      have hlw1 : Le u0 w1 := fun x o hx => by rw [hK1 x (fun e => by rw [e, hb9] at hx; cases hx)]; exact hlw x o hx
      refine r_loop (γ := (Nat × Nat) × Hp) (fun g => g.1.1 ≤ i ∧ Mid (ts.map srt) c i g.1.1 g.1.2 ∧ Le u0 g.2 ∧ Own g.2 (some ⟨b9, 0, none⟩) ts.length ts.length 3 1 (((cI (nxt (ts.map srt) c)).take i).flatMap Ic ++ (Ic (g.1.2 : Int) ++ reps (ts.length - (i + 1)) [Value.int .i64 0])))
        (fun g => [(0, .v (.slice A ts.length cA)), (3, .v (.slice (some ⟨bS, offS, none⟩) ts.length cs)), (6, .v (.slice (some ⟨bc, offc, none⟩) ts.length cc)), (7, .v (.slice (some ⟨b9, 0, none⟩) ts.length ts.length)), (8, .v (.bool more)), (30, .v (.int .i64 (ts.length : Int))), (31, .v (.int .i64 (i : Int))), (9, .v (.int .i64 (i : Int))), (10, .v (.int .i64 ((g.1.1 : Int) - 1)))]) (fun _ => []) (fun g => g.2) (fun g => g.1.1)
        ((i, i), w1) ⟨Nat.le_refl _, Mid.start _ _ _, hlw1, hO1⟩ (into rfl ⟨rfl, rfl, rfl, rfl, rfl, rfl, rfl, rfl, rfl, trivial⟩ trivial rfl rfl) ?_
      rintro ⟨⟨k1, x⟩, w2⟩ ⟨hk1, hMid, hlw2, hO2⟩
      dsimp only at *
      have hatci := hatc0.le hlw2
      have hatsi := hatS.le (hl0.trans hlw2)
      by_cases h0 : k1 = 0
      · have hno : ¬ ((k1 : Int) - 1 ≥ 0) := by omega
        have hx : x = at0 (nxt (ts.map srt) c) i := by rw [h0] at hMid; exact hMid.fin hlti
        subst hx
        have hO3 : Own w2 (some ⟨b9, 0, none⟩) ts.length ts.length 3 1 (((cI (nxt (ts.map srt) c)).take (i + 1)).flatMap Ic ++ reps (ts.length - (i + 1)) [Value.int .i64 0]) := by
          rw [take_snoc hxn, List.flatMap_append, List.append_assoc]
          simpa using hO2
        have hgn : (((cI (nxt (ts.map srt) c)).take i).flatMap Ic ++ (Ic ((at0 (nxt (ts.map srt) c) i : Nat) : Int) ++ reps (ts.length - (i + 1)) [Value.int .i64 0]))[i]? = some (.int .i64 ((at0 (nxt (ts.map srt) c) i : Nat) : Int)) := by
          rw [List.getElem?_append_right (by rw [hpre]; omega), hpre, Nat.mul_one, Nat.sub_self]; rfl
        have hatn := own_at hO2 hgn
        by_cases hne : at0 (nxt (ts.map srt) c) i = at0 c i
        · have hneI : ((at0 (nxt (ts.map srt) c) i : Nat) : Int) = ((at0 c i : Nat) : Int) := by rw [hne]
          repeat' (first | (refine r_pure hT rfl rfl rfl rfl ?_) | (refine r_new hT rfl rfl rfl rfl ?_) | (refine r_write hT rfl rfl rfl ?_) | (refine r_nil ?_) | (refine q_nil ?_) | (refine c_no rfl hno ?_) | (refine r_indexN hT rfl rfl rfl rfl rfl rfl rfl rfl rfl hlt ?_) | (refine r_load hT hatn rfl rfl rfl rfl rfl (Nat.add_zero _).symm rfl rfl rfl rfl rfl ?_) | (refine r_load hT hatci rfl rfl rfl rfl rfl (Nat.add_zero _).symm rfl rfl rfl rfl rfl ?_) | (refine c_no rfl (fun h => h hneI) ?_) | (refine r_arith rfl rfl rfl rfl rfl rfl rfl (by omega) ?_) | (with_reducible refine r_seq ?_) | (with_reducible refine x_then ?_) | (with_reducible refine r_region ?_) | (refine r_draw hM (by kernel_rfl) ?_) | (with_reducible refine r_skip ?_) | (with_reducible refine r_ret ?_) | (with_reducible refine x_then_ret ?_) | (with_reducible refine r_block ?_) | (with_reducible refine x_block ?_) | (with_reducible refine x_block_ret ?_) | (with_reducible refine r_exit ?_) | (with_reducible refine x_then_exit ?_) | (with_reducible refine x_block_here ?_) | (refine x_block_past rfl ?_) | (refine c_yes rfl (by omega) ?_) | (refine c_no rfl (by omega) ?_) | (refine c_no rfl (fun h => h rfl) ?_) | (refine r_cond_false rfl ?_) | (refine r_cond_true rfl ?_) | (refine r_cond_dec rfl (fun _ => ?_) (fun _ => ?_)) | (refine r_cond_true rfl ?_) | (refine r_cond_false rfl ?_) | (refine c_not rfl (fun _ => ?_) (fun _ => ?_)) | (refine r_off rfl rfl rfl ?_) | (refine q_guard rfl rfl (fun _ => ?_) (fun _ => ?_)) | (refine q_guardn rfl rfl (fun _ => ?_) (fun _ => ?_)))
          exact x_round ((i + 1, w2), more) ⟨hlt, hlw2, hO3, hmo.trans ⟨fun ⟨j, h1, h2⟩ => ⟨j, Nat.lt_succ_of_lt h1, h2⟩, fun ⟨j, h1, h2⟩ => ⟨j, (Nat.lt_succ_iff_lt_or_eq.1 h1).elim id (fun h3 => absurd (by rw [h3]; exact hne) h2), h2⟩⟩⟩ (by dsimp only; omega) (into rfl ⟨rfl, rfl, rfl, rfl, rfl, rfl, rfl, trivial⟩ trivial rfl rfl)
        · have hneI : ¬ ((at0 (nxt (ts.map srt) c) i : Nat) : Int) = ((at0 c i : Nat) : Int) := by omega
          repeat' (first | (refine r_pure hT rfl rfl rfl rfl ?_) | (refine r_new hT rfl rfl rfl rfl ?_) | (refine r_write hT rfl rfl rfl ?_) | (refine r_nil ?_) | (refine q_nil ?_) | (refine c_no rfl hno ?_) | (refine r_indexN hT rfl rfl rfl rfl rfl rfl rfl rfl rfl hlt ?_) | (refine r_load hT hatn rfl rfl rfl rfl rfl (Nat.add_zero _).symm rfl rfl rfl rfl rfl ?_) | (refine r_load hT hatci rfl rfl rfl rfl rfl (Nat.add_zero _).symm rfl rfl rfl rfl rfl ?_) | (refine c_yes rfl hneI ?_) | (refine r_arith rfl rfl rfl rfl rfl rfl rfl (by omega) ?_) | (with_reducible refine r_seq ?_) | (with_reducible refine x_then ?_) | (with_reducible refine r_region ?_) | (refine r_draw hM (by kernel_rfl) ?_) | (with_reducible refine r_skip ?_) | (with_reducible refine r_ret ?_) | (with_reducible refine x_then_ret ?_) | (with_reducible refine r_block ?_) | (with_reducible refine x_block ?_) | (with_reducible refine x_block_ret ?_) | (with_reducible refine r_exit ?_) | (with_reducible refine x_then_exit ?_) | (with_reducible refine x_block_here ?_) | (refine x_block_past rfl ?_) | (refine c_yes rfl (by omega) ?_) | (refine c_no rfl (by omega) ?_) | (refine c_no rfl (fun h => h rfl) ?_) | (refine r_cond_false rfl ?_) | (refine r_cond_true rfl ?_) | (refine r_cond_dec rfl (fun _ => ?_) (fun _ => ?_)) | (refine r_cond_true rfl ?_) | (refine r_cond_false rfl ?_) | (refine c_not rfl (fun _ => ?_) (fun _ => ?_)) | (refine r_off rfl rfl rfl ?_) | (refine q_guard rfl rfl (fun _ => ?_) (fun _ => ?_)) | (refine q_guardn rfl rfl (fun _ => ?_) (fun _ => ?_)))
          exact x_round ((i + 1, w2), true) ⟨hlt, hlw2, hO3, ⟨fun _ => ⟨i, Nat.lt_succ_self _, hne⟩, fun _ => rfl⟩⟩ (by dsimp only; omega) (into rfl ⟨rfl, rfl, rfl, rfl, rfl, rfl, rfl, trivial⟩ trivial rfl rfl)
      · obtain ⟨kk, rfl⟩ : ∃ kk, k1 = kk + 1 := ⟨k1 - 1, by omega⟩
        have hkk : ((kk + 1 : Nat) : Int) - 1 = (kk : Int) := by omega
        rw [hkk]
        have hge : (kk : Int) ≥ 0 := by omega
        have hkn : kk < ts.length := by omega
        have hki : kk < i := by omega
        obtain ⟨bc2, offc2, pc2, ec, _, hixc2, _, hatck⟩ := hPc.elem Ic_len (i := kk) (by rw [cI_len, hcl]; exact hkn)
        have ec2 := Option.some.inj ec
        simp only [Addr.mk.injEq] at ec2
        obtain ⟨rfl, rfl, _⟩ := ec2
        obtain rfl := cI_get hixc2
        replace hatck := hatck.le hlw2
        obtain ⟨bS2, offS2, xk, eS, _, hxk, _, hatsk⟩ := hSR.elem Hd.v_len (i := kk) (by omega)
        have eS2 := Option.some.inj eS
        simp only [Addr.mk.injEq] at eS2
        obtain ⟨rfl, rfl, _⟩ := eS2
        replace hatsk := hatsk.le (hl0.trans hlw2)
        obtain ⟨tk, htk⟩ : ∃ t, ts[kk]? = some t := ⟨_, List.getElem?_eq_getElem hkn⟩
        have hstk := ClOk.srt_mem htk
        obtain ⟨hxkc, hPk⟩ := hS kk xk (srt tk) hxk hstk
        obtain ⟨xkA, xkn, xkc⟩ := xk
        dsimp only at hxkc hPk
        have hltk : kk < (ts.map srt).length := by rw [hstl]; exact hkn
        have hmk := List.mem_of_getElem? htk
        have hsgk : (ts.map srt)[kk] = srt tk := (List.getElem?_eq_some_iff.1 hstk).2
        have hInk : ∀ p ∈ srt tk, In c.length p.val := fun p hp => by rw [hcl, ← hstl]; exact hIn _ (List.mem_of_getElem? hstk) p hp
        have hIni : ∀ p ∈ srt ti, In c.length p.val := fun p hp => by rw [hcl, ← hstl]; exact hIn _ (List.mem_of_getElem? hsti) p hp
        have hTk : ∀ p ∈ srt tk, Tv p.val := fun p hp => tv_of ((hCl.tok tk hmk).2.1 p ((srt_perm tk).mem_iff.1 hp)).2.1
        have hTi : ∀ p ∈ srt ti, Tv p.val := fun p hp => tv_of ((hCl.tok ti hmi).2.1 p ((srt_perm ti).mem_iff.1 hp)).2.1
        have hll := (srt_perm tk).length_eq
        have hll2 := (srt_perm ti).length_eq
        have hll3 := (hCl.tok tk hmk).1
        have hll4 := (hCl.tok ti hmi).1
        have hqw := hqv.trans (hl0.trans hlw2)
        have hL := looks125 (srt tk) (srt ti) c xkA xiA _ xkn xkc xin xic ts.length cc w2 (hPk.le hqw) (hPi.le hqw) (hPc.le hlw2) hInk hIni (by omega) (by omega)
        rw [looks_key hTk hTi] at hL
        by_cases hck : at0 c kk = at0 c i
        · have hckI : ((at0 c kk : Nat) : Int) = ((at0 c i : Nat) : Int) := by rw [hck]
          by_cases hkey : keyS c (srt tk) = keyS c (srt ti)
          · rw [decide_eq_true hkey] at hL
            have hxk2 : (cI (nxt (ts.map srt) c))[kk]? = some ((at0 (nxt (ts.map srt) c) kk : Nat) : Int) := at0_cI (by rw [hnl]; exact hkn)
            have hgn : (((cI (nxt (ts.map srt) c)).take i).flatMap Ic ++ (Ic (x : Int) ++ reps (ts.length - (i + 1)) [Value.int .i64 0]))[kk]? = some (.int .i64 ((at0 (nxt (ts.map srt) c) kk : Nat) : Int)) := by
              rw [List.getElem?_append_left (by rw [hpre]; omega)]
              have := flat_get Ic_len ((cI (nxt (ts.map srt) c)).take i) kk ((at0 (nxt (ts.map srt) c) kk : Nat) : Int) (by rw [List.getElem?_take_of_lt hki]; exact hxk2) 0 (.int .i64 ((at0 (nxt (ts.map srt) c) kk : Nat) : Int)) rfl
              simpa using this
            have hatn := own_at hO2 hgn
            repeat' (first | (refine r_pure hT rfl rfl rfl rfl ?_) | (refine r_new hT rfl rfl rfl rfl ?_) | (refine r_write hT rfl rfl rfl ?_) | (refine r_nil ?_) | (refine q_nil ?_) | (refine r_indexN hT rfl rfl rfl rfl rfl rfl rfl rfl rfl hkn ?_) | (refine r_indexN hT rfl rfl rfl rfl rfl rfl rfl rfl rfl hlt ?_) | (refine r_load hT hatck rfl rfl rfl rfl rfl (Nat.add_zero _).symm rfl rfl rfl rfl rfl ?_) | (refine r_load hT hatci rfl rfl rfl rfl rfl (Nat.add_zero _).symm rfl rfl rfl rfl rfl ?_) | (refine r_load hT hatsk rfl rfl rfl rfl rfl (Nat.add_zero _).symm rfl rfl rfl rfl rfl ?_) | (refine r_load hT hatsi rfl rfl rfl rfl rfl (Nat.add_zero _).symm rfl rfl rfl rfl rfl ?_) | (refine c_yes rfl hge ?_) | (refine q_guard rfl rfl (fun _ => ?_) (fun hx => absurd hckI hx)) | (refine p_call hL rfl rfl rfl rfl rfl (YtkamfnmbidnhdaaDoor.hC _ rfl) rfl rfl rfl ?_) | (refine r_load hT hatn rfl rfl rfl rfl rfl (Nat.add_zero _).symm rfl rfl rfl rfl rfl ?_) | (refine r_store_row0 hT hO2 (w0 := w2) (fun _ _ => rfl) rfl rfl rfl rfl (by rw [hpre]) rfl rfl rfl rfl rfl rfl rfl (fun w3 hO4 hK4 => ?_)) | (refine r_arith rfl rfl rfl rfl rfl rfl rfl (by omega) ?_) | (with_reducible refine r_seq ?_) | (with_reducible refine x_then ?_) | (with_reducible refine r_region ?_) | (refine r_draw hM (by kernel_rfl) ?_) | (with_reducible refine r_skip ?_) | (with_reducible refine r_ret ?_) | (with_reducible refine x_then_ret ?_) | (with_reducible refine r_block ?_) | (with_reducible refine x_block ?_) | (with_reducible refine x_block_ret ?_) | (with_reducible refine r_exit ?_) | (with_reducible refine x_then_exit ?_) | (with_reducible refine x_block_here ?_) | (refine x_block_past rfl ?_) | (refine c_yes rfl (by omega) ?_) | (refine c_no rfl (by omega) ?_) | (refine c_no rfl (fun h => h rfl) ?_) | (refine r_cond_false rfl ?_) | (refine r_cond_true rfl ?_) | (refine r_cond_dec rfl (fun _ => ?_) (fun _ => ?_)) | (refine r_cond_true rfl ?_) | (refine r_cond_false rfl ?_) | (refine c_not rfl (fun _ => ?_) (fun _ => ?_)) | (refine r_off rfl rfl rfl ?_))
            refine x_round ((kk, at0 (nxt (ts.map srt) c) kk), w3) ⟨by dsimp only; omega, Mid.hit (x := 0) hlti hki (by rw [hsgk, hsgi]; exact hkey), fun z o hz => ?_, hO4⟩ (by dsimp only; omega) (into rfl ⟨rfl, rfl, rfl, rfl, rfl, rfl, rfl, rfl, rfl, trivial⟩ trivial rfl rfl)
            show w3 z = some o
            rw [hK4 z (fun e => by rw [e, hb9] at hz; cases hz)]
            exact hlw2 z o hz
          · rw [decide_eq_false hkey] at hL
            repeat' (first | (refine r_pure hT rfl rfl rfl rfl ?_) | (refine r_new hT rfl rfl rfl rfl ?_) | (refine r_write hT rfl rfl rfl ?_) | (refine r_nil ?_) | (refine q_nil ?_) | (refine r_indexN hT rfl rfl rfl rfl rfl rfl rfl rfl rfl hkn ?_) | (refine r_indexN hT rfl rfl rfl rfl rfl rfl rfl rfl rfl hlt ?_) | (refine r_load hT hatck rfl rfl rfl rfl rfl (Nat.add_zero _).symm rfl rfl rfl rfl rfl ?_) | (refine r_load hT hatci rfl rfl rfl rfl rfl (Nat.add_zero _).symm rfl rfl rfl rfl rfl ?_) | (refine r_load hT hatsk rfl rfl rfl rfl rfl (Nat.add_zero _).symm rfl rfl rfl rfl rfl ?_) | (refine r_load hT hatsi rfl rfl rfl rfl rfl (Nat.add_zero _).symm rfl rfl rfl rfl rfl ?_) | (refine c_yes rfl hge ?_) | (refine q_guard rfl rfl (fun _ => ?_) (fun hx => absurd hckI hx)) | (refine p_call hL rfl rfl rfl rfl rfl (YtkamfnmbidnhdaaDoor.hC _ rfl) rfl rfl rfl ?_) | (refine r_arith rfl rfl rfl rfl rfl rfl rfl (by omega) ?_) | (with_reducible refine r_seq ?_) | (with_reducible refine x_then ?_) | (with_reducible refine r_region ?_) | (refine r_draw hM (by kernel_rfl) ?_) | (with_reducible refine r_skip ?_) | (with_reducible refine r_ret ?_) | (with_reducible refine x_then_ret ?_) | (with_reducible refine r_block ?_) | (with_reducible refine x_block ?_) | (with_reducible refine x_block_ret ?_) | (with_reducible refine r_exit ?_) | (with_reducible refine x_then_exit ?_) | (with_reducible refine x_block_here ?_) | (refine x_block_past rfl ?_) | (refine c_yes rfl (by omega) ?_) | (refine c_no rfl (by omega) ?_) | (refine c_no rfl (fun h => h rfl) ?_) | (refine r_cond_false rfl ?_) | (refine r_cond_true rfl ?_) | (refine r_cond_dec rfl (fun _ => ?_) (fun _ => ?_)) | (refine r_cond_true rfl ?_) | (refine r_cond_false rfl ?_) | (refine c_not rfl (fun _ => ?_) (fun _ => ?_)) | (refine r_off rfl rfl rfl ?_))
            exact x_round ((kk, x), w2) ⟨by dsimp only; omega, hMid.miss hlti hki (by rw [hsgk, hsgi]; exact hkey), hlw2, hO2⟩ (by dsimp only; omega) (into rfl ⟨rfl, rfl, rfl, rfl, rfl, rfl, rfl, rfl, rfl, trivial⟩ trivial rfl rfl)
        · have hckI : ¬ ((at0 c kk : Nat) : Int) = ((at0 c i : Nat) : Int) := by omega
          have hkey : keyS c (srt tk) ≠ keyS c (srt ti) := fun e => hck (hRch.fine kk i hltk hlti (by rw [hsgk, hsgi]; exact e))
          repeat' (first | (refine r_pure hT rfl rfl rfl rfl ?_) | (refine r_new hT rfl rfl rfl rfl ?_) | (refine r_write hT rfl rfl rfl ?_) | (refine r_nil ?_) | (refine q_nil ?_) | (refine r_indexN hT rfl rfl rfl rfl rfl rfl rfl rfl rfl hkn ?_) | (refine r_indexN hT rfl rfl rfl rfl rfl rfl rfl rfl rfl hlt ?_) | (refine r_load hT hatck rfl rfl rfl rfl rfl (Nat.add_zero _).symm rfl rfl rfl rfl rfl ?_) | (refine r_load hT hatci rfl rfl rfl rfl rfl (Nat.add_zero _).symm rfl rfl rfl rfl rfl ?_) | (refine r_load hT hatsk rfl rfl rfl rfl rfl (Nat.add_zero _).symm rfl rfl rfl rfl rfl ?_) | (refine r_load hT hatsi rfl rfl rfl rfl rfl (Nat.add_zero _).symm rfl rfl rfl rfl rfl ?_) | (refine c_yes rfl hge ?_) | (refine r_offu rfl rfl rfl rfl rfl rfl ?_) | (refine q_guard rfl rfl (fun hx => absurd hx hckI) (fun _ => ?_)) | (refine r_arith rfl rfl rfl rfl rfl rfl rfl (by omega) ?_) | (with_reducible refine r_seq ?_) | (with_reducible refine x_then ?_) | (with_reducible refine r_region ?_) | (refine r_draw hM (by kernel_rfl) ?_) | (with_reducible refine r_skip ?_) | (with_reducible refine r_ret ?_) | (with_reducible refine x_then_ret ?_) | (with_reducible refine r_block ?_) | (with_reducible refine x_block ?_) | (with_reducible refine x_block_ret ?_) | (with_reducible refine r_exit ?_) | (with_reducible refine x_then_exit ?_) | (with_reducible refine x_block_here ?_) | (refine x_block_past rfl ?_) | (refine c_yes rfl (by omega) ?_) | (refine c_no rfl (by omega) ?_) | (refine c_no rfl (fun h => h rfl) ?_) | (refine r_cond_false rfl ?_) | (refine r_cond_true rfl ?_) | (refine r_cond_dec rfl (fun _ => ?_) (fun _ => ?_)) | (refine r_cond_true rfl ?_) | (refine r_cond_false rfl ?_) | (refine c_not rfl (fun _ => ?_) (fun _ => ?_)) | (refine r_off rfl rfl rfl ?_))
          exact x_round ((kk, x), w2) ⟨by dsimp only; omega, hMid.miss hlti hki (by rw [hsgk, hsgi]; exact hkey), hlw2, hO2⟩ (by dsimp only; omega) (into rfl ⟨rfl, rfl, rfl, rfl, rfl, rfl, rfl, rfl, rfl, trivial⟩ trivial rfl rfl)
    · obtain rfl : i = ts.length := by omega
      rw [List.take_of_length_le (by rw [cI_len, hnl]; exact Nat.le_refl _)] at hOn
      simp only [Nat.sub_self, reps, List.append_nil] at hOn
      have hoff9 : Off h (some ⟨b9, 0, none⟩) := fun b hb => by have e := Option.some.inj hb; subst e; exact none_of (hhv.trans hl0) hb9
      cases more with
      | false =>
        have e1 : nxt (ts.map srt) c = c := good_ext hnl hcl (fun j hj => by
          by_cases e : at0 (nxt (ts.map srt) c) j = at0 c j
          · exact e
          · exact absurd (hmo.2 ⟨j, hj, e⟩) (by simp))
        have e2 := hRch.stop e1
        repeat' (first | (refine r_pure hT rfl rfl rfl rfl ?_) | (refine r_new hT rfl rfl rfl rfl ?_) | (refine r_write hT rfl rfl rfl ?_) | (refine r_nil ?_) | (refine q_nil ?_) | (refine r_arith rfl rfl rfl rfl rfl rfl rfl (by omega) ?_) | (with_reducible refine r_seq ?_) | (with_reducible refine x_then ?_) | (with_reducible refine r_region ?_) | (refine r_draw hM (by kernel_rfl) ?_) | (with_reducible refine r_skip ?_) | (with_reducible refine r_ret ?_) | (with_reducible refine x_then_ret ?_) | (with_reducible refine r_block ?_) | (with_reducible refine x_block ?_) | (with_reducible refine x_block_ret ?_) | (with_reducible refine r_exit ?_) | (with_reducible refine x_then_exit ?_) | (with_reducible refine x_block_here ?_) | (refine x_block_past rfl ?_) | (refine c_yes rfl (by omega) ?_) | (refine c_no rfl (by omega) ?_) | (refine c_no rfl (fun h => h rfl) ?_) | (refine r_cond_false rfl ?_) | (refine r_cond_true rfl ?_) | (refine r_cond_dec rfl (fun _ => ?_) (fun _ => ?_)) | (refine r_cond_true rfl ?_) | (refine r_cond_false rfl ?_) | (refine c_not rfl (fun _ => ?_) (fun _ => ?_)) | (refine r_off rfl rfl rfl ?_) | (refine q_guard rfl rfl (fun _ => ?_) (fun _ => ?_)) | (refine q_guardn rfl rfl (fun _ => ?_) (fun _ => ?_)))
        rw [e1, ← e2] at hOn
        exact r_fin hT rfl ((some ⟨b9, 0, none⟩, ts.length) : Option Addr × Nat) rfl rfl rfl trivial rfl ⟨hOn, (hhv.trans hl0).trans hlw, hoff9⟩
      | true =>
        obtain ⟨f', e2, hR'⟩ := hRch.step hIn (fun e1 => by
          obtain ⟨j, _, h2⟩ := hmo.1 rfl
          rw [e1] at h2
          exact h2 rfl)
        repeat' (first | (refine r_pure hT rfl rfl rfl rfl ?_) | (refine r_new hT rfl rfl rfl rfl ?_) | (refine r_write hT rfl rfl rfl ?_) | (refine r_nil ?_) | (refine q_nil ?_) | (refine r_arith rfl rfl rfl rfl rfl rfl rfl (by omega) ?_) | (with_reducible refine r_seq ?_) | (with_reducible refine x_then ?_) | (with_reducible refine r_region ?_) | (refine r_draw hM (by kernel_rfl) ?_) | (with_reducible refine r_skip ?_) | (with_reducible refine r_ret ?_) | (with_reducible refine x_then_ret ?_) | (with_reducible refine r_block ?_) | (with_reducible refine x_block ?_) | (with_reducible refine x_block_ret ?_) | (with_reducible refine r_exit ?_) | (with_reducible refine x_then_exit ?_) | (with_reducible refine x_block_here ?_) | (refine x_block_past rfl ?_) | (refine c_yes rfl (by omega) ?_) | (refine c_no rfl (by omega) ?_) | (refine c_no rfl (fun h => h rfl) ?_) | (refine r_cond_false rfl ?_) | (refine r_cond_true rfl ?_) | (refine r_cond_dec rfl (fun _ => ?_) (fun _ => ?_)) | (refine r_cond_true rfl ?_) | (refine r_cond_false rfl ?_) | (refine c_not rfl (fun _ => ?_) (fun _ => ?_)) | (refine r_off rfl rfl rfl ?_) | (refine q_guard rfl rfl (fun _ => ?_) (fun _ => ?_)) | (refine q_guardn rfl rfl (fun _ => ?_) (fun _ => ?_)))
        exact x_round ((f', nxt (ts.map srt) c), (w, (some ⟨b9, 0, none⟩, ts.length))) ⟨hR', hl0.trans hlw, hOn, hoff9⟩ (by dsimp only; omega) (into rfl ⟨rfl, rfl, rfl, trivial⟩ trivial rfl rfl)
end Go.Proofs.YtkamfnmbidnhdaaDoor
/- Two graphs side by side: the tables of both, plain and as the programs lay them. No condition. -/
namespace Go.Proofs.YtkamfnmbidnhdaaDoor
open Go.Sy
set_option maxRecDepth 100000
set_option maxHeartbeats 4000000
set_option linter.unusedVariables false
set_option linter.unusedSimpArgs false
def shV (n : Nat) (v : V) : V := if v.k = 4 then { v with a := v.a + n } else v
def shP (n : Nat) (p : Pr) : Pr := ⟨p.key, shV n p.val⟩
def both (a b : List (List Pr)) : List (List Pr) := a ++ b.map fun t => t.map (shP a.length)
/-- A list of tables that is being laid: its heads lie in u, its rows in q. -/
structure Gr (h u q : Hp) (A : Option Addr) (c : Nat) (hs : List Hd) (ts : List (List Pr)) : Prop where
  hq : Le h q
  qu : Le q u
  off : Off q A
  own : Own u A ts.length c 59 1 (hs.flatMap Hd.v)
  len : hs.length = ts.length
  rows : SRow q hs ts
theorem Gr.tabs {h u q : Hp} {A : Option Addr} {c : Nat} {hs : List Hd} {ts : List (List Pr)} (g : Gr h u q A c hs ts) : Tabs u A ts.length ts :=
  ⟨hs, g.len, ⟨g.len.symm, g.own.sl⟩, fun i x t hx ht => ⟨(g.rows i x t hx ht).1, (g.rows i x t hx ht).2.le g.qu⟩⟩
theorem Gr.start (h : Hp) : Gr h h h none 0 [] [] := ⟨Le.refl h, Le.refl h, off_nil, own_nil, rfl, fun j x t hx => by simp at hx⟩
theorem srow_snoc {q q' : Hp} {hs : List Hd} {ts : List (List Pr)} (hS : SRow q hs ts) (hl : hs.length = ts.length) (hq : Le q q') {y : Hd} {t : List Pr} (hc : y.n ≤ y.c) (hy : Pairs q' y.A y.n t) : SRow q' (hs ++ [y]) (ts ++ [t]) := fun j x t' hx ht' => by
  by_cases hj : j < hs.length
  · rw [List.getElem?_append_left hj] at hx
    rw [List.getElem?_append_left (by omega)] at ht'
    exact ⟨(hS j x t' hx ht').1, (hS j x t' hx ht').2.le hq⟩
  · have hj2 : j = hs.length := by
      have := (List.getElem?_eq_some_iff.1 hx).1
      simp at this; omega
    subst hj2
    rw [List.getElem?_append_right (Nat.le_refl _)] at hx
    rw [hl, List.getElem?_append_right (Nat.le_refl _)] at ht'
    simp at hx ht'
    subst hx
    subst ht'
    exact ⟨hc, hy⟩
/-- A head is added whose row is new. -/
theorem Gr.push {h u q u1 w u3 : Hp} {A A' : Option Addr} {c c' e : Nat} {hs : List Hd} {ts : List (List Pr)} (g : Gr h u q A c hs ts) (hu : Le u u1) (hw : Le u1 w) {y : Hd} {t : List Pr} (hy : Own u1 y.A y.n y.c e 8 (t.flatMap Pr.c)) (hof : Off u y.A)
    (hO : Own u3 A' (ts.length + 1) c' 59 1 (hs.flatMap Hd.v ++ [y].flatMap Hd.v)) (hG : Grown w u3 A A') : Gr h u3 (ptw u1 A) A' c' (hs ++ [y]) (ts ++ [t]) := by
  have hAy : ∀ z, blk A = some z → blk y.A ≠ some z := fun z hz e => by
    cases A with
    | none => cases hz
    | some a =>
      obtain ⟨_, arr, h2, _⟩ := g.own.row a rfl
      have e1 : a.block = z := Option.some.inj hz
      rw [e1, hof z e] at h2; cases h2
  have hqp : Le q (ptw u1 A) := fun z o hz => by
    unfold ptw
    rw [if_neg (fun e => by rw [g.off z e] at hz; cases hz)]
    exact hu z o (g.qu z o hz)
  have hk := hG (ptw u1 A) ((ptw_le u1 A).trans hw) (ptw_off u1 A)
  have hyp : Pairs (ptw u1 A) y.A y.n t := own_pairs (hy.le fun b o hb ho => by show ptw u1 A b = some o; unfold ptw; rw [if_neg (fun e => hAy b e hb)]; exact ho)
  exact ⟨g.hq.trans hqp, hk.1, hk.2, by simpa using hO, by simp [g.len], srow_snoc g.rows g.len hqp hy.cap hyp⟩
theorem vok_sh {v : V} {m n : Nat} (h : VOk v m) : VOk (shV n v) (n + m) ∧ ((shV n v).k = v.k) := by
  unfold shV
  rcases h with ⟨a, b, c, d⟩ | ⟨a, b, c, d⟩ | ⟨a, c, d⟩ | ⟨a, b, c, d⟩ | ⟨a, b, c, d, e⟩
  · rw [if_neg (by omega)]; exact ⟨.inl ⟨a, b, c, d⟩, rfl⟩
  · rw [if_neg (by omega)]; exact ⟨.inr (.inl ⟨a, b, c, d⟩), rfl⟩
  · rw [if_neg (by omega)]; exact ⟨.inr (.inr (.inl ⟨a, c, d⟩)), rfl⟩
  · rw [if_neg (by omega)]; exact ⟨.inr (.inr (.inr (.inl ⟨a, b, c, d⟩))), rfl⟩
  · rw [if_pos a]; exact ⟨.inr (.inr (.inr (.inr ⟨a, b, c, by simp only; omega, by simp only; omega⟩))), rfl⟩
theorem vok_up {v : V} {m n : Nat} (h : VOk v m) (hl : m ≤ n) : VOk v n := by
  rcases h with a | a | a | a | ⟨a, b, c, d, e⟩
  · exact .inl a
  · exact .inr (.inl a)
  · exact .inr (.inr (.inl a))
  · exact .inr (.inr (.inr (.inl a)))
  · exact .inr (.inr (.inr (.inr ⟨a, b, c, d, by omega⟩)))
theorem shV_fit {v : V} {n : Nat} (h : v.fit) : (shV n v).fit := by
  unfold shV
  split
  · exact h
  · exact h
theorem cl_both {a b : List (List Pr)} (ha : ClOk a) (hb : ClOk b) (h1 : a.length ≤ 200) (h2 : b.length ≤ 200) : ClOk (both a b) := by
  have hl : (both a b).length = a.length + b.length := by simp [both]
  refine ⟨by omega, fun t ht => ?_, fun t ht p hp => ?_⟩
  · rw [hl]
    rcases List.mem_append.1 ht with ht | ht
    · obtain ⟨g1, g2, g3⟩ := ha.tok t ht
      exact ⟨g1, fun p hp => ⟨(g2 p hp).1, vok_up (g2 p hp).2.1 (by omega), (g2 p hp).2.2⟩, g3⟩
    · obtain ⟨s, hs, rfl⟩ := List.mem_map.1 ht
      obtain ⟨g1, g2, g3⟩ := hb.tok s hs
      refine ⟨by rw [List.length_map]; exact g1, fun p hp => ?_, ?_⟩
      · obtain ⟨r, hr, rfl⟩ := List.mem_map.1 hp
        obtain ⟨k1, k2, k3⟩ := g2 r hr
        exact ⟨k1, (vok_sh k2).1, by show (shV a.length r.val).k ≠ 0; rw [(vok_sh k2).2]; exact k3⟩
      · rw [List.map_map]; exact g3
  · rcases List.mem_append.1 ht with ht | ht
    · exact ha.fit t ht p hp
    · obtain ⟨s, hs, rfl⟩ := List.mem_map.1 ht
      obtain ⟨r, hr, rfl⟩ := List.mem_map.1 hp
      exact ⟨(hb.fit s hs r hr).1, shV_fit (hb.fit s hs r hr).2⟩
end Go.Proofs.YtkamfnmbidnhdaaDoor
/- spec.l3both, slices.Clone of tables. No condition. -/
namespace Go.Proofs.YtkamfnmbidnhdaaDoor
open Go.Sy
set_option maxRecDepth 100000
set_option maxHeartbeats 4000000
set_option linter.unusedVariables false
set_option linter.unusedSimpArgs false
theorem heads_one (hs : List Hd) : ∀ v ∈ hs.flatMap Hd.v, Go.Sy.one v = true := fun v hv => by
  obtain ⟨x, _, hx⟩ := List.mem_flatMap.1 hv
  simp only [Hd.v, List.mem_singleton] at hx; subst hx; rfl
theorem shP_yes {n : Nat} {p : Pr} (h : p.val.k = 4) : shP n p = ⟨p.key, ⟨p.val.k, p.val.n, p.val.s, p.val.a + n⟩⟩ := by unfold shP shV; rw [if_pos h]
theorem shP_no {n : Nat} {p : Pr} (h : p.val.k ≠ 4) : shP n p = p := by unfold shP shV; rw [if_neg h]
theorem clone75 (hs : List Hd) (A : Option Addr) (n c : Nat) (h : Hp) (hP : Rd Hd.v 1 h A n hs) (hl : hs.length ≤ 1000000) :
    TriS Tryd.prog 75 [.v (.slice A n c)] [] h (fun y : Option Addr × Nat => .v (.slice y.1 hs.length y.2)) (fun _ => []) (fun y h' => Own h' y.1 hs.length y.2 59 1 (hs.flatMap Hd.v) ∧ Le h h' ∧ Off h y.1) := by
  obtain rfl := hP.1
  refine enterS Tryd.func75 rfl (n := 8) rfl rfl (fun k N => ?_)
  cases A with
  | none =>
    have h0 := hP.2.nil rfl
    have : hs = [] := List.length_eq_zero_iff.1 h0
    subst this
    repeat' (first | (refine r_pure hT rfl rfl rfl rfl ?_) | (refine r_new hT rfl rfl rfl rfl ?_) | (refine r_write hT rfl rfl rfl ?_) | (refine r_nil ?_) | (refine q_nil ?_) | (refine r_slnil hT rfl rfl rfl rfl rfl rfl rfl ?_) | (refine r_arith rfl rfl rfl rfl rfl rfl rfl (by omega) ?_) | (with_reducible refine r_seq ?_) | (with_reducible refine x_then ?_) | (with_reducible refine r_region ?_) | (refine r_draw hM (by kernel_rfl) ?_) | (with_reducible refine r_skip ?_) | (with_reducible refine r_ret ?_) | (with_reducible refine x_then_ret ?_) | (with_reducible refine r_block ?_) | (with_reducible refine x_block ?_) | (with_reducible refine x_block_ret ?_) | (with_reducible refine r_exit ?_) | (with_reducible refine x_then_exit ?_) | (with_reducible refine x_block_here ?_) | (refine x_block_past rfl ?_) | (refine c_yes rfl (by omega) ?_) | (refine c_no rfl (by omega) ?_) | (refine c_no rfl (fun h => h rfl) ?_) | (refine r_cond_false rfl ?_) | (refine r_cond_true rfl ?_) | (refine r_cond_dec rfl (fun _ => ?_) (fun _ => ?_)) | (refine r_cond_true rfl ?_) | (refine r_cond_false rfl ?_) | (refine c_not rfl (fun _ => ?_) (fun _ => ?_)) | (refine r_off rfl rfl rfl ?_) | (refine q_guard rfl rfl (fun _ => ?_) (fun _ => ?_)) | (refine q_guardn rfl rfl (fun _ => ?_) (fun _ => ?_)))
    exact r_fin hT rfl ((none, 0) : Option Addr × Nat) rfl rfl rfl trivial rfl ⟨own_nil, Le.refl _, off_nil⟩
  | some ad =>
    repeat' (first | (refine r_pure hT rfl rfl rfl rfl ?_) | (refine r_new hT rfl rfl rfl rfl ?_) | (refine r_write hT rfl rfl rfl ?_) | (refine r_nil ?_) | (refine q_nil ?_) | (refine r_slnil hT rfl rfl rfl rfl rfl rfl rfl ?_) | (refine r_bslice hT (ps := []) rfl rfl rfl rfl rfl rfl rfl (by simp) rfl rfl (by decide) (fun b3 hb3 => ?_)) | ((refine r_append hT (cs := []) (news := hs.flatMap Hd.v) rfl rfl rfl rfl rfl rfl rfl rfl rfl rfl rfl ⟨rfl, Nat.le_refl _, fun h => (by cases h), fun a ha => (by have e := Option.some.inj ha; subst e; exact ⟨rfl, _, upd_here .., Nat.le_refl _, fun j v hj => (by simp at hj)⟩)⟩ (hP.2.le ((Le.refl h).upd hb3)) (heads_one _) (by dsimp only; omega) (by omega) (fun A' c' u3 hO3 hG3 => ?_))) | (refine r_arith rfl rfl rfl rfl rfl rfl rfl (by omega) ?_) | (with_reducible refine r_seq ?_) | (with_reducible refine x_then ?_) | (with_reducible refine r_region ?_) | (refine r_draw hM (by kernel_rfl) ?_) | (with_reducible refine r_skip ?_) | (with_reducible refine r_ret ?_) | (with_reducible refine x_then_ret ?_) | (with_reducible refine r_block ?_) | (with_reducible refine x_block ?_) | (with_reducible refine x_block_ret ?_) | (with_reducible refine r_exit ?_) | (with_reducible refine x_then_exit ?_) | (with_reducible refine x_block_here ?_) | (refine x_block_past rfl ?_) | (refine c_yes rfl (by omega) ?_) | (refine c_no rfl (by omega) ?_) | (refine c_no rfl (fun h => h rfl) ?_) | (refine r_cond_false rfl ?_) | (refine r_cond_true rfl ?_) | (refine r_cond_dec rfl (fun _ => ?_) (fun _ => ?_)) | (refine r_cond_true rfl ?_) | (refine r_cond_false rfl ?_) | (refine c_not rfl (fun _ => ?_) (fun _ => ?_)) | (refine r_off rfl rfl rfl ?_) | (refine q_guard rfl rfl (fun _ => ?_) (fun _ => ?_)) | (refine q_guardn rfl rfl (fun _ => ?_) (fun _ => ?_)))
    have hk := hG3 h ((Le.refl h).upd hb3) (fun b hb => by have e := Option.some.inj hb; subst e; exact hb3)
    have e0 : 0 + hs.length = hs.length := by omega
    rw [e0] at hO3 ⊢
    exact r_fin hT rfl (A', c') rfl rfl rfl trivial rfl ⟨by simpa using hO3, hk.1, hk.2⟩
end Go.Proofs.YtkamfnmbidnhdaaDoor
