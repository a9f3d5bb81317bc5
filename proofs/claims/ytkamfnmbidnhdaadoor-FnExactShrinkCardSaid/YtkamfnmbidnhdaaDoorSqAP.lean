/- The specification's freezer: values. No condition. -/
import Derived.Test.YtkamfnmbidnhdaaDoorSqAO
import Derived.Test.YtkamfnmbidnhdaaDoorSqAH
import Derived.Test.YtkamfnmbidnhdaaDoorSqAG
import Derived.Test.YtkamfnmbidnhdaaDoorSqAM
import Derived.WideLaws
set_option linter.unusedVariables false
set_option linter.unusedSimpArgs false
set_option linter.unusedSectionVars false
namespace Go.Proofs.YtkamfnmbidnhdaaDoor
open Go.Sy
set_option maxRecDepth 100000
set_option maxHeartbeats 8000000
set_option linter.unusedVariables false
set_option linter.unusedSimpArgs false
def dcN (k : Nat) : List UInt8 := Lib.itoa (k : Int)
theorem dec_list (n : Int) : (dec n).data.toList = Lib.itoa n := rfl
/-- What is asked of the values. -/
def Fit (ts : List (List Pr)) : Prop := ∀ t ∈ ts, ∀ p ∈ t, p.key.fit ∧ p.val.fit
theorem bs_cat (a b : ByteArray) : (a ++ b).data.toList = a.data.toList ++ b.data.toList := by simp
theorem valF (h0 : Hp) (fa : FA) (ts : List (List Pr)) (hA : AllIn ts) (hc : ∀ t ∈ ts, t.length ≤ 1000000) (hfit : Fit ts) (rs : List Nat) (m : Nat → Bool) (hm' : ∀ a, m a = decide (1 < rs.count a)) : ∀ (f : Nat) (s : TS) (v : V) (r : TS) (u : Hp) (Ao : Option Addr) (co : Nat),
    FSt h0 u fa ts Ao co rs s.L s.o → tx ts m plT dcN f s v = some r → In ts.length v → v.fit → r.L.length ≤ 1000000 → r.o.length ≤ 900000000 →
    TriS Tryd.prog 104 [.v (.pointer (some ⟨fa.pb, 0, none⟩)), .ag v.sv] [] u (fun _ : Option Addr × Nat => .tu []) (fun _ => []) (fun y u' => FSt h0 u' fa ts y.1 y.2 rs r.L r.o)
  | 0, s, v, r, u, Ao, co, hF, ht, hv, hvf, hrL, hro => by cases ht
  | f + 1, s, v, r, u, Ao, co, hF, ht, hv, hvf, hrL, hro => by
    refine enterS Tryd.func104 rfl (n := 105) rfl rfl (fun k N => ?_)
    have hmono := tx_mono _ _ _ _ ht
    have hsL := Nat.le_trans hmono.1 hrL
    have hso := Nat.le_trans hmono.2 hro
    rw [tx] at ht
    by_cases h4 : v.k = 4
    · rw [if_pos h4] at ht
      have hva := hv h4
      have hlt : v.a.toNat < ts.length := by omega
      have hatW := hF.at_
      have hxl := labV_get s.L hlt
      have hxr := ledV_get rs hlt
      have hatn := own_at hF.lab hxl
      have hatr := own_at hF.led hxr
      by_cases hin : v.a.toNat ∈ s.L
      · rw [if_pos hin] at ht
        obtain rfl := Option.some.inj ht
        rw [if_pos hin] at hatn
        have hix := List.idxOf_lt_length_iff.2 hin
        have hsz : (⟨#[35]⟩ : ByteArray).size = 1 := rfl
        have hdl : s.o.length + ((⟨#[35]⟩ : ByteArray) ++ dec ((s.L.idxOf v.a.toNat + 1 : Nat) : Int)).size ≤ 900000000 := by
          simp only [List.length_append, List.length_cons] at hro
          rw [ByteArray.size_append, hsz]
          show _ + (1 + (dcN (s.L.idxOf v.a.toNat + 1)).length) ≤ _
          omega
        have hds : 1 + (dec ((s.L.idxOf v.a.toNat + 1 : Nat) : Int)).size ≤ 9223372036854775807 := by rw [ByteArray.size_append, hsz] at hdl; omega
        generalize hI : s.L.idxOf v.a.toNat + 1 = I at *
        repeat' (first | (refine r_pure hT rfl rfl rfl rfl ?_) | (refine r_new hT rfl rfl rfl rfl ?_) | (refine r_write hT rfl rfl rfl ?_) | (refine r_nil ?_) | (refine q_nil ?_) | (refine c_no rfl (fun h => h h4) ?_) | (refine r_draw (id := 3) hM (by kernel_rfl) ?_) | (refine r_load hT hatW rfl rfl rfl rfl rfl rfl rfl rfl rfl rfl rfl ?_) | (refine r_index hT rfl rfl rfl rfl rfl rfl rfl rfl rfl hva.1 hva.2 ?_) | (refine r_load hT hatn rfl rfl rfl rfl rfl (Nat.add_zero _).symm rfl rfl rfl rfl rfl ?_) | (refine r_manyD (id := 4) [0, 1, 2, 3, 4, 5, 6, 7, 8] [11] u (Le.refl u) hM (by kernel_rfl) rfl (by kernel_rfl) rfl rfl rfl (fun β0 => ?_)) | (refine p_call (dec137 ((I : Nat) : Int) (by omega) (by omega) _) rfl rfl rfl rfl rfl (hC _ rfl) rfl rfl rfl ?_) | (refine m_keep (Le.refl u) ⟨rfl, trivial⟩ rfl rfl ?_) | (refine r_concat rfl rfl rfl rfl rfl rfl hds ?_) | (refine r_call (say135 h0 u fa ts Ao co rs s.L s.o ((⟨#[35]⟩ : ByteArray) ++ dec ((I : Nat) : Int)) hF (by omega)) rfl rfl rfl rfl rfl (hC _ rfl) rfl rfl (fun y u1 hy => ?_)) | (refine m_late rfl rfl ?_) | (refine r_arith rfl rfl rfl rfl rfl rfl rfl (by omega) ?_) | (with_reducible refine r_seq ?_) | (with_reducible refine x_then ?_) | (with_reducible refine r_region ?_) | (with_reducible refine r_skip ?_) | (with_reducible refine r_ret ?_) | (with_reducible refine x_then_ret ?_) | (with_reducible refine r_block ?_) | (with_reducible refine x_block ?_) | (with_reducible refine x_block_ret ?_) | (with_reducible refine r_exit ?_) | (with_reducible refine x_then_exit ?_) | (with_reducible refine x_block_here ?_) | (refine x_block_past rfl ?_) | (refine c_yes rfl (by omega) ?_) | (refine c_no rfl (by omega) ?_) | (refine c_no rfl (fun h => h rfl) ?_) | (refine r_cond_false rfl ?_) | (refine r_cond_true rfl ?_) | (refine r_cond_dec rfl (fun _ => ?_) (fun _ => ?_)) | (refine r_cond_true rfl ?_) | (refine r_cond_false rfl ?_) | (refine c_not rfl (fun _ => ?_) (fun _ => ?_)) | (refine r_off rfl rfl rfl ?_) | (refine q_guard rfl rfl (fun _ => ?_) (fun _ => ?_)) | (refine q_guardn rfl rfl (fun _ => ?_) (fun _ => ?_)) | (refine s_nil ?_) | (with_reducible refine a_full ?_) | (refine m_step rfl rfl (List.cons_ne_nil _ _) ?_) | (refine allR_cons rfl ?_ ?_) | (exact allR_nil) | (refine m_end rfl rfl rfl ?_))
        rw [bs_cat] at hy
        exact r_fin hT rfl y rfl rfl rfl trivial rfl hy
      · rw [if_neg hin] at ht
        rw [if_neg hin] at hatn
        obtain ⟨bt, offt, A1, n1, c1, t, hAt, hd, hix, hm, hat, hc1, hp1⟩ := hF.tabs.elem hlt
        obtain rfl := hp1.1
        have hgd : ts.getD v.a.toNat [] = t := by rw [List.getD_eq_getElem?_getD, hix]; rfl
        have htl := hc t hm
        rw [hgd] at ht
        split at ht
        · cases ht
        · rename_i r' hr'
          obtain rfl := Option.some.inj ht
          dsimp only at *
          rw [List.length_append, List.length_singleton] at hro
          have hm1 := txp_mono (fun s v r => tx_mono f s v r) _ _ _ _ hr'
          by_cases hmt : 1 < rs.count v.a.toNat
          · have hma : m v.a.toNat = true := by rw [hm', decide_eq_true hmt]
            have hcl : rs.count v.a.toNat < 9223372036854775807 ∨ True := .inr trivial
            repeat' (first | (refine r_pure hT rfl rfl rfl rfl ?_) | (refine r_new hT rfl rfl rfl rfl ?_) | (refine r_write hT rfl rfl rfl ?_) | (refine r_nil ?_) | (refine q_nil ?_) | (refine c_no rfl (fun h => h h4) ?_) | (refine r_draw (id := 3) hM (by kernel_rfl) ?_) | (refine r_draw (id := 5) hM (by kernel_rfl) ?_) | (refine r_load hT hatW rfl rfl rfl rfl rfl rfl rfl rfl rfl rfl rfl ?_) | (refine r_index hT rfl rfl rfl rfl rfl rfl rfl rfl rfl hva.1 hva.2 ?_) | (refine r_load hT hatn rfl rfl rfl rfl rfl (Nat.add_zero _).symm rfl rfl rfl rfl rfl ?_) | (refine r_load hT hatr rfl rfl rfl rfl rfl (Nat.add_zero _).symm rfl rfl rfl rfl rfl ?_) | (refine r_store hT rfl rfl rfl rfl rfl rfl rfl rfl rfl rfl hF.cell (Nat.le_succ 8) ?_) | (refine r_arith rfl rfl rfl rfl rfl rfl rfl (by omega) ?_) | (with_reducible refine r_seq ?_) | (with_reducible refine x_then ?_) | (with_reducible refine r_region ?_) | (with_reducible refine r_skip ?_) | (with_reducible refine r_ret ?_) | (with_reducible refine x_then_ret ?_) | (with_reducible refine r_block ?_) | (with_reducible refine x_block ?_) | (with_reducible refine x_block_ret ?_) | (with_reducible refine r_exit ?_) | (with_reducible refine x_then_exit ?_) | (with_reducible refine x_block_here ?_) | (refine x_block_past rfl ?_) | (refine c_yes rfl (by omega) ?_) | (refine c_no rfl (by omega) ?_) | (refine c_no rfl (fun h => h rfl) ?_) | (refine r_cond_false rfl ?_) | (refine r_cond_true rfl ?_) | (refine r_cond_dec rfl (fun _ => ?_) (fun _ => ?_)) | (refine r_cond_true rfl ?_) | (refine r_cond_false rfl ?_) | (refine c_not rfl (fun _ => ?_) (fun _ => ?_)) | (refine r_off rfl rfl rfl ?_) | (refine q_guard rfl rfl (fun _ => ?_) (fun _ => ?_)) | (refine q_guardn rfl rfl (fun _ => ?_) (fun _ => ?_)))
            have hc2 : upd u fa.pb (.cells (fCells fa ts.length ((s.L.length : Int) + 1) Ao s.o.length co).toArray 140 (0, 0)) fa.pb = _ := upd_here ..
            have hat2 : At (upd u fa.pb (.cells (fCells fa ts.length ((s.L.length : Int) + 1) Ao s.o.length co).toArray 140 (0, 0))) fa.pb 0 (fCells fa ts.length ((s.L.length : Int) + 1) Ao s.o.length co) := ⟨_, _, _, hc2, fun j v hj => by simpa using hj⟩
            have hLab : Own (upd u fa.pb (.cells (fCells fa ts.length ((s.L.length : Int) + 1) Ao s.o.length co).toArray 140 (0, 0))) (some ⟨fa.bb, fa.ob, none⟩) ts.length fa.cb 3 1 (labV ts.length s.L) := hF.lab.le fun b o hb ho => by
              have e := Option.some.inj hb; subst e
              rw [upd_ne (Ne.symm hF.ap.2.1)]; exact ho
            repeat' (first | (refine r_pure hT rfl rfl rfl rfl ?_) | (refine r_new hT rfl rfl rfl rfl ?_) | (refine r_write hT rfl rfl rfl ?_) | (refine r_nil ?_) | (refine q_nil ?_) | (refine r_many (id := 7) [0, 1, 2, 3, 4, 5, 6, 7, 8, 9, 10] [11] _ (Le.refl _) hM (by kernel_rfl) rfl (by kernel_rfl) rfl rfl rfl (fun β0 => ?_)) | (refine r_load hT hat2 rfl rfl rfl rfl rfl rfl rfl rfl rfl rfl rfl ?_) | (refine r_index hT rfl rfl rfl rfl rfl rfl rfl rfl rfl hva.1 hva.2 ?_) | (refine r_store_own (o := v.a.toNat * 1) hT hLab rfl rfl rfl rfl rfl rfl rfl rfl rfl rfl rfl (by rw [labV_len]; show v.a.toNat * 1 + 1 ≤ ts.length; omega) (fun u2 hl2 hu2 => ?_)) | (refine m_late rfl rfl ?_) | (refine r_arith rfl rfl rfl rfl rfl rfl rfl (by omega) ?_) | (with_reducible refine r_seq ?_) | (with_reducible refine x_then ?_) | (with_reducible refine r_region ?_) | (with_reducible refine r_skip ?_) | (with_reducible refine r_ret ?_) | (with_reducible refine x_then_ret ?_) | (with_reducible refine r_block ?_) | (with_reducible refine x_block ?_) | (with_reducible refine x_block_ret ?_) | (with_reducible refine r_exit ?_) | (with_reducible refine x_then_exit ?_) | (with_reducible refine x_block_here ?_) | (refine x_block_past rfl ?_) | (refine c_yes rfl (by omega) ?_) | (refine c_no rfl (by omega) ?_) | (refine c_no rfl (fun h => h rfl) ?_) | (refine r_cond_false rfl ?_) | (refine r_cond_true rfl ?_) | (refine r_cond_dec rfl (fun _ => ?_) (fun _ => ?_)) | (refine r_cond_true rfl ?_) | (refine r_cond_false rfl ?_) | (refine c_not rfl (fun _ => ?_) (fun _ => ?_)) | (refine r_off rfl rfl rfl ?_) | (refine q_guard rfl rfl (fun _ => ?_) (fun _ => ?_)) | (refine q_guardn rfl rfl (fun _ => ?_) (fun _ => ?_)) | (refine s_nil ?_) | (with_reducible refine a_full ?_) | (refine m_step rfl rfl (List.cons_ne_nil _ _) ?_) | (refine allR_cons rfl ?_ ?_) | (exact allR_nil) | (refine m_end rfl rfl rfl ?_))
            rw [Nat.mul_one, show ((s.L.length : Int) + 1) = ((s.L.length + 1 : Nat) : Int) from rfl, labV_set hlt hin] at hl2
            have hF2 := hF.label hl2 hu2
            have hat3 := hF2.at_
            have hz0 : tx0 m dcN s v.a.toNat = ⟨s.L ++ [v.a.toNat], s.o ++ (35 :: dcN (s.L.length + 1) ++ [61]) ++ [123]⟩ := by unfold tx0; rw [if_pos hma]
            generalize tx0 m dcN s v.a.toNat = z0 at hr' hm1 hz0
            have hob := hm1.2
            rw [hz0] at hob
            simp only [List.length_append, List.length_cons, List.length_nil] at hob
            have hLl : (((s.L ++ [v.a.toNat]).length : Nat) : Int) = ((s.L.length + 1 : Nat) : Int) := by simp
            rw [hLl] at hat3
            have hdz : (dec ((s.L.length + 1 : Nat) : Int)).size = (dcN (s.L.length + 1)).length := rfl
            repeat' (first | (refine r_pure hT rfl rfl rfl rfl ?_) | (refine r_new hT rfl rfl rfl rfl ?_) | (refine r_write hT rfl rfl rfl ?_) | (refine r_nil ?_) | (refine q_nil ?_) | (refine r_load hT hat3 rfl rfl rfl rfl rfl rfl rfl rfl rfl rfl rfl ?_) | (refine p_call (dec137 ((s.L.length + 1 : Nat) : Int) (by omega) (by omega) _) rfl rfl rfl rfl rfl (hC _ rfl) rfl rfl rfl ?_) | (refine r_concat rfl rfl rfl rfl rfl rfl (by rw [hdz]; show 1 + _ ≤ _; omega) ?_) | (refine r_concat rfl rfl rfl rfl rfl rfl (by rw [ByteArray.size_append, hdz]; show 1 + _ + 1 ≤ _; omega) ?_) | (refine r_call (say135 h0 u2 fa ts Ao co rs (s.L ++ [v.a.toNat]) s.o (((⟨#[35]⟩ : ByteArray) ++ dec ((s.L.length + 1 : Nat) : Int)) ++ ⟨#[61]⟩) hF2 (by rw [ByteArray.size_append, ByteArray.size_append, hdz]; show _ + (1 + _ + 1) ≤ _; omega)) rfl rfl rfl rfl rfl (hC _ rfl) rfl rfl (fun y3 u3 hy3 => ?_)) | (refine r_call (say135 h0 u3 fa ts y3.1 y3.2 rs (s.L ++ [v.a.toNat]) _ ⟨#[123]⟩ hy3 (by rw [bs_cat, bs_cat]; simp only [List.length_append, dec_list]; show _ + (1 + (dcN (s.L.length + 1)).length + 1) + 1 ≤ _; omega)) rfl rfl rfl rfl rfl (hC _ rfl) rfl rfl (fun y4 u4 hy4 => ?_)) | (refine r_arith rfl rfl rfl rfl rfl rfl rfl (by omega) ?_) | (with_reducible refine r_seq ?_) | (with_reducible refine x_then ?_) | (with_reducible refine r_region ?_) | (with_reducible refine r_skip ?_) | (with_reducible refine r_ret ?_) | (with_reducible refine x_then_ret ?_) | (with_reducible refine r_block ?_) | (with_reducible refine x_block ?_) | (with_reducible refine x_block_ret ?_) | (with_reducible refine r_exit ?_) | (with_reducible refine x_then_exit ?_) | (with_reducible refine x_block_here ?_) | (refine x_block_past rfl ?_) | (refine c_yes rfl (by omega) ?_) | (refine c_no rfl (by omega) ?_) | (refine c_no rfl (fun h => h rfl) ?_) | (refine r_cond_false rfl ?_) | (refine r_cond_true rfl ?_) | (refine r_cond_dec rfl (fun _ => ?_) (fun _ => ?_)) | (refine r_cond_true rfl ?_) | (refine r_cond_false rfl ?_) | (refine c_not rfl (fun _ => ?_) (fun _ => ?_)) | (refine r_off rfl rfl rfl ?_) | (refine q_guard rfl rfl (fun _ => ?_) (fun _ => ?_)) | (refine q_guardn rfl rfl (fun _ => ?_) (fun _ => ?_)))
            rw [bs_cat, bs_cat, dec_list] at hy4
            have hFz : FSt h0 u4 fa ts y4.1 y4.2 rs z0.L z0.o := by rw [hz0]; exact hy4
            have hatz := hFz.at_
            unfold fCells at hatz
            rw [hAt] at hatz
            have hattz := hat.le hFz.base
            repeat' (first | (refine r_pure hT rfl rfl rfl rfl ?_) | (refine r_new hT rfl rfl rfl rfl ?_) | (refine r_write hT rfl rfl rfl ?_) | (refine r_nil ?_) | (refine q_nil ?_) | (refine r_draw (id := 10) hM (by kernel_rfl) ?_) | (refine r_load hT hatz rfl rfl rfl rfl rfl rfl rfl rfl rfl rfl rfl ?_) | (refine r_index hT rfl rfl rfl rfl rfl rfl rfl rfl rfl hva.1 hva.2 ?_) | (refine r_load hT hattz rfl rfl rfl rfl rfl (Nat.add_zero _).symm rfl rfl rfl rfl rfl ?_) | (refine r_arith rfl rfl rfl rfl rfl rfl rfl (by omega) ?_) | (with_reducible refine r_seq ?_) | (with_reducible refine x_then ?_) | (with_reducible refine r_region ?_) | (with_reducible refine r_skip ?_) | (with_reducible refine r_ret ?_) | (with_reducible refine x_then_ret ?_) | (with_reducible refine r_block ?_) | (with_reducible refine x_block ?_) | (with_reducible refine x_block_ret ?_) | (with_reducible refine r_exit ?_) | (with_reducible refine x_then_exit ?_) | (with_reducible refine x_block_here ?_) | (refine x_block_past rfl ?_) | (refine c_yes rfl (by omega) ?_) | (refine c_no rfl (by omega) ?_) | (refine c_no rfl (fun h => h rfl) ?_) | (refine r_cond_false rfl ?_) | (refine r_cond_true rfl ?_) | (refine r_cond_dec rfl (fun _ => ?_) (fun _ => ?_)) | (refine r_cond_true rfl ?_) | (refine r_cond_false rfl ?_) | (refine c_not rfl (fun _ => ?_) (fun _ => ?_)) | (refine r_off rfl rfl rfl ?_) | (refine q_guard rfl rfl (fun _ => ?_) (fun _ => ?_)) | (refine q_guardn rfl rfl (fun _ => ?_) (fun _ => ?_)))
            have htz : txp plT (tx ts m plT dcN f) (decide (0 < 0)) (t.drop 0) z0 = some r' := by rw [List.drop_zero, decide_eq_false (Nat.lt_irrefl 0)]; exact hr'
            clear hr'
            generalize y4.1 = Az at *
            generalize y4.2 = cz at *
            refine r_loop (γ := (Nat × Hp) × ((Option Addr × Nat) × TS)) (fun x => x.1.1 ≤ t.length ∧ FSt h0 x.1.2 fa ts x.2.1.1 x.2.1.2 rs x.2.2.L x.2.2.o ∧ txp plT (tx ts m plT dcN f) (decide (0 < x.1.1)) (t.drop x.1.1) x.2.2 = some r')
              (fun x => [(0, .v (.pointer (some ⟨fa.pb, 0, none⟩))), (3, .p 3 0), (81, .v (.slice A1 t.length c1)), (82, .v (.int .i64 (t.length : Int))), (83, .v (.int .i64 (x.1.1 : Int)))]) (fun _ => [(3, ⟨none, v.sv, 48⟩)]) (fun x => x.1.2) (fun x => t.length - x.1.1)
              ((0, u4), ((Az, cz), z0)) ⟨Nat.zero_le _, hFz, htz⟩ (into rfl ⟨rfl, rfl, rfl, rfl, rfl, trivial⟩ ⟨rfl, trivial⟩ rfl rfl) ?_
            rintro ⟨⟨j, uj⟩, ⟨⟨Aj, cj⟩, zj⟩⟩ ⟨hj, hFj, htj⟩
            dsimp only at *
            by_cases hltj : j < t.length
            · obtain ⟨b2, off2, p, rfl, hd2, hix2, hm2, hat2⟩ := (hp1.le hFj.base).elem Pr.c_len hltj
              rw [hd2, txp] at htj
              have hpk := hfit t hm p hm2
              split at htj
              · cases htj
              · rename_i s1 hs1
                have hm1 := txp_mono (fun s v r => tx_mono f s v r) _ _ _ _ htj
                have hm0 := tx_mono f _ _ _ hs1
                have hLe := hm0.trans hm1
                have hob := hLe.2
                simp only [List.length_append, List.length_cons, List.length_nil] at hob
                have hkp := plain136 p.key hpk.1
                have hbb : j = 0 ∨ 0 < j := by omega
                rcases hbb with rfl | hj0
                · rw [decide_eq_false (by omega : ¬ 0 < 0)] at hs1 hob
                  have hF1 : ∀ (y : Option Addr × Nat) (u' : Hp), FSt h0 u' fa ts y.1 y.2 rs zj.L (zj.o ++ ((⟨(plT p.key).toArray⟩ : ByteArray) ++ ⟨#[58, 32]⟩).data.toList) → FSt h0 u' fa ts y.1 y.2 rs zj.L (zj.o ++ (if false = true then [44, 32] else []) ++ plT p.key ++ [58, 32]) := fun y u' hh => by
                    rw [bs_cat] at hh
                    simpa [List.append_assoc] using hh
                  repeat' (first | (refine r_pure hT rfl rfl rfl rfl ?_) | (refine r_new hT rfl rfl rfl rfl ?_) | (refine r_write hT rfl rfl rfl ?_) | (refine r_nil ?_) | (refine q_nil ?_) | (refine r_indexN hT rfl rfl rfl rfl rfl rfl rfl rfl rfl (by omega) ?_) | (refine r_load hT hat2 rfl rfl rfl rfl rfl (Nat.add_zero _).symm rfl rfl rfl rfl rfl ?_) | (refine p_call (hkp _) rfl rfl rfl rfl rfl (hC _ rfl) rfl rfl rfl ?_) | (refine r_concat rfl rfl rfl rfl rfl rfl (by rw [bytes_size]; show _ + 2 ≤ _; simp at hob; omega) ?_) | (refine r_call (say135 h0 uj fa ts Aj cj rs zj.L zj.o ((⟨(plT p.key).toArray⟩ : ByteArray) ++ ⟨#[58, 32]⟩) hFj (by rw [ByteArray.size_append, bytes_size]; show _ + (_ + 2) ≤ _; simp at hob; omega)) rfl rfl rfl rfl rfl (hC _ rfl) rfl rfl (fun y u1 hy => ?_)) | (refine r_call (valF h0 fa ts hA hc hfit rs m hm' f ⟨zj.L, _⟩ p.val s1 u1 y.1 y.2 (hF1 y u1 hy) hs1 (hA t hm p hm2) hpk.2 (by have := hm1.1; omega) (by have := hm1.2; omega)) rfl rfl rfl rfl rfl (hC _ rfl) rfl rfl (fun y2 u2 hy2 => ?_)) | (refine r_arith rfl rfl rfl rfl rfl rfl rfl (by omega) ?_) | (with_reducible refine r_seq ?_) | (with_reducible refine x_then ?_) | (with_reducible refine r_region ?_) | (refine r_draw hM (by kernel_rfl) ?_) | (with_reducible refine r_skip ?_) | (with_reducible refine r_ret ?_) | (with_reducible refine x_then_ret ?_) | (with_reducible refine r_block ?_) | (with_reducible refine x_block ?_) | (with_reducible refine x_block_ret ?_) | (with_reducible refine r_exit ?_) | (with_reducible refine x_then_exit ?_) | (with_reducible refine x_block_here ?_) | (refine x_block_past rfl ?_) | (refine c_yes rfl (by omega) ?_) | (refine c_no rfl (by omega) ?_) | (refine c_no rfl (fun h => h rfl) ?_) | (refine r_cond_false rfl ?_) | (refine r_cond_true rfl ?_) | (refine r_cond_dec rfl (fun _ => ?_) (fun _ => ?_)) | (refine r_cond_true rfl ?_) | (refine r_cond_false rfl ?_) | (refine c_not rfl (fun _ => ?_) (fun _ => ?_)) | (refine r_off rfl rfl rfl ?_) | (refine q_guard rfl rfl (fun _ => ?_) (fun _ => ?_)) | (refine q_guardn rfl rfl (fun _ => ?_) (fun _ => ?_)))
                  exact x_round ((0 + 1, u2), (y2, s1)) ⟨hltj, hy2, htj⟩ (by dsimp only; omega) (into rfl ⟨rfl, rfl, rfl, rfl, rfl, trivial⟩ ⟨rfl, trivial⟩ rfl rfl)
                · rw [decide_eq_true hj0] at hs1 hob
                  have hF1 : ∀ (y : Option Addr × Nat) (u' : Hp), FSt h0 u' fa ts y.1 y.2 rs zj.L (zj.o ++ (⟨#[44, 32]⟩ : ByteArray).data.toList ++ ((⟨(plT p.key).toArray⟩ : ByteArray) ++ ⟨#[58, 32]⟩).data.toList) → FSt h0 u' fa ts y.1 y.2 rs zj.L (zj.o ++ (if true = true then [44, 32] else []) ++ plT p.key ++ [58, 32]) := fun y u' hh => by
                    rw [bs_cat] at hh
                    simpa [List.append_assoc] using hh
                  repeat' (first | (refine r_pure hT rfl rfl rfl rfl ?_) | (refine r_new hT rfl rfl rfl rfl ?_) | (refine r_write hT rfl rfl rfl ?_) | (refine r_nil ?_) | (refine q_nil ?_) | (refine r_indexN hT rfl rfl rfl rfl rfl rfl rfl rfl rfl (by omega) ?_) | (refine r_load hT hat2 rfl rfl rfl rfl rfl (Nat.add_zero _).symm rfl rfl rfl rfl rfl ?_) | (refine p_call (hkp _) rfl rfl rfl rfl rfl (hC _ rfl) rfl rfl rfl ?_) | (refine r_call (say135 h0 uj fa ts Aj cj rs zj.L zj.o ⟨#[44, 32]⟩ hFj (by show _ + 2 ≤ _; simp at hob; omega)) rfl rfl rfl rfl rfl (hC _ rfl) rfl rfl (fun y0 u0 hy0 => ?_)) | (refine r_concat rfl rfl rfl rfl rfl rfl (by rw [bytes_size]; show _ + 2 ≤ _; simp at hob; omega) ?_) | (refine r_call (say135 h0 u0 fa ts y0.1 y0.2 rs zj.L _ ((⟨(plT p.key).toArray⟩ : ByteArray) ++ ⟨#[58, 32]⟩) hy0 (by rw [ByteArray.size_append, bytes_size, List.length_append]; show _ + 2 + (_ + 2) ≤ _; simp at hob; omega)) rfl rfl rfl rfl rfl (hC _ rfl) rfl rfl (fun y u1 hy => ?_)) | (refine r_call (valF h0 fa ts hA hc hfit rs m hm' f ⟨zj.L, _⟩ p.val s1 u1 y.1 y.2 (hF1 y u1 hy) hs1 (hA t hm p hm2) hpk.2 (by have := hm1.1; omega) (by have := hm1.2; omega)) rfl rfl rfl rfl rfl (hC _ rfl) rfl rfl (fun y2 u2 hy2 => ?_)) | (refine r_arith rfl rfl rfl rfl rfl rfl rfl (by omega) ?_) | (with_reducible refine r_seq ?_) | (with_reducible refine x_then ?_) | (with_reducible refine r_region ?_) | (refine r_draw hM (by kernel_rfl) ?_) | (with_reducible refine r_skip ?_) | (with_reducible refine r_ret ?_) | (with_reducible refine x_then_ret ?_) | (with_reducible refine r_block ?_) | (with_reducible refine x_block ?_) | (with_reducible refine x_block_ret ?_) | (with_reducible refine r_exit ?_) | (with_reducible refine x_then_exit ?_) | (with_reducible refine x_block_here ?_) | (refine x_block_past rfl ?_) | (refine c_yes rfl (by omega) ?_) | (refine c_no rfl (by omega) ?_) | (refine c_no rfl (fun h => h rfl) ?_) | (refine r_cond_false rfl ?_) | (refine r_cond_true rfl ?_) | (refine r_cond_dec rfl (fun _ => ?_) (fun _ => ?_)) | (refine r_cond_true rfl ?_) | (refine r_cond_false rfl ?_) | (refine c_not rfl (fun _ => ?_) (fun _ => ?_)) | (refine r_off rfl rfl rfl ?_) | (refine q_guard rfl rfl (fun _ => ?_) (fun _ => ?_)) | (refine q_guardn rfl rfl (fun _ => ?_) (fun _ => ?_)))
                  exact x_round ((j + 1, u2), (y2, s1)) ⟨hltj, hy2, by rw [decide_eq_true (by omega : 0 < j + 1)]; exact htj⟩ (by dsimp only; omega) (into rfl ⟨rfl, rfl, rfl, rfl, rfl, trivial⟩ ⟨rfl, trivial⟩ rfl rfl)
            · obtain rfl : j = t.length := by omega
              rw [List.drop_length, txp] at htj
              obtain rfl := Option.some.inj htj
              repeat' (first | (refine r_pure hT rfl rfl rfl rfl ?_) | (refine r_new hT rfl rfl rfl rfl ?_) | (refine r_write hT rfl rfl rfl ?_) | (refine r_nil ?_) | (refine q_nil ?_) | (refine r_call (say135 h0 uj fa ts Aj cj rs zj.L zj.o ⟨#[125]⟩ hFj (by show _ + 1 ≤ _; omega)) rfl rfl rfl rfl rfl (hC _ rfl) rfl rfl (fun y u1 hy => ?_)) | (refine r_arith rfl rfl rfl rfl rfl rfl rfl (by omega) ?_) | (with_reducible refine r_seq ?_) | (with_reducible refine x_then ?_) | (with_reducible refine r_region ?_) | (refine r_draw hM (by kernel_rfl) ?_) | (with_reducible refine r_skip ?_) | (with_reducible refine r_ret ?_) | (with_reducible refine x_then_ret ?_) | (with_reducible refine r_block ?_) | (with_reducible refine x_block ?_) | (with_reducible refine x_block_ret ?_) | (with_reducible refine r_exit ?_) | (with_reducible refine x_then_exit ?_) | (with_reducible refine x_block_here ?_) | (refine x_block_past rfl ?_) | (refine c_yes rfl (by omega) ?_) | (refine c_no rfl (by omega) ?_) | (refine c_no rfl (fun h => h rfl) ?_) | (refine r_cond_false rfl ?_) | (refine r_cond_true rfl ?_) | (refine r_cond_dec rfl (fun _ => ?_) (fun _ => ?_)) | (refine r_cond_true rfl ?_) | (refine r_cond_false rfl ?_) | (refine c_not rfl (fun _ => ?_) (fun _ => ?_)) | (refine r_off rfl rfl rfl ?_) | (refine q_guard rfl rfl (fun _ => ?_) (fun _ => ?_)) | (refine q_guardn rfl rfl (fun _ => ?_) (fun _ => ?_)))
              exact r_fin hT rfl y rfl rfl rfl trivial rfl hy
          · have hma : m v.a.toNat = false := by rw [hm', decide_eq_false hmt]
            have hz0 : tx0 m dcN s v.a.toNat = ⟨s.L, s.o ++ [123]⟩ := by unfold tx0; rw [hma]; rfl
            generalize tx0 m dcN s v.a.toNat = z0 at hr' hm1 hz0
            have hob := hm1.2
            rw [hz0] at hob
            simp only [List.length_append, List.length_cons, List.length_nil] at hob
            repeat' (first | (refine r_pure hT rfl rfl rfl rfl ?_) | (refine r_new hT rfl rfl rfl rfl ?_) | (refine r_write hT rfl rfl rfl ?_) | (refine r_nil ?_) | (refine q_nil ?_) | (refine c_no rfl (fun h => h h4) ?_) | (refine r_draw (id := 3) hM (by kernel_rfl) ?_) | (refine r_draw (id := 5) hM (by kernel_rfl) ?_) | (refine r_load hT hatW rfl rfl rfl rfl rfl rfl rfl rfl rfl rfl rfl ?_) | (refine r_index hT rfl rfl rfl rfl rfl rfl rfl rfl rfl hva.1 hva.2 ?_) | (refine r_load hT hatn rfl rfl rfl rfl rfl (Nat.add_zero _).symm rfl rfl rfl rfl rfl ?_) | (refine r_load hT hatr rfl rfl rfl rfl rfl (Nat.add_zero _).symm rfl rfl rfl rfl rfl ?_) | (refine r_call (say135 h0 u fa ts Ao co rs s.L s.o ⟨#[123]⟩ hF (by show _ + 1 ≤ _; omega)) rfl rfl rfl rfl rfl (hC _ rfl) rfl rfl (fun y4 u4 hy4 => ?_)) | (refine r_arith rfl rfl rfl rfl rfl rfl rfl (by omega) ?_) | (with_reducible refine r_seq ?_) | (with_reducible refine x_then ?_) | (with_reducible refine r_region ?_) | (with_reducible refine r_skip ?_) | (with_reducible refine r_ret ?_) | (with_reducible refine x_then_ret ?_) | (with_reducible refine r_block ?_) | (with_reducible refine x_block ?_) | (with_reducible refine x_block_ret ?_) | (with_reducible refine r_exit ?_) | (with_reducible refine x_then_exit ?_) | (with_reducible refine x_block_here ?_) | (refine x_block_past rfl ?_) | (refine c_yes rfl (by omega) ?_) | (refine c_no rfl (by omega) ?_) | (refine c_no rfl (fun h => h rfl) ?_) | (refine r_cond_false rfl ?_) | (refine r_cond_true rfl ?_) | (refine r_cond_dec rfl (fun _ => ?_) (fun _ => ?_)) | (refine r_cond_true rfl ?_) | (refine r_cond_false rfl ?_) | (refine c_not rfl (fun _ => ?_) (fun _ => ?_)) | (refine r_off rfl rfl rfl ?_) | (refine q_guard rfl rfl (fun _ => ?_) (fun _ => ?_)) | (refine q_guardn rfl rfl (fun _ => ?_) (fun _ => ?_)))
            have hFz : FSt h0 u4 fa ts y4.1 y4.2 rs z0.L z0.o := by rw [hz0]; exact hy4
            have hatz := hFz.at_
            unfold fCells at hatz
            rw [hAt] at hatz
            have hattz := hat.le hFz.base
            repeat' (first | (refine r_pure hT rfl rfl rfl rfl ?_) | (refine r_new hT rfl rfl rfl rfl ?_) | (refine r_write hT rfl rfl rfl ?_) | (refine r_nil ?_) | (refine q_nil ?_) | (refine r_draw (id := 10) hM (by kernel_rfl) ?_) | (refine r_load hT hatz rfl rfl rfl rfl rfl rfl rfl rfl rfl rfl rfl ?_) | (refine r_index hT rfl rfl rfl rfl rfl rfl rfl rfl rfl hva.1 hva.2 ?_) | (refine r_load hT hattz rfl rfl rfl rfl rfl (Nat.add_zero _).symm rfl rfl rfl rfl rfl ?_) | (refine r_arith rfl rfl rfl rfl rfl rfl rfl (by omega) ?_) | (with_reducible refine r_seq ?_) | (with_reducible refine x_then ?_) | (with_reducible refine r_region ?_) | (with_reducible refine r_skip ?_) | (with_reducible refine r_ret ?_) | (with_reducible refine x_then_ret ?_) | (with_reducible refine r_block ?_) | (with_reducible refine x_block ?_) | (with_reducible refine x_block_ret ?_) | (with_reducible refine r_exit ?_) | (with_reducible refine x_then_exit ?_) | (with_reducible refine x_block_here ?_) | (refine x_block_past rfl ?_) | (refine c_yes rfl (by omega) ?_) | (refine c_no rfl (by omega) ?_) | (refine c_no rfl (fun h => h rfl) ?_) | (refine r_cond_false rfl ?_) | (refine r_cond_true rfl ?_) | (refine r_cond_dec rfl (fun _ => ?_) (fun _ => ?_)) | (refine r_cond_true rfl ?_) | (refine r_cond_false rfl ?_) | (refine c_not rfl (fun _ => ?_) (fun _ => ?_)) | (refine r_off rfl rfl rfl ?_) | (refine q_guard rfl rfl (fun _ => ?_) (fun _ => ?_)) | (refine q_guardn rfl rfl (fun _ => ?_) (fun _ => ?_)))
            have htz : txp plT (tx ts m plT dcN f) (decide (0 < 0)) (t.drop 0) z0 = some r' := by rw [List.drop_zero, decide_eq_false (Nat.lt_irrefl 0)]; exact hr'
            clear hr'
            generalize y4.1 = Az at *
            generalize y4.2 = cz at *
            refine r_loop (γ := (Nat × Hp) × ((Option Addr × Nat) × TS)) (fun x => x.1.1 ≤ t.length ∧ FSt h0 x.1.2 fa ts x.2.1.1 x.2.1.2 rs x.2.2.L x.2.2.o ∧ txp plT (tx ts m plT dcN f) (decide (0 < x.1.1)) (t.drop x.1.1) x.2.2 = some r')
              (fun x => [(0, .v (.pointer (some ⟨fa.pb, 0, none⟩))), (3, .p 3 0), (81, .v (.slice A1 t.length c1)), (82, .v (.int .i64 (t.length : Int))), (83, .v (.int .i64 (x.1.1 : Int)))]) (fun _ => [(3, ⟨none, v.sv, 48⟩)]) (fun x => x.1.2) (fun x => t.length - x.1.1)
              ((0, u4), ((Az, cz), z0)) ⟨Nat.zero_le _, hFz, htz⟩ (into rfl ⟨rfl, rfl, rfl, rfl, rfl, trivial⟩ ⟨rfl, trivial⟩ rfl rfl) ?_
            rintro ⟨⟨j, uj⟩, ⟨⟨Aj, cj⟩, zj⟩⟩ ⟨hj, hFj, htj⟩
            dsimp only at *
            by_cases hltj : j < t.length
            · obtain ⟨b2, off2, p, rfl, hd2, hix2, hm2, hat2⟩ := (hp1.le hFj.base).elem Pr.c_len hltj
              rw [hd2, txp] at htj
              have hpk := hfit t hm p hm2
              split at htj
              · cases htj
              · rename_i s1 hs1
                have hm1 := txp_mono (fun s v r => tx_mono f s v r) _ _ _ _ htj
                have hm0 := tx_mono f _ _ _ hs1
                have hLe := hm0.trans hm1
                have hob := hLe.2
                simp only [List.length_append, List.length_cons, List.length_nil] at hob
                have hkp := plain136 p.key hpk.1
                have hbb : j = 0 ∨ 0 < j := by omega
                rcases hbb with rfl | hj0
                · rw [decide_eq_false (by omega : ¬ 0 < 0)] at hs1 hob
                  have hF1 : ∀ (y : Option Addr × Nat) (u' : Hp), FSt h0 u' fa ts y.1 y.2 rs zj.L (zj.o ++ ((⟨(plT p.key).toArray⟩ : ByteArray) ++ ⟨#[58, 32]⟩).data.toList) → FSt h0 u' fa ts y.1 y.2 rs zj.L (zj.o ++ (if false = true then [44, 32] else []) ++ plT p.key ++ [58, 32]) := fun y u' hh => by
                    rw [bs_cat] at hh
                    simpa [List.append_assoc] using hh
                  repeat' (first | (refine r_pure hT rfl rfl rfl rfl ?_) | (refine r_new hT rfl rfl rfl rfl ?_) | (refine r_write hT rfl rfl rfl ?_) | (refine r_nil ?_) | (refine q_nil ?_) | (refine r_indexN hT rfl rfl rfl rfl rfl rfl rfl rfl rfl (by omega) ?_) | (refine r_load hT hat2 rfl rfl rfl rfl rfl (Nat.add_zero _).symm rfl rfl rfl rfl rfl ?_) | (refine p_call (hkp _) rfl rfl rfl rfl rfl (hC _ rfl) rfl rfl rfl ?_) | (refine r_concat rfl rfl rfl rfl rfl rfl (by rw [bytes_size]; show _ + 2 ≤ _; simp at hob; omega) ?_) | (refine r_call (say135 h0 uj fa ts Aj cj rs zj.L zj.o ((⟨(plT p.key).toArray⟩ : ByteArray) ++ ⟨#[58, 32]⟩) hFj (by rw [ByteArray.size_append, bytes_size]; show _ + (_ + 2) ≤ _; simp at hob; omega)) rfl rfl rfl rfl rfl (hC _ rfl) rfl rfl (fun y u1 hy => ?_)) | (refine r_call (valF h0 fa ts hA hc hfit rs m hm' f ⟨zj.L, _⟩ p.val s1 u1 y.1 y.2 (hF1 y u1 hy) hs1 (hA t hm p hm2) hpk.2 (by have := hm1.1; omega) (by have := hm1.2; omega)) rfl rfl rfl rfl rfl (hC _ rfl) rfl rfl (fun y2 u2 hy2 => ?_)) | (refine r_arith rfl rfl rfl rfl rfl rfl rfl (by omega) ?_) | (with_reducible refine r_seq ?_) | (with_reducible refine x_then ?_) | (with_reducible refine r_region ?_) | (refine r_draw hM (by kernel_rfl) ?_) | (with_reducible refine r_skip ?_) | (with_reducible refine r_ret ?_) | (with_reducible refine x_then_ret ?_) | (with_reducible refine r_block ?_) | (with_reducible refine x_block ?_) | (with_reducible refine x_block_ret ?_) | (with_reducible refine r_exit ?_) | (with_reducible refine x_then_exit ?_) | (with_reducible refine x_block_here ?_) | (refine x_block_past rfl ?_) | (refine c_yes rfl (by omega) ?_) | (refine c_no rfl (by omega) ?_) | (refine c_no rfl (fun h => h rfl) ?_) | (refine r_cond_false rfl ?_) | (refine r_cond_true rfl ?_) | (refine r_cond_dec rfl (fun _ => ?_) (fun _ => ?_)) | (refine r_cond_true rfl ?_) | (refine r_cond_false rfl ?_) | (refine c_not rfl (fun _ => ?_) (fun _ => ?_)) | (refine r_off rfl rfl rfl ?_) | (refine q_guard rfl rfl (fun _ => ?_) (fun _ => ?_)) | (refine q_guardn rfl rfl (fun _ => ?_) (fun _ => ?_)))
                  exact x_round ((0 + 1, u2), (y2, s1)) ⟨hltj, hy2, htj⟩ (by dsimp only; omega) (into rfl ⟨rfl, rfl, rfl, rfl, rfl, trivial⟩ ⟨rfl, trivial⟩ rfl rfl)
                · rw [decide_eq_true hj0] at hs1 hob
                  have hF1 : ∀ (y : Option Addr × Nat) (u' : Hp), FSt h0 u' fa ts y.1 y.2 rs zj.L (zj.o ++ (⟨#[44, 32]⟩ : ByteArray).data.toList ++ ((⟨(plT p.key).toArray⟩ : ByteArray) ++ ⟨#[58, 32]⟩).data.toList) → FSt h0 u' fa ts y.1 y.2 rs zj.L (zj.o ++ (if true = true then [44, 32] else []) ++ plT p.key ++ [58, 32]) := fun y u' hh => by
                    rw [bs_cat] at hh
                    simpa [List.append_assoc] using hh
                  repeat' (first | (refine r_pure hT rfl rfl rfl rfl ?_) | (refine r_new hT rfl rfl rfl rfl ?_) | (refine r_write hT rfl rfl rfl ?_) | (refine r_nil ?_) | (refine q_nil ?_) | (refine r_indexN hT rfl rfl rfl rfl rfl rfl rfl rfl rfl (by omega) ?_) | (refine r_load hT hat2 rfl rfl rfl rfl rfl (Nat.add_zero _).symm rfl rfl rfl rfl rfl ?_) | (refine p_call (hkp _) rfl rfl rfl rfl rfl (hC _ rfl) rfl rfl rfl ?_) | (refine r_call (say135 h0 uj fa ts Aj cj rs zj.L zj.o ⟨#[44, 32]⟩ hFj (by show _ + 2 ≤ _; simp at hob; omega)) rfl rfl rfl rfl rfl (hC _ rfl) rfl rfl (fun y0 u0 hy0 => ?_)) | (refine r_concat rfl rfl rfl rfl rfl rfl (by rw [bytes_size]; show _ + 2 ≤ _; simp at hob; omega) ?_) | (refine r_call (say135 h0 u0 fa ts y0.1 y0.2 rs zj.L _ ((⟨(plT p.key).toArray⟩ : ByteArray) ++ ⟨#[58, 32]⟩) hy0 (by rw [ByteArray.size_append, bytes_size, List.length_append]; show _ + 2 + (_ + 2) ≤ _; simp at hob; omega)) rfl rfl rfl rfl rfl (hC _ rfl) rfl rfl (fun y u1 hy => ?_)) | (refine r_call (valF h0 fa ts hA hc hfit rs m hm' f ⟨zj.L, _⟩ p.val s1 u1 y.1 y.2 (hF1 y u1 hy) hs1 (hA t hm p hm2) hpk.2 (by have := hm1.1; omega) (by have := hm1.2; omega)) rfl rfl rfl rfl rfl (hC _ rfl) rfl rfl (fun y2 u2 hy2 => ?_)) | (refine r_arith rfl rfl rfl rfl rfl rfl rfl (by omega) ?_) | (with_reducible refine r_seq ?_) | (with_reducible refine x_then ?_) | (with_reducible refine r_region ?_) | (refine r_draw hM (by kernel_rfl) ?_) | (with_reducible refine r_skip ?_) | (with_reducible refine r_ret ?_) | (with_reducible refine x_then_ret ?_) | (with_reducible refine r_block ?_) | (with_reducible refine x_block ?_) | (with_reducible refine x_block_ret ?_) | (with_reducible refine r_exit ?_) | (with_reducible refine x_then_exit ?_) | (with_reducible refine x_block_here ?_) | (refine x_block_past rfl ?_) | (refine c_yes rfl (by omega) ?_) | (refine c_no rfl (by omega) ?_) | (refine c_no rfl (fun h => h rfl) ?_) | (refine r_cond_false rfl ?_) | (refine r_cond_true rfl ?_) | (refine r_cond_dec rfl (fun _ => ?_) (fun _ => ?_)) | (refine r_cond_true rfl ?_) | (refine r_cond_false rfl ?_) | (refine c_not rfl (fun _ => ?_) (fun _ => ?_)) | (refine r_off rfl rfl rfl ?_) | (refine q_guard rfl rfl (fun _ => ?_) (fun _ => ?_)) | (refine q_guardn rfl rfl (fun _ => ?_) (fun _ => ?_)))
                  exact x_round ((j + 1, u2), (y2, s1)) ⟨hltj, hy2, by rw [decide_eq_true (by omega : 0 < j + 1)]; exact htj⟩ (by dsimp only; omega) (into rfl ⟨rfl, rfl, rfl, rfl, rfl, trivial⟩ ⟨rfl, trivial⟩ rfl rfl)
            · obtain rfl : j = t.length := by omega
              rw [List.drop_length, txp] at htj
              obtain rfl := Option.some.inj htj
              repeat' (first | (refine r_pure hT rfl rfl rfl rfl ?_) | (refine r_new hT rfl rfl rfl rfl ?_) | (refine r_write hT rfl rfl rfl ?_) | (refine r_nil ?_) | (refine q_nil ?_) | (refine r_call (say135 h0 uj fa ts Aj cj rs zj.L zj.o ⟨#[125]⟩ hFj (by show _ + 1 ≤ _; omega)) rfl rfl rfl rfl rfl (hC _ rfl) rfl rfl (fun y u1 hy => ?_)) | (refine r_arith rfl rfl rfl rfl rfl rfl rfl (by omega) ?_) | (with_reducible refine r_seq ?_) | (with_reducible refine x_then ?_) | (with_reducible refine r_region ?_) | (refine r_draw hM (by kernel_rfl) ?_) | (with_reducible refine r_skip ?_) | (with_reducible refine r_ret ?_) | (with_reducible refine x_then_ret ?_) | (with_reducible refine r_block ?_) | (with_reducible refine x_block ?_) | (with_reducible refine x_block_ret ?_) | (with_reducible refine r_exit ?_) | (with_reducible refine x_then_exit ?_) | (with_reducible refine x_block_here ?_) | (refine x_block_past rfl ?_) | (refine c_yes rfl (by omega) ?_) | (refine c_no rfl (by omega) ?_) | (refine c_no rfl (fun h => h rfl) ?_) | (refine r_cond_false rfl ?_) | (refine r_cond_true rfl ?_) | (refine r_cond_dec rfl (fun _ => ?_) (fun _ => ?_)) | (refine r_cond_true rfl ?_) | (refine r_cond_false rfl ?_) | (refine c_not rfl (fun _ => ?_) (fun _ => ?_)) | (refine r_off rfl rfl rfl ?_) | (refine q_guard rfl rfl (fun _ => ?_) (fun _ => ?_)) | (refine q_guardn rfl rfl (fun _ => ?_) (fun _ => ?_)))
              exact r_fin hT rfl y rfl rfl rfl trivial rfl hy
    · rw [if_neg h4] at ht
      obtain rfl := Option.some.inj ht
      have hb : s.o.length + (⟨(plT v).toArray⟩ : ByteArray).size ≤ 1000000000 := by rw [bytes_size]; rw [List.length_append] at hro; omega
      repeat' (first | (refine r_pure hT rfl rfl rfl rfl ?_) | (refine r_new hT rfl rfl rfl rfl ?_) | (refine r_write hT rfl rfl rfl ?_) | (refine r_nil ?_) | (refine q_nil ?_) | (refine c_yes rfl h4 ?_) | (refine p_call (plain136 v hvf u) rfl rfl rfl rfl rfl (hC _ rfl) rfl rfl rfl ?_) | (refine r_call (say135 h0 u fa ts Ao co rs s.L s.o ⟨(plT v).toArray⟩ hF hb) rfl rfl rfl rfl rfl (hC _ rfl) rfl rfl (fun y u1 hy => ?_)) | (refine r_arith rfl rfl rfl rfl rfl rfl rfl (by omega) ?_) | (with_reducible refine r_seq ?_) | (with_reducible refine x_then ?_) | (with_reducible refine r_region ?_) | (refine r_draw hM (by kernel_rfl) ?_) | (with_reducible refine r_skip ?_) | (with_reducible refine r_ret ?_) | (with_reducible refine x_then_ret ?_) | (with_reducible refine r_block ?_) | (with_reducible refine x_block ?_) | (with_reducible refine x_block_ret ?_) | (with_reducible refine r_exit ?_) | (with_reducible refine x_then_exit ?_) | (with_reducible refine x_block_here ?_) | (refine x_block_past rfl ?_) | (refine c_yes rfl (by omega) ?_) | (refine c_no rfl (by omega) ?_) | (refine c_no rfl (fun h => h rfl) ?_) | (refine r_cond_false rfl ?_) | (refine r_cond_true rfl ?_) | (refine r_cond_dec rfl (fun _ => ?_) (fun _ => ?_)) | (refine r_cond_true rfl ?_) | (refine r_cond_false rfl ?_) | (refine c_not rfl (fun _ => ?_) (fun _ => ?_)) | (refine r_off rfl rfl rfl ?_) | (refine q_guard rfl rfl (fun _ => ?_) (fun _ => ?_)) | (refine q_guardn rfl rfl (fun _ => ?_) (fun _ => ?_)))
      exact r_fin hT rfl y rfl rfl rfl trivial rfl hy
end Go.Proofs.YtkamfnmbidnhdaaDoor
/- The length of a map; labels as a map. -/
namespace Go.Sy
set_option linter.unusedVariables false
set_option linter.unusedSimpArgs false
section
variable {P : Program} {F : Fr} {tm : Tm} {L : Lm} {u : Hp} {Q : Exit → Act → World → Prop} {κ : Type} [DecidableEq κ] {ke : κ → Value}
theorem r_maplen {q : Md} {l : List Oper} {o : Oper} {r : List Oper} {d : Nat} {t : TypeId} {x : Operand} {g : Nat} {m : List (κ × Int)} (hM : MAt P ke u g m) (ht : P.underlying t = some (.map (P.mapKeyOf t) (P.mapElemOf t))) (hl : (m.length : Int) ≤ 9223372036854775807)
    (hw : wantE l tm o = some true) (ho : o.dst = some d) (hn : Nat.blt d F.n.z = true) (hop : o.op = .call { callee := .builtin .len, args := #[x], argTypes := #[t] }) (hx : ev tm x = some (.v (.map (some g))))
    (next : Run P Q F ((d, .v (.int .i64 (m.length : Int))) :: tm) L u q l r) : Run P Q F tm L u q l (o :: r) := by
  refine op_pure hw ho hn (fun β a w ht' hd => ⟨?_, rfl⟩) next
  have h1 : a.eval x = .map (some g) := by rw [ev_ok ht' hx, SV.den]
  obtain ⟨es, clock, hb, he, _⟩ := (hM.imap hd).here
  have hlen : es.size = m.length := by
    have := congrArg List.length he
    simpa using this
  have hrun := run_len_map (P := P) w t o.type g es clock ht hb
  simp [execOp, hop, h1, resolve, invoke, builtin, hrun, hlen, SV.den, goInt]
end
def labF : Nat → List Nat → List (Int × Int)
  | _, [] => []
  | k, a :: r => ((a : Int), ((k + 1 : Nat) : Int)) :: labF (k + 1) r
def labM (L : List Nat) : List (Int × Int) := labF 0 L
theorem labF_get (a : Nat) : ∀ (k : Nat) (L : List Nat), mget (labF k L) (a : Int) = if a ∈ L then ((k + L.idxOf a + 1 : Nat) : Int) else 0
  | k, [] => rfl
  | k, b :: r => by
    have ih := labF_get a (k + 1) r
    by_cases e : a = b
    · subst e
      simp [labF, mget]
    · have e1 : mget (labF k (b :: r)) (a : Int) = mget (labF (k + 1) r) (a : Int) := by
        have : ¬ ((a : Int) = (b : Int)) := by omega
        simp [labF, mget, this]
      have e2 : (b == a) = false := by simp; omega
      rw [e1, ih, List.idxOf_cons, e2]
      simp only [List.mem_cons, e, false_or, cond_false]
      split
      · congr 1; omega
      · rfl
theorem labM_get (L : List Nat) (a : Nat) : mget (labM L) (a : Int) = if a ∈ L then ((L.idxOf a + 1 : Nat) : Int) else 0 := by
  unfold labM
  rw [labF_get]
  simp
theorem labF_snoc (a : Nat) : ∀ (k : Nat) (L : List Nat), labF k (L ++ [a]) = labF k L ++ [((a : Int), ((k + L.length + 1 : Nat) : Int))]
  | k, [] => rfl
  | k, b :: r => by
    rw [List.cons_append, labF, labF_snoc a (k + 1) r, labF, List.cons_append, List.length_cons]
    congr 4
    omega
theorem labF_keys : ∀ (k : Nat) (L : List Nat), (labF k L).map (·.1) = L.map fun a : Nat => (a : Int)
  | _, [] => rfl
  | k, b :: r => by rw [labF, List.map_cons, labF_keys (k + 1) r]; rfl
theorem labM_len (L : List Nat) : (labM L).length = L.length := by
  have := congrArg List.length (labF_keys 0 L)
  simpa [labM] using this
theorem labM_set {L : List Nat} {a : Nat} (h : a ∉ L) : mset (labM L) (a : Int) ((L.length + 1 : Nat) : Int) = labM (L ++ [a]) := by
  have hk : (a : Int) ∉ (labF 0 L).map (·.1) := fun hm => by
    rw [labF_keys] at hm
    obtain ⟨b, hb, e⟩ := List.mem_map.1 hm
    have e2 : b = a := by exact_mod_cast e
    exact h (e2 ▸ hb)
  unfold labM
  rw [mset_new _ _ hk, labF_snoc]
  simp
end Go.Sy
