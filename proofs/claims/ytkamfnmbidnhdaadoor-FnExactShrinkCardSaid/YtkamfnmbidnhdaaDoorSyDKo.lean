/- spec.Same. No condition. -/
import Derived.Test.YtkamfnmbidnhdaaDoorSqCA
import Derived.Test.YtkamfnmbidnhdaaDoorSqBF
set_option linter.unusedVariables false
set_option linter.unusedSimpArgs false
set_option linter.unusedSectionVars false
namespace Go.Proofs.YtkamfnmbidnhdaaDoor
open Go.Sy
set_option maxRecDepth 100000
set_option maxHeartbeats 4000000
set_option linter.unusedVariables false
set_option linter.unusedSimpArgs false
/-- What Same answers. -/
def sameB (v v' : V) (a b : List (List Pr)) : Bool := if GOk v a ∧ GOk v' b then alike (cls ((both a b).map srt)) v (shV a.length v') else false
theorem both_len (a b : List (List Pr)) : (both a b).length = a.length + b.length := by simp [both]
theorem clsB_len {v v' : V} {a b : List (List Pr)} (hg : GOk v a) (hg' : GOk v' b) (hr : RngG v a) (hr' : RngG v' b) : ClOk (both a b) ∧ (cls ((both a b).map srt)).length = a.length + b.length := by
  have h1 := cl_both (gok_cl hg hr) (gok_cl hg' hr') hg.1 hg'.1
  exact ⟨h1, by rw [cls_len _ h1.inSrt, List.length_map, both_len]⟩
theorem gok_rows {v : V} {ts : List (List Pr)} (h : GOk v ts) : (∀ t ∈ ts, t.length ≤ 1000) ∧ ∀ t ∈ ts, ∀ p ∈ t, In ts.length p.val :=
  ⟨fun t ht => Nat.le_trans (h.2.2 t ht).1 (by decide), (gok_in h).1⟩
theorem specSame (v v' : V) (a b : List (List Pr)) (A B : Option Addr) (n c m d : Nat) (h : Hp) (hPa : Tabs h A n a) (hPb : Tabs h B m b) (hr : RngG v a) (hr' : RngG v' b) :
    TriS Tryd.prog 38 [.ag (gsv v A n c), .ag (gsv v' B m d)] [] h (fun y : Bool => .v (.bool y)) (fun _ => []) (fun y h' => y = sameB v v' a b ∧ Le h h') := by
  have hna := hPa.len
  have hnb := hPb.len
  subst hna
  subst hnb
  refine enterS Tryd.func38 rfl (n := 34) rfl rfl (fun k N => ?_)
  have hs1 := specOk v a A a.length c h hPa
  have hs2 := specOk v' b B b.length d h hPb
  by_cases hg : GOk v a
  · rw [decide_eq_true hg] at hs1
    by_cases hg' : GOk v' b
    · rw [decide_eq_true hg'] at hs2
      have hsb : sameB v v' a b = alike (cls ((both a b).map srt)) v (shV a.length v') := if_pos ⟨hg, hg'⟩
      rw [hsb]
      obtain ⟨hCl, hcl⟩ := clsB_len hg hg' hr hr'
      have hrw := gok_rows hg'
      have hia := (gok_in hg).2.1
      have hib := (gok_in hg').2.1
      have hn1 := hg.1
      have hn2 := hg'.1
      have hbl := both_len a b
      have hiv : In (cls ((both a b).map srt)).length v := fun e => by have := hia e; omega
      have hb87 := both87 v v' a b A B a.length c b.length d h hPa hPb hg.1 hg'.1 hrw.1 hrw.2
      by_cases h4 : v'.k = 4
      · have hva := hib h4
        have hsh : shV a.length v' = ⟨v'.k, v'.n, v'.s, v'.a + (a.length : Int)⟩ := if_pos h4
        rw [hsh]
        have hir : In (cls ((both a b).map srt)).length ⟨v'.k, v'.n, v'.s, v'.a + (a.length : Int)⟩ := fun e => by simp only; omega
        repeat' (first | (refine r_pure hT rfl rfl rfl rfl ?_) | (refine r_new hT rfl rfl rfl rfl ?_) | (refine r_write hT rfl rfl rfl ?_) | (refine r_nil ?_) | (refine q_nil ?_) | (refine p_call hs1 rfl rfl rfl rfl rfl (hC _ rfl) rfl rfl rfl ?_) | (refine p_call hs2 rfl rfl rfl rfl rfl (hC _ rfl) rfl rfl rfl ?_) | (refine c_yes rfl h4 ?_) | (refine r_many (id := 6) [0, 1, 2, 3, 4] [] h (Le.refl h) hM (by kernel_rfl) rfl (by kernel_rfl) rfl rfl rfl (fun β0 => ?_)) | (refine r_call hb87 rfl rfl rfl rfl rfl (hC _ rfl) rfl rfl (fun y1 u1 hy1 => ?_)) | (refine m_keep hy1.2 ⟨rfl, rfl, rfl, trivial⟩ rfl rfl ?_) | (refine r_call (classes86 (both a b) y1.1 _ y1.2 _ hy1.1 hCl) rfl rfl rfl rfl rfl (hC _ rfl) rfl rfl (fun y2 u2 hy2 => ?_)) | (refine m_keep (hy1.2.trans hy2.2.1) ⟨rfl, rfl, rfl, trivial⟩ rfl rfl ?_) | (refine p_call (alike85 v ⟨v'.k, v'.n, v'.s, v'.a + (a.length : Int)⟩ (cls ((both a b).map srt)) y2.1 _ y2.2 _ ⟨by rw [cI_len, hcl, hbl], hy2.1.sl⟩ hiv hir) rfl rfl rfl rfl rfl (hC _ rfl) rfl rfl rfl ?_) | (refine m_keep (hy1.2.trans hy2.2.1) ⟨rfl, rfl, rfl, trivial⟩ rfl rfl ?_) | (refine r_arith rfl rfl rfl rfl rfl rfl rfl (by omega) ?_) | (with_reducible refine r_seq ?_) | (with_reducible refine x_then ?_) | (with_reducible refine r_region ?_) | (with_reducible refine r_skip ?_) | (with_reducible refine r_ret ?_) | (with_reducible refine x_then_ret ?_) | (with_reducible refine r_block ?_) | (with_reducible refine x_block ?_) | (with_reducible refine x_block_ret ?_) | (with_reducible refine r_exit ?_) | (with_reducible refine x_then_exit ?_) | (with_reducible refine x_block_here ?_) | (refine x_block_past rfl ?_) | (refine c_yes rfl (by omega) ?_) | (refine c_no rfl (by omega) ?_) | (refine c_no rfl (fun h => h rfl) ?_) | (refine r_cond_false rfl ?_) | (refine r_cond_true rfl ?_) | (refine r_cond_dec rfl (fun _ => ?_) (fun _ => ?_)) | (refine r_cond_true rfl ?_) | (refine r_cond_false rfl ?_) | (refine c_not rfl (fun _ => ?_) (fun _ => ?_)) | (refine r_off rfl rfl rfl ?_) | (refine q_guard rfl rfl (fun _ => ?_) (fun _ => ?_)) | (refine q_guardn rfl rfl (fun _ => ?_) (fun _ => ?_)) | (refine s_nil ?_) | (with_reducible refine a_full ?_) | (refine m_step rfl rfl (List.cons_ne_nil _ _) ?_) | (refine allR_cons rfl ?_ ?_) | (exact allR_nil) | (refine m_end rfl rfl rfl ?_))
        exact r_fin hT rfl _ rfl rfl rfl trivial rfl ⟨rfl, hy1.2.trans hy2.2.1⟩
      · have hsh : shV a.length v' = v' := if_neg h4
        rw [hsh]
        have hir : In (cls ((both a b).map srt)).length v' := fun e => absurd e h4
        repeat' (first | (refine r_pure hT rfl rfl rfl rfl ?_) | (refine r_new hT rfl rfl rfl rfl ?_) | (refine r_write hT rfl rfl rfl ?_) | (refine r_nil ?_) | (refine q_nil ?_) | (refine p_call hs1 rfl rfl rfl rfl rfl (hC _ rfl) rfl rfl rfl ?_) | (refine p_call hs2 rfl rfl rfl rfl rfl (hC _ rfl) rfl rfl rfl ?_) | (refine c_no rfl h4 ?_) | (refine r_many (id := 6) [0, 1, 2, 3, 4] [] h (Le.refl h) hM (by kernel_rfl) rfl (by kernel_rfl) rfl rfl rfl (fun β0 => ?_)) | (refine r_call hb87 rfl rfl rfl rfl rfl (hC _ rfl) rfl rfl (fun y1 u1 hy1 => ?_)) | (refine m_keep hy1.2 ⟨rfl, rfl, rfl, trivial⟩ rfl rfl ?_) | (refine r_call (classes86 (both a b) y1.1 _ y1.2 _ hy1.1 hCl) rfl rfl rfl rfl rfl (hC _ rfl) rfl rfl (fun y2 u2 hy2 => ?_)) | (refine m_keep (hy1.2.trans hy2.2.1) ⟨rfl, rfl, rfl, trivial⟩ rfl rfl ?_) | (refine p_call (alike85 v v' (cls ((both a b).map srt)) y2.1 _ y2.2 _ ⟨by rw [cI_len, hcl, hbl], hy2.1.sl⟩ hiv hir) rfl rfl rfl rfl rfl (hC _ rfl) rfl rfl rfl ?_) | (refine m_keep (hy1.2.trans hy2.2.1) ⟨rfl, rfl, rfl, trivial⟩ rfl rfl ?_) | (refine r_arith rfl rfl rfl rfl rfl rfl rfl (by omega) ?_) | (with_reducible refine r_seq ?_) | (with_reducible refine x_then ?_) | (with_reducible refine r_region ?_) | (with_reducible refine r_skip ?_) | (with_reducible refine r_ret ?_) | (with_reducible refine x_then_ret ?_) | (with_reducible refine r_block ?_) | (with_reducible refine x_block ?_) | (with_reducible refine x_block_ret ?_) | (with_reducible refine r_exit ?_) | (with_reducible refine x_then_exit ?_) | (with_reducible refine x_block_here ?_) | (refine x_block_past rfl ?_) | (refine c_yes rfl (by omega) ?_) | (refine c_no rfl (by omega) ?_) | (refine c_no rfl (fun h => h rfl) ?_) | (refine r_cond_false rfl ?_) | (refine r_cond_true rfl ?_) | (refine r_cond_dec rfl (fun _ => ?_) (fun _ => ?_)) | (refine r_cond_true rfl ?_) | (refine r_cond_false rfl ?_) | (refine c_not rfl (fun _ => ?_) (fun _ => ?_)) | (refine r_off rfl rfl rfl ?_) | (refine q_guard rfl rfl (fun _ => ?_) (fun _ => ?_)) | (refine q_guardn rfl rfl (fun _ => ?_) (fun _ => ?_)) | (refine s_nil ?_) | (with_reducible refine a_full ?_) | (refine m_step rfl rfl (List.cons_ne_nil _ _) ?_) | (refine allR_cons rfl ?_ ?_) | (exact allR_nil) | (refine m_end rfl rfl rfl ?_))
        exact r_fin hT rfl _ rfl rfl rfl trivial rfl ⟨rfl, hy1.2.trans hy2.2.1⟩
    · rw [decide_eq_false hg'] at hs2
      have hsb : sameB v v' a b = false := if_neg (fun x => hg' x.2)
      repeat' (first | (refine r_pure hT rfl rfl rfl rfl ?_) | (refine r_new hT rfl rfl rfl rfl ?_) | (refine r_write hT rfl rfl rfl ?_) | (refine r_nil ?_) | (refine q_nil ?_) | (refine p_call hs1 rfl rfl rfl rfl rfl (hC _ rfl) rfl rfl rfl ?_) | (refine p_call hs2 rfl rfl rfl rfl rfl (hC _ rfl) rfl rfl rfl ?_) | (refine r_arith rfl rfl rfl rfl rfl rfl rfl (by omega) ?_) | (with_reducible refine r_seq ?_) | (with_reducible refine x_then ?_) | (with_reducible refine r_region ?_) | (refine r_draw hM (by kernel_rfl) ?_) | (with_reducible refine r_skip ?_) | (with_reducible refine r_ret ?_) | (with_reducible refine x_then_ret ?_) | (with_reducible refine r_block ?_) | (with_reducible refine x_block ?_) | (with_reducible refine x_block_ret ?_) | (with_reducible refine r_exit ?_) | (with_reducible refine x_then_exit ?_) | (with_reducible refine x_block_here ?_) | (refine x_block_past rfl ?_) | (refine c_yes rfl (by omega) ?_) | (refine c_no rfl (by omega) ?_) | (refine c_no rfl (fun h => h rfl) ?_) | (refine r_cond_false rfl ?_) | (refine r_cond_true rfl ?_) | (refine r_cond_dec rfl (fun _ => ?_) (fun _ => ?_)) | (refine r_cond_true rfl ?_) | (refine r_cond_false rfl ?_) | (refine c_not rfl (fun _ => ?_) (fun _ => ?_)) | (refine r_off rfl rfl rfl ?_) | (refine q_guard rfl rfl (fun _ => ?_) (fun _ => ?_)) | (refine q_guardn rfl rfl (fun _ => ?_) (fun _ => ?_)))
      exact r_fin hT rfl (false : Bool) rfl rfl rfl trivial rfl ⟨hsb.symm, Le.refl h⟩
  · rw [decide_eq_false hg] at hs1
    have hsb : sameB v v' a b = false := if_neg (fun x => hg x.1)
    repeat' (first | (refine r_pure hT rfl rfl rfl rfl ?_) | (refine r_new hT rfl rfl rfl rfl ?_) | (refine r_write hT rfl rfl rfl ?_) | (refine r_nil ?_) | (refine q_nil ?_) | (refine p_call hs1 rfl rfl rfl rfl rfl (hC _ rfl) rfl rfl rfl ?_) | (refine r_arith rfl rfl rfl rfl rfl rfl rfl (by omega) ?_) | (with_reducible refine r_seq ?_) | (with_reducible refine x_then ?_) | (with_reducible refine r_region ?_) | (refine r_draw hM (by kernel_rfl) ?_) | (with_reducible refine r_skip ?_) | (with_reducible refine r_ret ?_) | (with_reducible refine x_then_ret ?_) | (with_reducible refine r_block ?_) | (with_reducible refine x_block ?_) | (with_reducible refine x_block_ret ?_) | (with_reducible refine r_exit ?_) | (with_reducible refine x_then_exit ?_) | (with_reducible refine x_block_here ?_) | (refine x_block_past rfl ?_) | (refine c_yes rfl (by omega) ?_) | (refine c_no rfl (by omega) ?_) | (refine c_no rfl (fun h => h rfl) ?_) | (refine r_cond_false rfl ?_) | (refine r_cond_true rfl ?_) | (refine r_cond_dec rfl (fun _ => ?_) (fun _ => ?_)) | (refine r_cond_true rfl ?_) | (refine r_cond_false rfl ?_) | (refine c_not rfl (fun _ => ?_) (fun _ => ?_)) | (refine r_off rfl rfl rfl ?_) | (refine q_guard rfl rfl (fun _ => ?_) (fun _ => ?_)) | (refine q_guardn rfl rfl (fun _ => ?_) (fun _ => ?_)))
    exact r_fin hT rfl (false : Bool) rfl rfl rfl trivial rfl ⟨hsb.symm, Le.refl h⟩
end Go.Proofs.YtkamfnmbidnhdaaDoor
