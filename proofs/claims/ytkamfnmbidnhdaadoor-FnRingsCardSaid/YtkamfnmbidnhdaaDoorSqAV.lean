/- impl's freezer: tables. No condition. -/
import Derived.Test.YtkamfnmbidnhdaaDoorSqAU
import Derived.Test.YtkamfnmbidnhdaaDoorSqAH
import Derived.Test.YtkamfnmbidnhdaaDoorSqAJ
set_option linter.unusedVariables false
set_option linter.unusedSimpArgs false
set_option linter.unusedSectionVars false
namespace Go.Proofs.YtkamfnmbidnhdaaDoor
open Go.Sy
set_option maxRecDepth 100000
set_option maxHeartbeats 8000000
set_option linter.unusedVariables false
set_option linter.unusedSimpArgs false
theorem ZSt.lab {h0 u u2 : Hp} {a : ZA} {ts : List (List Pr)} {ad : Value} {Ab : Option Addr} {cb : Nat} {rs L L' : List Nat} {o : List UInt8} (h : ZSt h0 u a ts ad Ab cb rs L o) (hM : MAt Tryd.prog iKey u2 a.gm (labM L')) (hu : ∀ x, x ≠ a.gm → u2 x = u x) : ZSt h0 u2 a ts ad Ab cb rs L' o := by
  obtain ⟨p1, p2, p3, p4, p5⟩ := h.ap
  exact ⟨⟨by rw [hu _ (Ne.symm p2)]; exact h.b.cell, h.b.own.le fun b o hb ho => (by rw [hu _ (fun e => p5 (by rw [← e]; exact hb))]; exact ho), h.b.hd, h.b.adr, fun x o hx => by rw [hu x (fun e => by rw [e, h.hg] at hx; cases hx)]; exact h.b.base x o hx, h.b.hp, h.b.ho, h.b.ap⟩,
    h.led.le fun b o hb ho => (by have e := Option.some.inj hb; subst e; rw [hu _ (Ne.symm p3)]; exact ho), hM, h.hl, h.hg, h.ap, h.tabs, h.tab10⟩
theorem tx_leaf {ts : List (List Pr)} {m : Nat → Bool} {f : Nat} {s r : TS} {v : V} (h : tx ts m plT dcN f s v = some r) (h4 : v.k ≠ 4) : r = ⟨s.L, s.o ++ plT v⟩ := by
  cases f with
  | zero => cases h
  | succ f => rw [tx, if_neg h4] at h; exact (Option.some.inj h).symm
def Kinds (ts : List (List Pr)) : Prop := ∀ t ∈ ts, ∀ p ∈ t, (p.key.k = 1 ∨ p.key.k = 2 ∨ p.key.k = 3) ∧ (p.val.k = 0 ∨ p.val.k = 1 ∨ p.val.k = 2 ∨ p.val.k = 3 ∨ p.val.k = 4)
theorem map90L : Tryd.prog.underlying 90 = some (.map (Tryd.prog.mapKeyOf 90) (Tryd.prog.mapElemOf 90)) := by kernel_rfl
theorem tableI (h0 : Hp) (fa : ZA) (ts : List (List Pr)) (hA : AllIn ts) (hn : ts.length ≤ 1000) (htb : ∀ t ∈ ts, t.length ≤ 1000000000) (hfit : Fit ts) (hkd : Kinds ts) (rs : List Nat) (m : Nat → Bool) (hm' : ∀ a, m a = decide (1 < rs.count a)) : ∀ (f : Nat) (s : TS) (v : V) (r : TS) (u : Hp) (Ab : Option Addr) (cb : Nat) (ad : Value),
    ZSt h0 u fa ts ad Ab cb rs s.L s.o → v.k = 4 → tx ts m plT dcN f s v = some r → In ts.length v → r.L.length ≤ 1000000 → r.o.length ≤ 900000000 →
    TriS Tryd.prog 113 [.v (.pointer (some ⟨fa.pb, 0, none⟩)), .v (.int .i64 v.a)] [] u (fun _ : Option Addr × Nat => .tu []) (fun _ => []) (fun y u' => ZSt h0 u' fa ts (zad fa) y.1 y.2 rs r.L r.o)
  | 0, s, v, r, u, Ab, cb, ad, hZ, h4, ht, hv, hrL, hro => by cases ht
  | f + 1, s, v, r, u, Ab, cb, ad, hZ, h4, ht, hv, hrL, hro => by
    refine enterS Tryd.func113 rfl (n := 96) rfl rfl (fun k N => ?_)
    have hmono := tx_mono _ _ _ _ ht
    have hsL := Nat.le_trans hmono.1 hrL
    have hso := Nat.le_trans hmono.2 hro
    rw [tx, if_pos h4] at ht
    have hva := hv h4
    have hlt : v.a.toNat < ts.length := by omega
    have hcast : ((v.a.toNat : Nat) : Int) = v.a := by omega
    have hatW := hZ.at_
    have hmg := labM_get s.L v.a.toNat
    rw [hcast] at hmg
    have hatr := own_at hZ.led (ledV_get rs hlt)
    have htab := hZ.tab10.le hZ.b.base
    by_cases hin : v.a.toNat ∈ s.L
    · rw [if_pos hin] at ht hmg
      obtain rfl := Option.some.inj ht
      have hix := List.idxOf_lt_length_iff.2 hin
      have hsz : (⟨#[35]⟩ : ByteArray).size = 1 := rfl
      have hdl : s.o.length + ((⟨#[35]⟩ : ByteArray) ++ dec ((s.L.idxOf v.a.toNat + 1 : Nat) : Int)).size ≤ 900000000 := by
        simp only [List.length_append, List.length_cons] at hro
        rw [ByteArray.size_append, hsz]
        show _ + (1 + (dcN (s.L.idxOf v.a.toNat + 1)).length) ≤ _
        omega
      have hds : 1 + (dec ((s.L.idxOf v.a.toNat + 1 : Nat) : Int)).size ≤ 9223372036854775807 := by rw [ByteArray.size_append, hsz] at hdl; omega
      generalize hI : s.L.idxOf v.a.toNat + 1 = I at *
      repeat' (first | (refine r_pure hT rfl rfl rfl rfl ?_) | (refine r_new hT rfl rfl rfl rfl ?_) | (refine r_write hT rfl rfl rfl ?_) | (refine r_nil ?_) | (refine q_nil ?_) | (refine r_load hT hatW rfl rfl rfl rfl rfl rfl rfl rfl rfl rfl rfl ?_) | ((refine r_look iKeyOps v.a hZ.map map88 zero3 rfl rfl rfl rfl rfl rfl rfl ?_ ; rw [hmg])) | (refine r_manyD (id := 2) [0, 1, 2, 3] [6] u (Le.refl u) hM (by kernel_rfl) rfl (by kernel_rfl) rfl rfl rfl (fun β0 => ?_)) | (refine p_call (itoa115 ((I : Nat) : Int) (by omega) (by omega) u htab) rfl rfl rfl rfl rfl (hC _ rfl) rfl rfl rfl ?_) | (refine m_keep (Le.refl u) trivial rfl rfl ?_) | (refine r_concat rfl rfl rfl rfl rfl rfl hds ?_) | (refine r_call (saysI h0 u fa ts ad Ab cb rs s.L s.o ((⟨#[35]⟩ : ByteArray) ++ dec ((I : Nat) : Int)) hZ (by omega)) rfl rfl rfl rfl rfl (hC _ rfl) rfl rfl (fun y u1 hy => ?_)) | (refine m_late rfl rfl ?_) | (refine r_arith rfl rfl rfl rfl rfl rfl rfl (by omega) ?_) | (with_reducible refine r_seq ?_) | (with_reducible refine x_then ?_) | (with_reducible refine r_region ?_) | (with_reducible refine r_skip ?_) | (with_reducible refine r_ret ?_) | (with_reducible refine x_then_ret ?_) | (with_reducible refine r_block ?_) | (with_reducible refine x_block ?_) | (with_reducible refine x_block_ret ?_) | (with_reducible refine r_exit ?_) | (with_reducible refine x_then_exit ?_) | (with_reducible refine x_block_here ?_) | (refine x_block_past rfl ?_) | (refine c_yes rfl (by omega) ?_) | (refine c_no rfl (by omega) ?_) | (refine c_no rfl (fun h => h rfl) ?_) | (refine r_cond_false rfl ?_) | (refine r_cond_true rfl ?_) | (refine r_cond_dec rfl (fun _ => ?_) (fun _ => ?_)) | (refine r_cond_true rfl ?_) | (refine r_cond_false rfl ?_) | (refine c_not rfl (fun _ => ?_) (fun _ => ?_)) | (refine r_off rfl rfl rfl ?_) | (refine q_guard rfl rfl (fun _ => ?_) (fun _ => ?_)) | (refine q_guardn rfl rfl (fun _ => ?_) (fun _ => ?_)) | (refine s_nil ?_) | (with_reducible refine a_full ?_) | (refine m_step rfl rfl (List.cons_ne_nil _ _) ?_) | (refine allR_cons rfl ?_ ?_) | (exact allR_nil) | (refine m_end rfl rfl rfl ?_))
      rw [bs_cat] at hy
      exact r_fin hT rfl y rfl rfl rfl trivial rfl hy
    · rw [if_neg hin] at ht hmg
      obtain ⟨bt, offt, A1, n1, c1, t, hAt, hd, hix, hm, hat, hc1, hp1⟩ := hZ.tabs.elem hlt
      obtain rfl := hp1.1
      have hgd : ts.getD v.a.toNat [] = t := by rw [List.getD_eq_getElem?_getD, hix]; rfl
      have htl : t.length ≤ c1 := hc1
      have htl2 : t.length ≤ 1000000000 := htb t hm
      rw [hgd] at ht
      split at ht
      · cases ht
      · rename_i r' hr'
        obtain rfl := Option.some.inj ht
        dsimp only at *
        rw [List.length_append, List.length_singleton] at hro
        have hm1 := txp_mono (fun s v r => tx_mono f s v r) _ _ _ _ hr'
        by_cases hmt : 1 < rs.count v.a.toNat
        · have hma : m v.a.toNat = true := by rw [hm', decide_eq_true hmt]
          have hz0 : tx0 m dcN s v.a.toNat = ⟨s.L ++ [v.a.toNat], s.o ++ (35 :: dcN (s.L.length + 1) ++ [61]) ++ [123]⟩ := by unfold tx0; rw [if_pos hma]
          generalize tx0 m dcN s v.a.toNat = z0 at hr' hm1 hz0
          have hob := hm1.2
          rw [hz0] at hob
          simp only [List.length_append, List.length_cons, List.length_nil] at hob
          repeat' (first | (refine r_pure hT rfl rfl rfl rfl ?_) | (refine r_new hT rfl rfl rfl rfl ?_) | (refine r_write hT rfl rfl rfl ?_) | (refine r_nil ?_) | (refine q_nil ?_) | (refine r_load hT hatW rfl rfl rfl rfl rfl rfl rfl rfl rfl rfl rfl ?_) | ((refine r_look iKeyOps v.a hZ.map map88 zero3 rfl rfl rfl rfl rfl rfl rfl ?_ ; rw [hmg])) | (refine r_index hT rfl rfl rfl rfl rfl rfl rfl rfl rfl hva.1 hva.2 ?_) | (refine r_load hT hatr rfl rfl rfl rfl rfl (Nat.add_zero _).symm rfl rfl rfl rfl rfl ?_) | (refine r_many (id := 4) [0, 1, 2, 3, 4, 5, 6, 7, 8, 9, 10] [11] u (Le.refl u) hM (by kernel_rfl) rfl (by kernel_rfl) rfl rfl rfl (fun β0 => ?_)) | ((refine r_maplen hZ.map map90L (by rw [labM_len]; omega) rfl rfl rfl rfl rfl ?_ ; rw [labM_len])) | (refine r_addN (q := 1) rfl rfl rfl rfl rfl rfl (by omega) ?_) | (refine r_mapset iKeyOps v.a hZ.map map88 rfl rfl (.inl rfl) rfl rfl rfl rfl (fun u2 hM2 hu2 => ?_)) | (refine m_late rfl rfl ?_) | (refine r_arith rfl rfl rfl rfl rfl rfl rfl (by omega) ?_) | (with_reducible refine r_seq ?_) | (with_reducible refine x_then ?_) | (with_reducible refine r_region ?_) | (with_reducible refine r_skip ?_) | (with_reducible refine r_ret ?_) | (with_reducible refine x_then_ret ?_) | (with_reducible refine r_block ?_) | (with_reducible refine x_block ?_) | (with_reducible refine x_block_ret ?_) | (with_reducible refine r_exit ?_) | (with_reducible refine x_then_exit ?_) | (with_reducible refine x_block_here ?_) | (refine x_block_past rfl ?_) | (refine c_yes rfl (by omega) ?_) | (refine c_no rfl (by omega) ?_) | (refine c_no rfl (fun h => h rfl) ?_) | (refine r_cond_false rfl ?_) | (refine r_cond_true rfl ?_) | (refine r_cond_dec rfl (fun _ => ?_) (fun _ => ?_)) | (refine r_cond_true rfl ?_) | (refine r_cond_false rfl ?_) | (refine c_not rfl (fun _ => ?_) (fun _ => ?_)) | (refine r_off rfl rfl rfl ?_) | (refine q_guard rfl rfl (fun _ => ?_) (fun _ => ?_)) | (refine q_guardn rfl rfl (fun _ => ?_) (fun _ => ?_)) | (refine s_nil ?_) | (with_reducible refine a_full ?_) | (refine m_step rfl rfl (List.cons_ne_nil _ _) ?_) | (refine allR_cons rfl ?_ ?_) | (exact allR_nil) | (refine m_end rfl rfl rfl ?_))
          rw [← hcast, show ((s.L.length : Int) + 1) = ((s.L.length + 1 : Nat) : Int) from rfl, labM_set hin] at hM2
          have hF2 := hZ.lab hM2 hu2
          have hat3 := hF2.at_
          have hmg3 := labM_get (s.L ++ [v.a.toNat]) v.a.toNat
          rw [hcast, if_pos (by simp), List.idxOf_append, if_neg hin, List.idxOf_cons_self, Nat.zero_add] at hmg3
          have hdz : (dec ((s.L.length + 1 : Nat) : Int)).size = (dcN (s.L.length + 1)).length := rfl
          repeat' (first | (refine r_pure hT rfl rfl rfl rfl ?_) | (refine r_new hT rfl rfl rfl rfl ?_) | (refine r_write hT rfl rfl rfl ?_) | (refine r_nil ?_) | (refine q_nil ?_) | (refine r_manyD (id := 5) [0, 1, 2, 3, 4, 5, 6, 7, 8] [12] u2 (Le.refl u2) hM (by kernel_rfl) rfl (by kernel_rfl) rfl rfl rfl (fun β0 => ?_)) | (refine r_load hT hat3 rfl rfl rfl rfl rfl rfl rfl rfl rfl rfl rfl ?_) | ((refine r_look iKeyOps v.a hF2.map map88 zero3 rfl rfl rfl rfl rfl rfl rfl ?_ ; rw [hmg3])) | (refine p_call (itoa115 ((s.L.length + 1 : Nat) : Int) (by omega) (by omega) u2 (hZ.tab10.le hF2.b.base)) rfl rfl rfl rfl rfl (hC _ rfl) rfl rfl rfl ?_) | (refine m_keep (Le.refl u2) trivial rfl rfl ?_) | (refine r_concat rfl rfl rfl rfl rfl rfl (by rw [hdz]; show 1 + _ ≤ _; omega) ?_) | (refine r_concat rfl rfl rfl rfl rfl rfl (by rw [ByteArray.size_append, hdz]; show 1 + _ + 1 ≤ _; omega) ?_) | (refine r_call (saysI h0 u2 fa ts ad Ab cb rs (s.L ++ [v.a.toNat]) s.o (((⟨#[35]⟩ : ByteArray) ++ dec ((s.L.length + 1 : Nat) : Int)) ++ ⟨#[61]⟩) hF2 (by rw [ByteArray.size_append, ByteArray.size_append, hdz]; show _ + (1 + _ + 1) ≤ _; omega)) rfl rfl rfl rfl rfl (hC _ rfl) rfl rfl (fun y3 u3 hy3 => ?_)) | (refine m_late rfl rfl ?_) | (refine r_call (sayI1 h0 u3 fa ts (zad fa) y3.1 y3.2 rs (s.L ++ [v.a.toNat]) _ 123 hy3 (by rw [bs_cat, bs_cat]; simp only [List.length_append, dec_list]; show _ + (1 + (dcN (s.L.length + 1)).length + 1) + 1 ≤ _; omega)) rfl rfl rfl rfl rfl (hC _ rfl) rfl rfl (fun y4 u4 hy4 => ?_)) | (refine r_arith rfl rfl rfl rfl rfl rfl rfl (by omega) ?_) | (with_reducible refine r_seq ?_) | (with_reducible refine x_then ?_) | (with_reducible refine r_region ?_) | (with_reducible refine r_skip ?_) | (with_reducible refine r_ret ?_) | (with_reducible refine x_then_ret ?_) | (with_reducible refine r_block ?_) | (with_reducible refine x_block ?_) | (with_reducible refine x_block_ret ?_) | (with_reducible refine r_exit ?_) | (with_reducible refine x_then_exit ?_) | (with_reducible refine x_block_here ?_) | (refine x_block_past rfl ?_) | (refine c_yes rfl (by omega) ?_) | (refine c_no rfl (by omega) ?_) | (refine c_no rfl (fun h => h rfl) ?_) | (refine r_cond_false rfl ?_) | (refine r_cond_true rfl ?_) | (refine r_cond_dec rfl (fun _ => ?_) (fun _ => ?_)) | (refine r_cond_true rfl ?_) | (refine r_cond_false rfl ?_) | (refine c_not rfl (fun _ => ?_) (fun _ => ?_)) | (refine r_off rfl rfl rfl ?_) | (refine q_guard rfl rfl (fun _ => ?_) (fun _ => ?_)) | (refine q_guardn rfl rfl (fun _ => ?_) (fun _ => ?_)) | (refine s_nil ?_) | (with_reducible refine a_full ?_) | (refine m_step rfl rfl (List.cons_ne_nil _ _) ?_) | (refine allR_cons rfl ?_ ?_) | (exact allR_nil) | (refine m_end rfl rfl rfl ?_))
          rw [bs_cat, bs_cat, dec_list] at hy4
          have hFz : ZSt h0 u4 fa ts (zad fa) y4.1 y4.2 rs z0.L z0.o := by rw [hz0]; exact hy4
          have hatz := hFz.at_
          unfold bdC zPre at hatz
          rw [hAt] at hatz
          have hattz := hat.le hFz.b.base
          repeat' (first | (refine r_pure hT rfl rfl rfl rfl ?_) | (refine r_new hT rfl rfl rfl rfl ?_) | (refine r_write hT rfl rfl rfl ?_) | (refine r_nil ?_) | (refine q_nil ?_) | (refine r_load hT hatz rfl rfl rfl rfl rfl rfl rfl rfl rfl rfl rfl ?_) | (refine r_index hT rfl rfl rfl rfl rfl rfl rfl rfl rfl hva.1 hva.2 ?_) | (refine r_load hT hattz rfl rfl rfl rfl rfl (Nat.add_zero _).symm rfl rfl rfl rfl rfl ?_) | (refine r_arith rfl rfl rfl rfl rfl rfl rfl (by omega) ?_) | (with_reducible refine r_seq ?_) | (with_reducible refine x_then ?_) | (with_reducible refine r_region ?_) | (refine r_draw hM (by kernel_rfl) ?_) | (with_reducible refine r_skip ?_) | (with_reducible refine r_ret ?_) | (with_reducible refine x_then_ret ?_) | (with_reducible refine r_block ?_) | (with_reducible refine x_block ?_) | (with_reducible refine x_block_ret ?_) | (with_reducible refine r_exit ?_) | (with_reducible refine x_then_exit ?_) | (with_reducible refine x_block_here ?_) | (refine x_block_past rfl ?_) | (refine c_yes rfl (by omega) ?_) | (refine c_no rfl (by omega) ?_) | (refine c_no rfl (fun h => h rfl) ?_) | (refine r_cond_false rfl ?_) | (refine r_cond_true rfl ?_) | (refine r_cond_true rfl ?_) | (refine r_cond_false rfl ?_) | (refine r_off rfl rfl rfl ?_) | (refine q_guard rfl rfl (fun _ => ?_) (fun _ => ?_)) | (refine q_guardn rfl rfl (fun _ => ?_) (fun _ => ?_)))
          have htz : txp plT (tx ts m plT dcN f) (decide (0 < 0)) (t.drop 0) z0 = some r' := by rw [List.drop_zero, decide_eq_false (Nat.lt_irrefl 0)]; exact hr'
          clear hr'
          generalize y4.1 = Az at *
          generalize y4.2 = cz at *
          refine r_loop (γ := (Nat × Hp) × ((Option Addr × Nat) × TS)) (fun x => x.1.1 ≤ t.length ∧ ZSt h0 x.1.2 fa ts (zad fa) x.2.1.1 x.2.1.2 rs x.2.2.L x.2.2.o ∧ txp plT (tx ts m plT dcN f) (decide (0 < x.1.1)) (t.drop x.1.1) x.2.2 = some r')
            (fun x => [(0, .v (.pointer (some ⟨fa.pb, 0, none⟩))), (66, .v (.slice A1 t.length c1)), (67, .v (.int .i64 (t.length : Int))), (68, .v (.int .i64 (x.1.1 : Int)))]) (fun _ => []) (fun x => x.1.2) (fun x => t.length - x.1.1)
            ((0, u4), ((Az, cz), z0)) ⟨Nat.zero_le _, hFz, htz⟩ (into rfl ⟨rfl, rfl, rfl, rfl, trivial⟩ trivial rfl rfl) ?_
          rintro ⟨⟨j, uj⟩, ⟨⟨Aj, cj⟩, zj⟩⟩ ⟨hj, hFj, htj⟩
          dsimp only at *
          by_cases hltj : j < t.length
          · obtain ⟨b2, off2, p, rfl, hd2, hix2, hm2, hat2⟩ := (hp1.le hFj.b.base).elem Pr.c_len hltj
            rw [hd2, txp] at htj
            have hpk := hfit t hm p hm2
            have hkk := hkd t hm p hm2
            split at htj
            · cases htj
            · rename_i s1 hs1
              have hm1 := txp_mono (fun s v r => tx_mono f s v r) _ _ _ _ htj
              have hm0 := tx_mono f _ _ _ hs1
              have hLe := hm0.trans hm1
              have hob := hLe.2
              simp only [List.length_append, List.length_cons, List.length_nil] at hob
              have hbb : j = 0 ∨ 0 < j := by omega
              have hkey : ∀ (o : List UInt8) (u : Hp) (A : Option Addr) (c : Nat), ZSt h0 u fa ts (zad fa) A c rs zj.L o → o.length + (plT p.key).length ≤ 900000000 → TriS Tryd.prog 70 [.v (.pointer (some ⟨fa.pb, 0, none⟩)), .ag p.key.sv] [] u (fun _ : Option Addr × Nat => .tu []) (fun _ => []) (fun y u' => ZSt h0 u' fa ts (zad fa) y.1 y.2 rs zj.L (o ++ plT p.key)) := fun o u A c hh hl =>
                valueI h0 u fa ts (zad fa) A c rs ⟨zj.L, o⟩ ⟨zj.L, o ++ plT p.key⟩ p.key hh hpk.1 (by omega) (by rw [List.length_append]; exact hl) (fun _ => rfl) (fun h4 => by omega)
              have hval : ∀ (u : Hp) (A : Option Addr) (c : Nat) (o : List UInt8), ZSt h0 u fa ts (zad fa) A c rs zj.L o → tx ts m plT dcN f ⟨zj.L, o⟩ p.val = some s1 → TriS Tryd.prog 70 [.v (.pointer (some ⟨fa.pb, 0, none⟩)), .ag p.val.sv] [] u (fun _ : Option Addr × Nat => .tu []) (fun _ => []) (fun y u' => ZSt h0 u' fa ts (zad fa) y.1 y.2 rs s1.L s1.o) := fun u A c o hh ht =>
                valueI h0 u fa ts (zad fa) A c rs ⟨zj.L, o⟩ s1 p.val hh hpk.2 hkk.2 (by have := hm1.2; omega) (fun h4 => tx_leaf ht h4) (fun h4 => tableI h0 fa ts hA hn htb hfit hkd rs m hm' f ⟨zj.L, o⟩ p.val s1 u A c (zad fa) hh h4 ht (hA t hm p hm2) (by have := hm1.1; omega) (by have := hm1.2; omega))
              rcases hbb with rfl | hj0
              · rw [decide_eq_false (by omega : ¬ 0 < 0)] at hs1 hob
                simp only [Bool.false_eq_true, if_false, List.append_nil, List.length_nil] at hs1 hob
                repeat' (first | (refine r_pure hT rfl rfl rfl rfl ?_) | (refine r_new hT rfl rfl rfl rfl ?_) | (refine r_write hT rfl rfl rfl ?_) | (refine r_nil ?_) | (refine q_nil ?_) | (refine r_indexN hT rfl rfl rfl rfl rfl rfl rfl rfl rfl (by omega) ?_) | (refine r_load hT hat2 rfl rfl rfl rfl rfl (Nat.add_zero _).symm rfl rfl rfl rfl rfl ?_) | (refine r_call (hkey zj.o uj Aj cj hFj (by omega)) rfl rfl rfl rfl rfl (hC _ rfl) rfl rfl (fun y1 u1 hy1 => ?_)) | (refine r_call (saysI h0 u1 fa ts (zad fa) y1.1 y1.2 rs zj.L (zj.o ++ plT p.key) ⟨#[58, 32]⟩ hy1 (by rw [List.length_append]; show _ + 2 ≤ _; omega)) rfl rfl rfl rfl rfl (hC _ rfl) rfl rfl (fun y2 u2 hy2 => ?_)) | (refine r_call (hval u2 y2.1 y2.2 (zj.o ++ plT p.key ++ [58, 32]) hy2 hs1) rfl rfl rfl rfl rfl (hC _ rfl) rfl rfl (fun y3 u3 hy3 => ?_)) | (refine r_arith rfl rfl rfl rfl rfl rfl rfl (by omega) ?_) | (with_reducible refine r_seq ?_) | (with_reducible refine x_then ?_) | (with_reducible refine r_region ?_) | (refine r_draw hM (by kernel_rfl) ?_) | (with_reducible refine r_skip ?_) | (with_reducible refine r_ret ?_) | (with_reducible refine x_then_ret ?_) | (with_reducible refine r_block ?_) | (with_reducible refine x_block ?_) | (with_reducible refine x_block_ret ?_) | (with_reducible refine r_exit ?_) | (with_reducible refine x_then_exit ?_) | (with_reducible refine x_block_here ?_) | (refine x_block_past rfl ?_) | (refine c_yes rfl (by omega) ?_) | (refine c_no rfl (by omega) ?_) | (refine c_no rfl (fun h => h rfl) ?_) | (refine r_cond_false rfl ?_) | (refine r_cond_true rfl ?_) | (refine r_cond_dec rfl (fun _ => ?_) (fun _ => ?_)) | (refine r_cond_true rfl ?_) | (refine r_cond_false rfl ?_) | (refine c_not rfl (fun _ => ?_) (fun _ => ?_)) | (refine r_off rfl rfl rfl ?_) | (refine q_guard rfl rfl (fun _ => ?_) (fun _ => ?_)) | (refine q_guardn rfl rfl (fun _ => ?_) (fun _ => ?_)))
                exact x_round ((0 + 1, u3), (y3, s1)) ⟨hltj, hy3, htj⟩ (by dsimp only; omega) (into rfl ⟨rfl, rfl, rfl, rfl, trivial⟩ trivial rfl rfl)
              · rw [decide_eq_true hj0] at hs1 hob
                simp only [if_true, List.length_cons, List.length_nil] at hs1 hob
                repeat' (first | (refine r_pure hT rfl rfl rfl rfl ?_) | (refine r_new hT rfl rfl rfl rfl ?_) | (refine r_write hT rfl rfl rfl ?_) | (refine r_nil ?_) | (refine q_nil ?_) | (refine r_indexN hT rfl rfl rfl rfl rfl rfl rfl rfl rfl (by omega) ?_) | (refine r_load hT hat2 rfl rfl rfl rfl rfl (Nat.add_zero _).symm rfl rfl rfl rfl rfl ?_) | (refine r_call (saysI h0 uj fa ts (zad fa) Aj cj rs zj.L zj.o ⟨#[44, 32]⟩ hFj (by show _ + 2 ≤ _; omega)) rfl rfl rfl rfl rfl (hC _ rfl) rfl rfl (fun y0 u0 hy0 => ?_)) | (refine r_call (hkey (zj.o ++ [44, 32]) u0 y0.1 y0.2 hy0 (by rw [List.length_append]; show _ + 2 + _ ≤ _; omega)) rfl rfl rfl rfl rfl (hC _ rfl) rfl rfl (fun y1 u1 hy1 => ?_)) | (refine r_call (saysI h0 u1 fa ts (zad fa) y1.1 y1.2 rs zj.L (zj.o ++ [44, 32] ++ plT p.key) ⟨#[58, 32]⟩ hy1 (by rw [List.length_append, List.length_append]; show _ + 2 + _ + 2 ≤ _; omega)) rfl rfl rfl rfl rfl (hC _ rfl) rfl rfl (fun y2 u2 hy2 => ?_)) | (refine r_call (hval u2 y2.1 y2.2 (zj.o ++ [44, 32] ++ plT p.key ++ [58, 32]) hy2 hs1) rfl rfl rfl rfl rfl (hC _ rfl) rfl rfl (fun y3 u3 hy3 => ?_)) | (refine r_arith rfl rfl rfl rfl rfl rfl rfl (by omega) ?_) | (with_reducible refine r_seq ?_) | (with_reducible refine x_then ?_) | (with_reducible refine r_region ?_) | (refine r_draw hM (by kernel_rfl) ?_) | (with_reducible refine r_skip ?_) | (with_reducible refine r_ret ?_) | (with_reducible refine x_then_ret ?_) | (with_reducible refine r_block ?_) | (with_reducible refine x_block ?_) | (with_reducible refine x_block_ret ?_) | (with_reducible refine r_exit ?_) | (with_reducible refine x_then_exit ?_) | (with_reducible refine x_block_here ?_) | (refine x_block_past rfl ?_) | (refine c_yes rfl (by omega) ?_) | (refine c_no rfl (by omega) ?_) | (refine c_no rfl (fun h => h rfl) ?_) | (refine r_cond_false rfl ?_) | (refine r_cond_true rfl ?_) | (refine r_cond_dec rfl (fun _ => ?_) (fun _ => ?_)) | (refine r_cond_true rfl ?_) | (refine r_cond_false rfl ?_) | (refine c_not rfl (fun _ => ?_) (fun _ => ?_)) | (refine r_off rfl rfl rfl ?_) | (refine q_guard rfl rfl (fun _ => ?_) (fun _ => ?_)) | (refine q_guardn rfl rfl (fun _ => ?_) (fun _ => ?_)))
                exact x_round ((j + 1, u3), (y3, s1)) ⟨hltj, hy3, by rw [decide_eq_true (by omega : 0 < j + 1)]; exact htj⟩ (by dsimp only; omega) (into rfl ⟨rfl, rfl, rfl, rfl, trivial⟩ trivial rfl rfl)
          · obtain rfl : j = t.length := by omega
            rw [List.drop_length, txp] at htj
            obtain rfl := Option.some.inj htj
            repeat' (first | (refine r_pure hT rfl rfl rfl rfl ?_) | (refine r_new hT rfl rfl rfl rfl ?_) | (refine r_write hT rfl rfl rfl ?_) | (refine r_nil ?_) | (refine q_nil ?_) | (refine r_call (sayI1 h0 uj fa ts (zad fa) Aj cj rs zj.L zj.o 125 hFj (by omega)) rfl rfl rfl rfl rfl (hC _ rfl) rfl rfl (fun y u1 hy => ?_)) | (refine r_arith rfl rfl rfl rfl rfl rfl rfl (by omega) ?_) | (with_reducible refine r_seq ?_) | (with_reducible refine x_then ?_) | (with_reducible refine r_region ?_) | (refine r_draw hM (by kernel_rfl) ?_) | (with_reducible refine r_skip ?_) | (with_reducible refine r_ret ?_) | (with_reducible refine x_then_ret ?_) | (with_reducible refine r_block ?_) | (with_reducible refine x_block ?_) | (with_reducible refine x_block_ret ?_) | (with_reducible refine r_exit ?_) | (with_reducible refine x_then_exit ?_) | (with_reducible refine x_block_here ?_) | (refine x_block_past rfl ?_) | (refine c_yes rfl (by omega) ?_) | (refine c_no rfl (by omega) ?_) | (refine c_no rfl (fun h => h rfl) ?_) | (refine r_cond_false rfl ?_) | (refine r_cond_true rfl ?_) | (refine r_cond_dec rfl (fun _ => ?_) (fun _ => ?_)) | (refine r_cond_true rfl ?_) | (refine r_cond_false rfl ?_) | (refine c_not rfl (fun _ => ?_) (fun _ => ?_)) | (refine r_off rfl rfl rfl ?_) | (refine q_guard rfl rfl (fun _ => ?_) (fun _ => ?_)) | (refine q_guardn rfl rfl (fun _ => ?_) (fun _ => ?_)))
            exact r_fin hT rfl y rfl rfl rfl trivial rfl hy
        · have hma : m v.a.toNat = false := by rw [hm', decide_eq_false hmt]
          have hz0 : tx0 m dcN s v.a.toNat = ⟨s.L, s.o ++ [123]⟩ := by unfold tx0; rw [hma]; rfl
          generalize tx0 m dcN s v.a.toNat = z0 at hr' hm1 hz0
          have hob := hm1.2
          rw [hz0] at hob
          simp only [List.length_append, List.length_cons, List.length_nil] at hob
          repeat' (first | (refine r_pure hT rfl rfl rfl rfl ?_) | (refine r_new hT rfl rfl rfl rfl ?_) | (refine r_write hT rfl rfl rfl ?_) | (refine r_nil ?_) | (refine q_nil ?_) | (refine r_load hT hatW rfl rfl rfl rfl rfl rfl rfl rfl rfl rfl rfl ?_) | ((refine r_look iKeyOps v.a hZ.map map88 zero3 rfl rfl rfl rfl rfl rfl rfl ?_ ; rw [hmg])) | (refine r_index hT rfl rfl rfl rfl rfl rfl rfl rfl rfl hva.1 hva.2 ?_) | (refine r_load hT hatr rfl rfl rfl rfl rfl (Nat.add_zero _).symm rfl rfl rfl rfl rfl ?_) | (refine r_call (sayI1 h0 u fa ts ad Ab cb rs s.L s.o 123 hZ (by omega)) rfl rfl rfl rfl rfl (hC _ rfl) rfl rfl (fun y4 u4 hy4 => ?_)) | (refine r_arith rfl rfl rfl rfl rfl rfl rfl (by omega) ?_) | (with_reducible refine r_seq ?_) | (with_reducible refine x_then ?_) | (with_reducible refine r_region ?_) | (with_reducible refine r_skip ?_) | (with_reducible refine r_ret ?_) | (with_reducible refine x_then_ret ?_) | (with_reducible refine r_block ?_) | (with_reducible refine x_block ?_) | (with_reducible refine x_block_ret ?_) | (with_reducible refine r_exit ?_) | (with_reducible refine x_then_exit ?_) | (with_reducible refine x_block_here ?_) | (refine x_block_past rfl ?_) | (refine c_yes rfl (by omega) ?_) | (refine c_no rfl (by omega) ?_) | (refine c_no rfl (fun h => h rfl) ?_) | (refine r_cond_false rfl ?_) | (refine r_cond_true rfl ?_) | (refine r_cond_dec rfl (fun _ => ?_) (fun _ => ?_)) | (refine r_cond_true rfl ?_) | (refine r_cond_false rfl ?_) | (refine c_not rfl (fun _ => ?_) (fun _ => ?_)) | (refine r_off rfl rfl rfl ?_) | (refine q_guard rfl rfl (fun _ => ?_) (fun _ => ?_)) | (refine q_guardn rfl rfl (fun _ => ?_) (fun _ => ?_)))
          have hFz : ZSt h0 u4 fa ts (zad fa) y4.1 y4.2 rs z0.L z0.o := by rw [hz0]; exact hy4
          have hatz := hFz.at_
          unfold bdC zPre at hatz
          rw [hAt] at hatz
          have hattz := hat.le hFz.b.base
          repeat' (first | (refine r_pure hT rfl rfl rfl rfl ?_) | (refine r_new hT rfl rfl rfl rfl ?_) | (refine r_write hT rfl rfl rfl ?_) | (refine r_nil ?_) | (refine q_nil ?_) | (refine r_load hT hatz rfl rfl rfl rfl rfl rfl rfl rfl rfl rfl rfl ?_) | (refine r_index hT rfl rfl rfl rfl rfl rfl rfl rfl rfl hva.1 hva.2 ?_) | (refine r_load hT hattz rfl rfl rfl rfl rfl (Nat.add_zero _).symm rfl rfl rfl rfl rfl ?_) | (refine r_arith rfl rfl rfl rfl rfl rfl rfl (by omega) ?_) | (with_reducible refine r_seq ?_) | (with_reducible refine x_then ?_) | (with_reducible refine r_region ?_) | (refine r_draw hM (by kernel_rfl) ?_) | (with_reducible refine r_skip ?_) | (with_reducible refine r_ret ?_) | (with_reducible refine x_then_ret ?_) | (with_reducible refine r_block ?_) | (with_reducible refine x_block ?_) | (with_reducible refine x_block_ret ?_) | (with_reducible refine r_exit ?_) | (with_reducible refine x_then_exit ?_) | (with_reducible refine x_block_here ?_) | (refine x_block_past rfl ?_) | (refine c_yes rfl (by omega) ?_) | (refine c_no rfl (by omega) ?_) | (refine c_no rfl (fun h => h rfl) ?_) | (refine r_cond_false rfl ?_) | (refine r_cond_true rfl ?_) | (refine r_cond_true rfl ?_) | (refine r_cond_false rfl ?_) | (refine r_off rfl rfl rfl ?_) | (refine q_guard rfl rfl (fun _ => ?_) (fun _ => ?_)) | (refine q_guardn rfl rfl (fun _ => ?_) (fun _ => ?_)))
          have htz : txp plT (tx ts m plT dcN f) (decide (0 < 0)) (t.drop 0) z0 = some r' := by rw [List.drop_zero, decide_eq_false (Nat.lt_irrefl 0)]; exact hr'
          clear hr'
          generalize y4.1 = Az at *
          generalize y4.2 = cz at *
          refine r_loop (γ := (Nat × Hp) × ((Option Addr × Nat) × TS)) (fun x => x.1.1 ≤ t.length ∧ ZSt h0 x.1.2 fa ts (zad fa) x.2.1.1 x.2.1.2 rs x.2.2.L x.2.2.o ∧ txp plT (tx ts m plT dcN f) (decide (0 < x.1.1)) (t.drop x.1.1) x.2.2 = some r')
            (fun x => [(0, .v (.pointer (some ⟨fa.pb, 0, none⟩))), (66, .v (.slice A1 t.length c1)), (67, .v (.int .i64 (t.length : Int))), (68, .v (.int .i64 (x.1.1 : Int)))]) (fun _ => []) (fun x => x.1.2) (fun x => t.length - x.1.1)
            ((0, u4), ((Az, cz), z0)) ⟨Nat.zero_le _, hFz, htz⟩ (into rfl ⟨rfl, rfl, rfl, rfl, trivial⟩ trivial rfl rfl) ?_
          rintro ⟨⟨j, uj⟩, ⟨⟨Aj, cj⟩, zj⟩⟩ ⟨hj, hFj, htj⟩
          dsimp only at *
          by_cases hltj : j < t.length
          · obtain ⟨b2, off2, p, rfl, hd2, hix2, hm2, hat2⟩ := (hp1.le hFj.b.base).elem Pr.c_len hltj
            rw [hd2, txp] at htj
            have hpk := hfit t hm p hm2
            have hkk := hkd t hm p hm2
            split at htj
            · cases htj
            · rename_i s1 hs1
              have hm1 := txp_mono (fun s v r => tx_mono f s v r) _ _ _ _ htj
              have hm0 := tx_mono f _ _ _ hs1
              have hLe := hm0.trans hm1
              have hob := hLe.2
              simp only [List.length_append, List.length_cons, List.length_nil] at hob
              have hbb : j = 0 ∨ 0 < j := by omega
              have hkey : ∀ (o : List UInt8) (u : Hp) (A : Option Addr) (c : Nat), ZSt h0 u fa ts (zad fa) A c rs zj.L o → o.length + (plT p.key).length ≤ 900000000 → TriS Tryd.prog 70 [.v (.pointer (some ⟨fa.pb, 0, none⟩)), .ag p.key.sv] [] u (fun _ : Option Addr × Nat => .tu []) (fun _ => []) (fun y u' => ZSt h0 u' fa ts (zad fa) y.1 y.2 rs zj.L (o ++ plT p.key)) := fun o u A c hh hl =>
                valueI h0 u fa ts (zad fa) A c rs ⟨zj.L, o⟩ ⟨zj.L, o ++ plT p.key⟩ p.key hh hpk.1 (by omega) (by rw [List.length_append]; exact hl) (fun _ => rfl) (fun h4 => by omega)
              have hval : ∀ (u : Hp) (A : Option Addr) (c : Nat) (o : List UInt8), ZSt h0 u fa ts (zad fa) A c rs zj.L o → tx ts m plT dcN f ⟨zj.L, o⟩ p.val = some s1 → TriS Tryd.prog 70 [.v (.pointer (some ⟨fa.pb, 0, none⟩)), .ag p.val.sv] [] u (fun _ : Option Addr × Nat => .tu []) (fun _ => []) (fun y u' => ZSt h0 u' fa ts (zad fa) y.1 y.2 rs s1.L s1.o) := fun u A c o hh ht =>
                valueI h0 u fa ts (zad fa) A c rs ⟨zj.L, o⟩ s1 p.val hh hpk.2 hkk.2 (by have := hm1.2; omega) (fun h4 => tx_leaf ht h4) (fun h4 => tableI h0 fa ts hA hn htb hfit hkd rs m hm' f ⟨zj.L, o⟩ p.val s1 u A c (zad fa) hh h4 ht (hA t hm p hm2) (by have := hm1.1; omega) (by have := hm1.2; omega))
              rcases hbb with rfl | hj0
              · rw [decide_eq_false (by omega : ¬ 0 < 0)] at hs1 hob
                simp only [Bool.false_eq_true, if_false, List.append_nil, List.length_nil] at hs1 hob
                repeat' (first | (refine r_pure hT rfl rfl rfl rfl ?_) | (refine r_new hT rfl rfl rfl rfl ?_) | (refine r_write hT rfl rfl rfl ?_) | (refine r_nil ?_) | (refine q_nil ?_) | (refine r_indexN hT rfl rfl rfl rfl rfl rfl rfl rfl rfl (by omega) ?_) | (refine r_load hT hat2 rfl rfl rfl rfl rfl (Nat.add_zero _).symm rfl rfl rfl rfl rfl ?_) | (refine r_call (hkey zj.o uj Aj cj hFj (by omega)) rfl rfl rfl rfl rfl (hC _ rfl) rfl rfl (fun y1 u1 hy1 => ?_)) | (refine r_call (saysI h0 u1 fa ts (zad fa) y1.1 y1.2 rs zj.L (zj.o ++ plT p.key) ⟨#[58, 32]⟩ hy1 (by rw [List.length_append]; show _ + 2 ≤ _; omega)) rfl rfl rfl rfl rfl (hC _ rfl) rfl rfl (fun y2 u2 hy2 => ?_)) | (refine r_call (hval u2 y2.1 y2.2 (zj.o ++ plT p.key ++ [58, 32]) hy2 hs1) rfl rfl rfl rfl rfl (hC _ rfl) rfl rfl (fun y3 u3 hy3 => ?_)) | (refine r_arith rfl rfl rfl rfl rfl rfl rfl (by omega) ?_) | (with_reducible refine r_seq ?_) | (with_reducible refine x_then ?_) | (with_reducible refine r_region ?_) | (refine r_draw hM (by kernel_rfl) ?_) | (with_reducible refine r_skip ?_) | (with_reducible refine r_ret ?_) | (with_reducible refine x_then_ret ?_) | (with_reducible refine r_block ?_) | (with_reducible refine x_block ?_) | (with_reducible refine x_block_ret ?_) | (with_reducible refine r_exit ?_) | (with_reducible refine x_then_exit ?_) | (with_reducible refine x_block_here ?_) | (refine x_block_past rfl ?_) | (refine c_yes rfl (by omega) ?_) | (refine c_no rfl (by omega) ?_) | (refine c_no rfl (fun h => h rfl) ?_) | (refine r_cond_false rfl ?_) | (refine r_cond_true rfl ?_) | (refine r_cond_dec rfl (fun _ => ?_) (fun _ => ?_)) | (refine r_cond_true rfl ?_) | (refine r_cond_false rfl ?_) | (refine c_not rfl (fun _ => ?_) (fun _ => ?_)) | (refine r_off rfl rfl rfl ?_) | (refine q_guard rfl rfl (fun _ => ?_) (fun _ => ?_)) | (refine q_guardn rfl rfl (fun _ => ?_) (fun _ => ?_)))
                exact x_round ((0 + 1, u3), (y3, s1)) ⟨hltj, hy3, htj⟩ (by dsimp only; omega) (into rfl ⟨rfl, rfl, rfl, rfl, trivial⟩ trivial rfl rfl)
              · rw [decide_eq_true hj0] at hs1 hob
                simp only [if_true, List.length_cons, List.length_nil] at hs1 hob
                repeat' (first | (refine r_pure hT rfl rfl rfl rfl ?_) | (refine r_new hT rfl rfl rfl rfl ?_) | (refine r_write hT rfl rfl rfl ?_) | (refine r_nil ?_) | (refine q_nil ?_) | (refine r_indexN hT rfl rfl rfl rfl rfl rfl rfl rfl rfl (by omega) ?_) | (refine r_load hT hat2 rfl rfl rfl rfl rfl (Nat.add_zero _).symm rfl rfl rfl rfl rfl ?_) | (refine r_call (saysI h0 uj fa ts (zad fa) Aj cj rs zj.L zj.o ⟨#[44, 32]⟩ hFj (by show _ + 2 ≤ _; omega)) rfl rfl rfl rfl rfl (hC _ rfl) rfl rfl (fun y0 u0 hy0 => ?_)) | (refine r_call (hkey (zj.o ++ [44, 32]) u0 y0.1 y0.2 hy0 (by rw [List.length_append]; show _ + 2 + _ ≤ _; omega)) rfl rfl rfl rfl rfl (hC _ rfl) rfl rfl (fun y1 u1 hy1 => ?_)) | (refine r_call (saysI h0 u1 fa ts (zad fa) y1.1 y1.2 rs zj.L (zj.o ++ [44, 32] ++ plT p.key) ⟨#[58, 32]⟩ hy1 (by rw [List.length_append, List.length_append]; show _ + 2 + _ + 2 ≤ _; omega)) rfl rfl rfl rfl rfl (hC _ rfl) rfl rfl (fun y2 u2 hy2 => ?_)) | (refine r_call (hval u2 y2.1 y2.2 (zj.o ++ [44, 32] ++ plT p.key ++ [58, 32]) hy2 hs1) rfl rfl rfl rfl rfl (hC _ rfl) rfl rfl (fun y3 u3 hy3 => ?_)) | (refine r_arith rfl rfl rfl rfl rfl rfl rfl (by omega) ?_) | (with_reducible refine r_seq ?_) | (with_reducible refine x_then ?_) | (with_reducible refine r_region ?_) | (refine r_draw hM (by kernel_rfl) ?_) | (with_reducible refine r_skip ?_) | (with_reducible refine r_ret ?_) | (with_reducible refine x_then_ret ?_) | (with_reducible refine r_block ?_) | (with_reducible refine x_block ?_) | (with_reducible refine x_block_ret ?_) | (with_reducible refine r_exit ?_) | (with_reducible refine x_then_exit ?_) | (with_reducible refine x_block_here ?_) | (refine x_block_past rfl ?_) | (refine c_yes rfl (by omega) ?_) | (refine c_no rfl (by omega) ?_) | (refine c_no rfl (fun h => h rfl) ?_) | (refine r_cond_false rfl ?_) | (refine r_cond_true rfl ?_) | (refine r_cond_dec rfl (fun _ => ?_) (fun _ => ?_)) | (refine r_cond_true rfl ?_) | (refine r_cond_false rfl ?_) | (refine c_not rfl (fun _ => ?_) (fun _ => ?_)) | (refine r_off rfl rfl rfl ?_) | (refine q_guard rfl rfl (fun _ => ?_) (fun _ => ?_)) | (refine q_guardn rfl rfl (fun _ => ?_) (fun _ => ?_)))
                exact x_round ((j + 1, u3), (y3, s1)) ⟨hltj, hy3, by rw [decide_eq_true (by omega : 0 < j + 1)]; exact htj⟩ (by dsimp only; omega) (into rfl ⟨rfl, rfl, rfl, rfl, trivial⟩ trivial rfl rfl)
          · obtain rfl : j = t.length := by omega
            rw [List.drop_length, txp] at htj
            obtain rfl := Option.some.inj htj
            repeat' (first | (refine r_pure hT rfl rfl rfl rfl ?_) | (refine r_new hT rfl rfl rfl rfl ?_) | (refine r_write hT rfl rfl rfl ?_) | (refine r_nil ?_) | (refine q_nil ?_) | (refine r_call (sayI1 h0 uj fa ts (zad fa) Aj cj rs zj.L zj.o 125 hFj (by omega)) rfl rfl rfl rfl rfl (hC _ rfl) rfl rfl (fun y u1 hy => ?_)) | (refine r_arith rfl rfl rfl rfl rfl rfl rfl (by omega) ?_) | (with_reducible refine r_seq ?_) | (with_reducible refine x_then ?_) | (with_reducible refine r_region ?_) | (refine r_draw hM (by kernel_rfl) ?_) | (with_reducible refine r_skip ?_) | (with_reducible refine r_ret ?_) | (with_reducible refine x_then_ret ?_) | (with_reducible refine r_block ?_) | (with_reducible refine x_block ?_) | (with_reducible refine x_block_ret ?_) | (with_reducible refine r_exit ?_) | (with_reducible refine x_then_exit ?_) | (with_reducible refine x_block_here ?_) | (refine x_block_past rfl ?_) | (refine c_yes rfl (by omega) ?_) | (refine c_no rfl (by omega) ?_) | (refine c_no rfl (fun h => h rfl) ?_) | (refine r_cond_false rfl ?_) | (refine r_cond_true rfl ?_) | (refine r_cond_dec rfl (fun _ => ?_) (fun _ => ?_)) | (refine r_cond_true rfl ?_) | (refine r_cond_false rfl ?_) | (refine c_not rfl (fun _ => ?_) (fun _ => ?_)) | (refine r_off rfl rfl rfl ?_) | (refine q_guard rfl rfl (fun _ => ?_) (fun _ => ?_)) | (refine q_guardn rfl rfl (fun _ => ?_) (fun _ => ?_)))
            exact r_fin hT rfl y rfl rfl rfl trivial rfl hy
end Go.Proofs.YtkamfnmbidnhdaaDoor
/- The text of a graph in canonical order is the graph's. Plain. -/
namespace Go.Proofs.YtkamfnmbidnhdaaDoor
open Go.Sy
set_option linter.unusedVariables false
def crefs (v : V) (ts : List (List Pr)) : List Nat := vrefs (ren (ordOf ts v) v) ++ (cTs ts (ordOf ts v)).flatMap trefs
def multiC (v : V) (ts : List (List Pr)) (a : Nat) : Bool := decide (1 < (crefs v ts).count a)
theorem root_in {v : V} {ts : List (List Pr)} (h4 : v.k = 4) : v.a.toNat ∈ ordOf ts v := go_mem ts ts.length [] v h4
theorem ord_closed {v : V} {ts : List (List Pr)} (hA : AllIn ts) (hv : In ts.length v) : ∀ a ∈ ordOf ts v, ∀ p ∈ ts.getD a [], p.val.k = 4 → p.val.a.toNat ∈ ordOf ts v := fun a ha p hp h4 => by
  have hlt := (ordOf_nm hA hv).lt a ha
  have hix : ts[a]? = some ts[a] := List.getElem?_eq_getElem hlt
  rw [List.getD_eq_getElem?_getD, hix] at hp
  exact ordOf_in hA hv ha hix hp h4
theorem multi_ren {v : V} {ts : List (List Pr)} (hA : AllIn ts) (hv : In ts.length v) : ∀ a ∈ ordOf ts v, multiC v ts ((ordOf ts v).idxOf a) = multi ts v a := fun a ha => by
  unfold multiC multi crefs
  rw [vrefs_ren, cTs_refs, ← List.map_append, count_idx ha, (rf_all hA hv).count_eq]
theorem frz_canon {v : V} {ts : List (List Pr)} (hA : AllIn ts) (hv : In ts.length v) {r : TS} {f : Nat} (ht : tx ts (multi ts v) plT dcN f ⟨[], []⟩ v = some r) : tx (cTs ts (ordOf ts v)) (multiC v ts) plT dcN f ⟨[], []⟩ (ren (ordOf ts v) v) = some (tmap (ordOf ts v) r) := by
  have h := (tx_ren (multi_ren hA hv) (ord_closed hA hv) (pl := plT) (dc := dcN) f ⟨[], []⟩ v (fun a ha => by cases ha) (fun h4 => root_in h4)).1
  rw [ht] at h
  exact h
theorem cTs_mem {ts : List (List Pr)} {O : List Nat} (hO : ∀ a ∈ O, a < ts.length) {t : List Pr} (h : t ∈ cTs ts O) : ∃ a ∈ O, ∃ t0 ∈ ts, ts[a]? = some t0 ∧ t = t0.map (nPr O) := by
  unfold cTs at h
  obtain ⟨a, ha, rfl⟩ := List.mem_map.1 h
  have hlt := hO a ha
  have hix : ts[a]? = some ts[a] := List.getElem?_eq_getElem hlt
  exact ⟨a, ha, ts[a], List.getElem_mem _, hix, by rw [List.getD_eq_getElem?_getD, hix]; rfl⟩
theorem ren_in {O : List Nat} {v : V} (h : v.k = 4 → v.a.toNat ∈ O) : In O.length (ren O v) := fun h4 => by
  rw [ren_k] at h4
  have := List.idxOf_lt_length_iff.2 (h h4)
  unfold ren
  rw [if_pos h4]
  dsimp only
  omega
theorem ren_n (O : List Nat) (v : V) : (ren O v).n = v.n ∧ (ren O v).s = v.s := by unfold ren; split <;> exact ⟨rfl, rfl⟩
theorem cTs_length (ts : List (List Pr)) (O : List Nat) : (cTs ts O).length = O.length := by simp [cTs]
theorem canon_ok {v : V} {ts : List (List Pr)} (h : GOk v ts) (hr : RngG v ts) : AllIn (cTs ts (ordOf ts v)) ∧ In (cTs ts (ordOf ts v)).length (ren (ordOf ts v) v) ∧ (cTs ts (ordOf ts v)).length ≤ 1000 ∧ (∀ t ∈ cTs ts (ordOf ts v), t.length ≤ 1000) ∧ Fit (cTs ts (ordOf ts v)) ∧ Kinds (cTs ts (ordOf ts v)) := by
  obtain ⟨i1, i2, i3, i4⟩ := gok_in h
  obtain ⟨f1, f2, f3, f4⟩ := gok_fit h hr
  have hN := ordOf_nm i1 i2
  rw [AllIn, cTs_length]
  refine ⟨fun t ht p hp => ?_, ren_in fun h4 => root_in h4, by have := hN.len; omega, fun t ht => ?_, fun t ht p hp => ?_, fun t ht p hp => ?_⟩
  · obtain ⟨a, ha, t0, ht0, hix, rfl⟩ := cTs_mem hN.lt ht
    obtain ⟨q, hq, rfl⟩ := List.mem_map.1 hp
    exact ren_in fun h4 => ordOf_in i1 i2 ha hix hq h4
  · obtain ⟨a, ha, t0, ht0, hix, rfl⟩ := cTs_mem hN.lt ht
    have := i4 t0 ht0
    rw [List.length_map]; omega
  · obtain ⟨a, ha, t0, ht0, hix, rfl⟩ := cTs_mem hN.lt ht
    obtain ⟨q, hq, rfl⟩ := List.mem_map.1 hp
    obtain ⟨k1, k2⟩ := f2 t0 ht0 q hq
    obtain ⟨e1, e2⟩ := ren_n (ordOf ts v) q.val
    refine ⟨k1, ?_⟩
    unfold V.fit at k2 ⊢
    show (_ ≤ (ren _ q.val).n ∧ (ren _ q.val).n ≤ _) ∧ (ren _ q.val).s.size ≤ _
    rw [e1, e2]; exact k2
  · obtain ⟨a, ha, t0, ht0, hix, rfl⟩ := cTs_mem hN.lt ht
    obtain ⟨q, hq, rfl⟩ := List.mem_map.1 hp
    have hp1 := (h.2.2 t0 ht0).2.1 q hq
    refine ⟨hp1.1.1, ?_⟩
    show (ren _ q.val).k = 0 ∨ _
    have e : ∀ O, (ren O q.val).k = q.val.k := fun O => ren_k O q.val
    have hv := hp1.2.1
    show (ren (ordOf ts v) q.val).k = 0 ∨ (ren (ordOf ts v) q.val).k = 1 ∨ (ren (ordOf ts v) q.val).k = 2 ∨ (ren (ordOf ts v) q.val).k = 3 ∨ (ren (ordOf ts v) q.val).k = 4
    rw [e]
    unfold VOk at hv; omega
end Go.Proofs.YtkamfnmbidnhdaaDoor
