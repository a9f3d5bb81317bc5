/- The laws' functions over rows of whole numbers: sizes, copies, comparisons of what is alike, marks. -/
import Derived.Test.YtkamfnmbidnhdaaDoorSqAQ
import Derived.Test.YtkamfnmbidnhdaaDoorSqAN
import Derived.Test.YtkamfnmbidnhdaaDoorSqAE
import Derived.Test.YtkamfnmbidnhdaaDoorSqAJ
import Derived.Test.YtkamfnmbidnhdaaDoorSqAP
set_option linter.unusedVariables false
set_option linter.unusedSimpArgs false
set_option linter.unusedSectionVars false
namespace Go.Proofs.YtkamfnmbidnhdaaDoor
open Go.Sy
set_option maxRecDepth 100000
set_option maxHeartbeats 4000000
set_option linter.unusedVariables false
set_option linter.unusedSimpArgs false
section
variable {P : Program} {F : Fr} {tm : Tm} {L : Lm} {u : Hp} {Q : Exit → Act → World → Prop}
theorem c_true {c : Operand} {x y : Code} {b : Bool} (hb : b = true) (hc : ev tm c = some (.v (.bool b))) (h1 : St F tm L u (fun a w => x.wp P Q a w)) : St F tm L u (fun a w => (Code.cond c x y).wp P Q a w) :=
  r_cond hc (fun _ => h1) (fun e => by rw [hb] at e; cases e)
theorem c_false {c : Operand} {x y : Code} {b : Bool} (hb : b = false) (hc : ev tm c = some (.v (.bool b))) (h1 : St F tm L u (fun a w => y.wp P Q a w)) : St F tm L u (fun a w => (Code.cond c x y).wp P Q a w) :=
  r_cond hc (fun e => by rw [hb] at e; cases e) (fun _ => h1)
end
abbrev CY := List (Int × Int) × (Option Addr × Nat) × List Hd
theorem hcall : callable Tryd.prog 108 = true := hC 108 rfl
theorem numC (h0 : Hp) (p3 p4 p1 p5 g : Nat) (gr : V) (A : Option Addr) (c : Nat) (ts : List (List Pr)) (hA : AllIn ts) (hn : ts.length ≤ 1000000) (hc : ∀ t ∈ ts, t.length ≤ 1000000) : ∀ (f : Nat) (ord : List Nat) (v r : V) (u : Hp) (m : List (Int × Int)) (Aq : Option Addr) (cq : Nat) (hs : List Hd) (tabs : List (List Pr)),
    CSt h0 u p3 p4 p1 p5 g gr A c ts m Aq cq hs tabs ord → Nm ts.length ord → In ts.length v → ts.length - ord.length < f → r = ren (go ts f ord v) v →
    TriS Tryd.prog 108 [.ag v.sv, .v (ptr p3), .v (ptr p4), .v (ptr p1), .v (ptr p5)] [] u (fun _ : CY => .ag r.sv) (fun _ => []) (fun y u' => CSt h0 u' p3 p4 p1 p5 g gr A c ts y.1 y.2.1.1 y.2.1.2 y.2.2 (tabs ++ cNew ts ord (go ts f ord v)) (go ts f ord v) ∧ Keep u (CS g p4 Aq hs) u' (CS g p4 y.2.1.1 y.2.2))
  | 0, ord, v, r, u, m, Aq, cq, hs, tabs, hC, hN, hv, hf, hr => absurd hf (by omega)
  | f + 1, ord, v, r, u, m, Aq, cq, hs, tabs, hC, hN, hv, hf, hr => by
    have hl := hN.len
    refine enterS Tryd.func108 rfl (n := 70) rfl rfl (fun k N => ?_)
    by_cases h4 : v.k = 4
    · have hva := hv h4
      have hlt : v.a.toNat < ts.length := by omega
      have hcast : ((v.a.toNat : Nat) : Int) = v.a := by omega
      have hk := hC.keys v.a.toNat
      rw [hcast] at hk
      have hat3 : At u p3 0 [Value.map (some g)] := at_of (hC.base _ _ hC.c3)
      by_cases hin : v.a.toNat ∈ ord
      · have hmh : mhas m v.a = true := by rw [hk.1]; simpa using hin
        have hmg := hk.2 hin
        rw [go_old h4 hin, cNew_refl, List.append_nil]
        rw [go_old h4 hin] at hr
        simp only [ren, if_pos h4] at hr
        rw [← hmg] at hr
        subst hr
        repeat' (first | (refine r_pure hT rfl rfl rfl rfl ?_) | (refine r_new hT rfl rfl rfl rfl ?_) | (refine r_write hT rfl rfl rfl ?_) | (refine r_nil ?_) | (refine q_nil ?_) | (refine r_load hT hat3 rfl rfl rfl rfl rfl (Nat.add_zero _).symm rfl rfl rfl rfl rfl ?_) | (refine r_lookok iKeyOps v.a hC.map map88 zero3 rfl rfl rfl rfl rfl rfl rfl ?_) | (refine c_no rfl (fun h => h h4) ?_) | (refine c_false (by rw [hmh]; rfl) rfl ?_) | (refine r_arith rfl rfl rfl rfl rfl rfl rfl (by omega) ?_) | (with_reducible refine r_seq ?_) | (with_reducible refine x_then ?_) | (with_reducible refine r_region ?_) | (refine r_draw hM (by kernel_rfl) ?_) | (with_reducible refine r_skip ?_) | (with_reducible refine r_ret ?_) | (with_reducible refine x_then_ret ?_) | (with_reducible refine r_block ?_) | (with_reducible refine x_block ?_) | (with_reducible refine x_block_ret ?_) | (with_reducible refine r_exit ?_) | (with_reducible refine x_then_exit ?_) | (with_reducible refine x_block_here ?_) | (refine x_block_past rfl ?_) | (refine c_yes rfl (by omega) ?_) | (refine c_no rfl (by omega) ?_) | (refine c_no rfl (fun h => h rfl) ?_) | (refine r_cond_false rfl ?_) | (refine r_cond_true rfl ?_) | (refine r_cond_dec rfl (fun _ => ?_) (fun _ => ?_)) | (refine r_cond_true rfl ?_) | (refine r_cond_false rfl ?_) | (refine c_not rfl (fun _ => ?_) (fun _ => ?_)) | (refine r_off rfl rfl rfl ?_) | (refine q_guard rfl rfl (fun _ => ?_) (fun _ => ?_)) | (refine q_guardn rfl rfl (fun _ => ?_) (fun _ => ?_)))
        exact r_fin hT rfl ((m, (Aq, cq), hs) : CY) rfl rfl rfl trivial rfl ⟨hC, Keep.refl _ _⟩
      · have hmh : mhas m v.a = false := by rw [hk.1]; simpa using hin
        have hat4 : At u p4 0 (gCells V0 Aq ord.length cq) := at_of hC.out
        have hN1 := hN.snoc hlt hin
        have hl1 := hN1.len
        simp only [List.length_append, List.length_singleton] at hl1
        obtain ⟨bt, offt, A1, n1, c1, t, rfl, hd, hix, hm, hat, hc1, hp1⟩ := hC.tabs.elem hlt
        obtain rfl := hp1.1
        rw [go_new h4 hin hix] at hr ⊢
        repeat' (first | (refine r_pure hT rfl rfl rfl rfl ?_) | (refine r_new hT rfl rfl rfl rfl ?_) | (refine r_write hT rfl rfl rfl ?_) | (refine r_nil ?_) | (refine q_nil ?_) | (refine r_load hT hat3 rfl rfl rfl rfl rfl (Nat.add_zero _).symm rfl rfl rfl rfl rfl ?_) | (refine r_lookok iKeyOps v.a hC.map map88 zero3 rfl rfl rfl rfl rfl rfl rfl ?_) | (refine c_no rfl (fun h => h h4) ?_) | (refine c_true (by rw [hmh]; rfl) rfl ?_) | (refine r_load hT hat4 rfl rfl rfl rfl rfl rfl rfl rfl rfl rfl rfl ?_) | ((refine r_mapset iKeyOps v.a hC.map map88 rfl rfl (.inl rfl) rfl rfl rfl rfl (fun u1 hM1 hu1 => ?_) ; have hat4 : At u1 p4 0 (gCells V0 Aq ord.length cq) := at_of ((hu1 p4 (Ne.symm hC.ap.1)).trans hC.out))) | (refine r_build hT rfl rfl rfl rfl rfl rfl rfl rfl rfl ?_) | (refine r_bslice hT (ps := [(0, .tmp 34)]) rfl rfl rfl rfl rfl rfl rfl (by simp) rfl rfl (by decide) (fun b2 hb2 => ?_)) | ((refine r_append hT (cs := hs.flatMap Hd.v) (news := Hd.v ⟨none, 0, 0⟩) rfl rfl rfl rfl rfl rfl rfl rfl rfl rfl rfl (hC.ot.own.le fun b o hb ho => by rw [upd_ne (fun e => by subst e; rw [hu1 _ (fun e => by subst e; exact hC.ap.2.1 (.inl hb))] at hb2; rw [hb2] at ho; cases ho), hu1 b (fun e => by subst e; exact hC.ap.2.1 (.inl hb))]; exact ho) (sl_all (upd_here ..) rfl) (by intro x hx; simp [Hd.v] at hx; subst hx; rfl) (by dsimp only; omega) (by omega) (fun A' c' u3 hO3 hG3 => ?_) ; rw [← hcast] at hM1 ; obtain ⟨hc3, hC4, hK4⟩ := CSt_push hC hin hM1 hu1 hb2 hO3 hG3)) | (refine r_store hT rfl rfl rfl rfl rfl rfl rfl rfl rfl rfl hc3 (Nat.le_refl 5) ?_) | (refine r_arith rfl rfl rfl rfl rfl rfl rfl (by omega) ?_) | (with_reducible refine r_seq ?_) | (with_reducible refine x_then ?_) | (with_reducible refine r_region ?_) | (refine r_draw hM (by kernel_rfl) ?_) | (with_reducible refine r_skip ?_) | (with_reducible refine r_ret ?_) | (with_reducible refine x_then_ret ?_) | (with_reducible refine r_block ?_) | (with_reducible refine x_block ?_) | (with_reducible refine x_block_ret ?_) | (with_reducible refine r_exit ?_) | (with_reducible refine x_then_exit ?_) | (with_reducible refine x_block_here ?_) | (refine x_block_past rfl ?_) | (refine c_yes rfl (by omega) ?_) | (refine c_no rfl (by omega) ?_) | (refine c_no rfl (fun h => h rfl) ?_) | (refine r_cond_false rfl ?_) | (refine r_cond_true rfl ?_) | (refine r_cond_dec rfl (fun _ => ?_) (fun _ => ?_)) | (refine r_cond_true rfl ?_) | (refine r_cond_false rfl ?_) | (refine c_not rfl (fun _ => ?_) (fun _ => ?_)) | (refine r_off rfl rfl rfl ?_) | (refine q_guard rfl rfl (fun _ => ?_) (fun _ => ?_)) | (refine q_guardn rfl rfl (fun _ => ?_) (fun _ => ?_)))
        have hat1 := at_of (hC4.base _ _ hC4.c1)
        have hatt4 := hat.le hC4.base
        repeat' (first | (refine r_pure hT rfl rfl rfl rfl ?_) | (refine r_new hT rfl rfl rfl rfl ?_) | (refine r_write hT rfl rfl rfl ?_) | (refine r_nil ?_) | (refine q_nil ?_) | (refine r_load hT hat1 rfl rfl rfl rfl rfl rfl rfl rfl rfl rfl rfl ?_) | (refine r_index hT rfl rfl rfl rfl rfl rfl rfl rfl rfl hva.1 hva.2 ?_) | (refine r_load hT hatt4 rfl rfl rfl rfl rfl (Nat.add_zero _).symm rfl rfl rfl rfl rfl ?_) | (refine r_arith rfl rfl rfl rfl rfl rfl rfl (by omega) ?_) | (with_reducible refine r_seq ?_) | (with_reducible refine x_then ?_) | (with_reducible refine r_region ?_) | (refine r_draw hM (by kernel_rfl) ?_) | (with_reducible refine r_skip ?_) | (with_reducible refine r_ret ?_) | (with_reducible refine x_then_ret ?_) | (with_reducible refine r_block ?_) | (with_reducible refine x_block ?_) | (with_reducible refine x_block_ret ?_) | (with_reducible refine r_exit ?_) | (with_reducible refine x_then_exit ?_) | (with_reducible refine x_block_here ?_) | (refine x_block_past rfl ?_) | (refine c_yes rfl (by omega) ?_) | (refine c_no rfl (by omega) ?_) | (refine c_no rfl (fun h => h rfl) ?_) | (refine r_cond_false rfl ?_) | (refine r_cond_true rfl ?_) | (refine r_cond_dec rfl (fun _ => ?_) (fun _ => ?_)) | (refine r_cond_true rfl ?_) | (refine r_cond_false rfl ?_) | (refine c_not rfl (fun _ => ?_) (fun _ => ?_)) | (refine r_off rfl rfl rfl ?_) | (refine q_guard rfl rfl (fun _ => ?_) (fun _ => ?_)) | (refine q_guardn rfl rfl (fun _ => ?_) (fun _ => ?_)))
        have hinp : ∀ p ∈ t, In ts.length p.val := hA t hm
        have htl := hc t hm
        refine r_loop (γ := (Nat × Hp) × CY × (Option Addr × Nat)) (fun x => x.1.1 ≤ t.length ∧ CSt h0 x.1.2 p3 p4 p1 p5 g gr (some ⟨bt, offt, none⟩) c ts x.2.1.1 x.2.1.2.1.1 x.2.1.2.1.2 x.2.1.2.2 (tabs ++ [] :: cNew ts (ord ++ [v.a.toNat]) (goes ts f (ord ++ [v.a.toNat]) (t.take x.1.1))) (goes ts f (ord ++ [v.a.toNat]) (t.take x.1.1)) ∧
            Own x.1.2 x.2.2.1 x.1.1 x.2.2.2 61 8 (((t.take x.1.1).map (nPr (goes ts f (ord ++ [v.a.toNat]) (t.take x.1.1)))).flatMap Pr.c) ∧ (∀ b, blk x.2.2.1 = some b → h0 b = none ∧ ¬ CS g p4 x.2.1.2.1.1 x.2.1.2.2 b) ∧
            Keep u (CS g p4 Aq hs) x.1.2 (fun b => CS g p4 x.2.1.2.1.1 x.2.1.2.2 b ∨ blk x.2.2.1 = some b))
          (fun x => [(1, .v (ptr p3)), (2, .v (ptr p4)), (3, .v (ptr p1)), (4, .v (ptr p5)), (5, .p 5 0), (6, .p 6 0), (7, .v (.int .i64 ord.length)), (9, .v (.slice x.2.2.1 x.1.1 x.2.2.2)), (44, .v (.slice A1 t.length c1)), (45, .v (.int .i64 t.length)), (46, .v (.int .i64 x.1.1))])
          (fun _ => [(6, ⟨none, [.v (ZV.val (.int .i64)), .v (ZV.val (.int .i64)), .v (ZV.val .str), .v (ZV.val (.int .i64))], 48⟩), (5, ⟨none, v.sv, 48⟩)]) (fun x => x.1.2) (fun x => t.length - x.1.1)
          ((0, upd u3 p4 (.cells (gCells V0 A' (ord.length + 1) c').toArray 51 (0, 0))), (mset m (v.a.toNat : Int) (ord.length : Int), (A', c'), hs ++ [⟨none, 0, 0⟩]), (none, 0))
          ⟨Nat.zero_le _, by simpa [goes, cNew_refl] using hC4, own_nil, fun b hb => by simp [blk] at hb, fun x o hx hs' => ⟨(hK4 x o hx hs').1, fun hc => by
            rcases hc with hc | hc
            · exact (hK4 x o hx hs').2 hc
            · simp [blk] at hc⟩⟩
          (into rfl ⟨rfl, rfl, rfl, rfl, rfl, rfl, rfl, rfl, rfl, rfl, rfl, trivial⟩ ⟨rfl, rfl, trivial⟩ rfl rfl) ?_
        rintro ⟨⟨j, uj⟩, ⟨mj, ⟨Aj, cj⟩, hsj⟩, ⟨Ap, cp⟩⟩ ⟨hj, hCj, hOp, hap, hKj⟩
        dsimp only at *
        have hNj := goes_nm hA f (t.take j) _ (fun p hp => hinp p (List.mem_of_mem_take hp)) hN1
        have hpre := goes_pre ts f (t.take j) (ord ++ [v.a.toNat])
        have hlenj := hpre.length_le
        simp only [List.length_append, List.length_singleton] at hlenj
        obtain ⟨hclj, htgj⟩ := goes_closed hA f (t.take j) (ord ++ [v.a.toNat]) (fun p hp => hinp p (List.mem_of_mem_take hp)) hN1 (by simp; omega)
        by_cases hltj : j < t.length
        · obtain ⟨b2', off2, p, rfl, hd2, hix2, hm2, hat2⟩ := (hp1.le hCj.base).elem Pr.c_len hltj
          have hle0 := hCj.base
          have hat5 := at_of hCj.c5
          have hnext := goes_nPr hA (f := f) (o := ord ++ [v.a.toNat]) hix2
          repeat' (first | (refine r_pure hT rfl rfl rfl rfl ?_) | (refine r_new hT rfl rfl rfl rfl ?_) | (refine r_write hT rfl rfl rfl ?_) | (refine r_nil ?_) | (refine q_nil ?_) | (refine r_indexN hT rfl rfl rfl rfl rfl rfl rfl rfl rfl (by omega) ?_) | (refine r_load hT hat2 rfl rfl rfl rfl rfl (Nat.add_zero _).symm rfl rfl rfl rfl rfl ?_) | (refine r_load hT hat5 rfl rfl rfl rfl rfl (Nat.add_zero _).symm rfl rfl rfl rfl rfl ?_) | (refine r_many (id := 12) [0, 1, 2, 3, 4, 5] [] h0 hle0 hM (by kernel_rfl) rfl (by kernel_rfl) rfl rfl rfl (fun β0 => ?_)) | ((refine r_callV (numC h0 p3 p4 p1 p5 g gr (some ⟨bt, offt, none⟩) c ts hA hn hc f _ p.val _ uj mj Aj cj hsj _ hCj hNj (hinp p hm2) (by omega) rfl) rfl rfl rfl rfl rfl hcall rfl rfl (fun y uy hy => ?_) ; have hle0 := hy.1.base)) | (refine r_build hT rfl rfl rfl (ps := [(0, .tmp 52), (1, .tmp 56)]) rfl rfl rfl rfl rfl rfl ?_) | ((refine r_bslice hT (ps := [(0, .tmp 57)]) rfl rfl rfl rfl rfl rfl rfl (by simp) rfl rfl (by decide) (fun b3 hb3 => ?_) ; have hle0 := le_fresh (o := .cells (Pr.c (nPr (go ts f (goes ts f (ord ++ [v.a.toNat]) (t.take j)) p.val) p)).toArray 61 (0, 0)) hle0 hb3)) | ((refine r_append hT (cs := ((t.take j).map (nPr (goes ts f (ord ++ [v.a.toNat]) (t.take j)))).flatMap Pr.c) (news := Pr.c (nPr (go ts f (goes ts f (ord ++ [v.a.toNat]) (t.take j)) p.val) p)) rfl rfl rfl rfl rfl rfl rfl rfl rfl rfl rfl (hOp.le fun b o hb ho => by rw [upd_ne (fun e => by subst e; have := (hy.2 _ _ ho (hap _ hb).2).1; rw [hb3] at this; cases this)]; exact (hy.2 _ _ ho (hap _ hb).2).1) (sl_all (upd_here ..) rfl) pr_ones (by dsimp only; omega) (by omega) (fun A9 c9 u9 hO9 hG9 => ?_) ; have hle0 := (hG9 h0 hle0 (fun b hb => (hap b hb).1)).1)) | (refine m_keep hle0 ⟨rfl, rfl, rfl, trivial⟩ rfl rfl ?_) | (refine r_arith rfl rfl rfl rfl rfl rfl rfl (by omega) ?_) | (with_reducible refine r_seq ?_) | (with_reducible refine x_then ?_) | (with_reducible refine r_region ?_) | (with_reducible refine r_skip ?_) | (with_reducible refine r_ret ?_) | (with_reducible refine x_then_ret ?_) | (with_reducible refine r_block ?_) | (with_reducible refine x_block ?_) | (with_reducible refine x_block_ret ?_) | (with_reducible refine r_exit ?_) | (with_reducible refine x_then_exit ?_) | (with_reducible refine x_block_here ?_) | (refine x_block_past rfl ?_) | (refine c_yes rfl (by omega) ?_) | (refine c_no rfl (by omega) ?_) | (refine c_no rfl (fun h => h rfl) ?_) | (refine r_cond_false rfl ?_) | (refine r_cond_true rfl ?_) | (refine r_cond_dec rfl (fun _ => ?_) (fun _ => ?_)) | (refine r_cond_true rfl ?_) | (refine r_cond_false rfl ?_) | (refine c_not rfl (fun _ => ?_) (fun _ => ?_)) | (refine r_off rfl rfl rfl ?_) | (refine q_guard rfl rfl (fun _ => ?_) (fun _ => ?_)) | (refine q_guardn rfl rfl (fun _ => ?_) (fun _ => ?_)) | (refine s_nil ?_) | (with_reducible refine a_full ?_) | (refine m_step rfl rfl (List.cons_ne_nil _ _) ?_) | (refine allR_cons rfl ?_ ?_) | (exact allR_nil) | (refine m_end rfl rfl rfl ?_))
          obtain ⟨hyC, hyK⟩ := hy
          have k3 : ∀ x o, uy x = some o → blk Ap ≠ some x → u9 x = some o ∧ blk A9 ≠ some x := fun x o hx hb => hG9.keep x o (by rw [upd_ne (fun e => by subst e; rw [hb3] at hx; cases hx)]; exact hx) hb
          have hnc : ∀ b, CS g p4 y.2.1.1 y.2.2 b → blk Ap ≠ some b := fun b hb e => by
            obtain ⟨o, ho⟩ := Option.ne_none_iff_exists'.1 (hOp.live e)
            exact (hyK b o ho (hap b e).2).2 hb
          have hCn := CSt_keep hyC hle0 (fun b o hb ho => (k3 b o ho (hnc b hb)).1)
          have hpn := go_pre ts f (goes ts f (ord ++ [v.a.toNat]) (t.take j)) p.val
          refine x_round ((j + 1, u9), y, (A9, c9)) ⟨hltj, ?_, ?_, fun b hb => ⟨?_, fun hc => ?_⟩, fun x o hx hs' => ?_⟩ (by simp; omega) (into rfl ⟨rfl, rfl, rfl, rfl, rfl, rfl, rfl, rfl, rfl, rfl, rfl, trivial⟩ ⟨rfl, rfl, trivial⟩ rfl rfl)
          · show CSt h0 u9 _ _ _ _ _ _ _ _ _ _ _ _ _ (tabs ++ [] :: cNew ts (ord ++ [v.a.toNat]) (goes ts f (ord ++ [v.a.toNat]) (t.take (j + 1)))) (goes ts f (ord ++ [v.a.toNat]) (t.take (j + 1)))
            rw [hnext, cNew_trans hpre hpn hNj hclj]
            simpa using hCn
          · show Own u9 A9 (j + 1) c9 61 8 (((t.take (j + 1)).map (nPr (goes ts f (ord ++ [v.a.toNat]) (t.take (j + 1))))).flatMap Pr.c)
            rw [hnext, take_snoc hix2, List.map_append, List.flatMap_append, nPr_pre hpn htgj]
            simpa using hO9
          · exact (hG9 h0 (le_fresh hyC.base hb3) (fun b hb => (hap b hb).1)).2 b hb
          · obtain ⟨o, ho⟩ := CSt_live hyC hc
            exact (k3 b o ho (hnc b hc)).2 hb
          · obtain ⟨d1, d2⟩ := hKj x o hx hs'
            simp only [not_or] at d2
            obtain ⟨d3, d4⟩ := hyK x o d1 d2.1
            obtain ⟨d5, d6⟩ := k3 x o d3 d2.2
            exact ⟨d5, fun hc => by
              rcases hc with hc | hc
              · exact d4 hc
              · exact d6 hc⟩
        · obtain rfl : j = t.length := by omega
          rw [List.take_length] at hCj hOp hNj hpre hlenj hclj htgj
          have hat4j := at_of hCj.out
          obtain ⟨bj, offj, rfl⟩ := own_some hCj.ot.own (i := ord.length) (by omega)
          have hnum := hC.ot.num
          have hput := hCj.ot.own.len
          repeat' (first | (refine r_pure hT rfl rfl rfl rfl ?_) | (refine r_new hT rfl rfl rfl rfl ?_) | (refine r_write hT rfl rfl rfl ?_) | (refine r_nil ?_) | (refine q_nil ?_) | (refine r_load hT hat4j rfl rfl rfl rfl rfl rfl rfl rfl rfl rfl rfl ?_) | (refine r_indexN hT rfl rfl rfl rfl rfl rfl rfl rfl rfl (by omega) ?_) | (refine r_store_own (o := ord.length * 1) hT hCj.ot.own rfl rfl rfl rfl rfl rfl rfl rfl rfl rfl rfl (by rw [hput]; show ord.length * 1 + 1 ≤ _ * 1; omega) (fun u9 hO9 hu9 => ?_)) | (refine r_arith rfl rfl rfl rfl rfl rfl rfl (by omega) ?_) | (with_reducible refine r_seq ?_) | (with_reducible refine x_then ?_) | (with_reducible refine r_region ?_) | (refine r_draw hM (by kernel_rfl) ?_) | (with_reducible refine r_skip ?_) | (with_reducible refine r_ret ?_) | (with_reducible refine x_then_ret ?_) | (with_reducible refine r_block ?_) | (with_reducible refine x_block ?_) | (with_reducible refine x_block_ret ?_) | (with_reducible refine r_exit ?_) | (with_reducible refine x_then_exit ?_) | (with_reducible refine x_block_here ?_) | (refine x_block_past rfl ?_) | (refine c_yes rfl (by omega) ?_) | (refine c_no rfl (by omega) ?_) | (refine c_no rfl (fun h => h rfl) ?_) | (refine r_cond_false rfl ?_) | (refine r_cond_true rfl ?_) | (refine r_cond_dec rfl (fun _ => ?_) (fun _ => ?_)) | (refine r_cond_true rfl ?_) | (refine r_cond_false rfl ?_) | (refine c_not rfl (fun _ => ?_) (fun _ => ?_)) | (refine r_off rfl rfl rfl ?_) | (refine q_guard rfl rfl (fun _ => ?_) (fun _ => ?_)) | (refine q_guardn rfl rfl (fun _ => ?_) (fun _ => ?_)))
          rw [hnum] at hO9
          obtain ⟨hCf, hKf⟩ := CSt_put (y := ⟨Ap, t.length, cp⟩) (pre := tabs) hCj (by simp) hO9 hu9 hOp hap
          have hidx : (goes ts f (ord ++ [v.a.toNat]) t).idxOf v.a.toNat = ord.length := by
            rw [idx_pre hpre (by simp), List.idxOf_append, if_neg hin]; simp
          simp only [ren, if_pos h4, hidx] at hr
          subst hr
          rw [cNew_new hpre hix]
          exact r_fin hT rfl ((mj, (some ⟨bj, offj, none⟩, cj), hsj.set tabs.length ⟨Ap, t.length, cp⟩) : CY) rfl rfl rfl trivial rfl ⟨hCf, hKj.trans hKf⟩
    · have hg := go_leaf (ts := ts) (f := f + 1) (ord := ord) h4
      rw [hg, cNew_refl, List.append_nil]
      rw [hg] at hr
      have hr' : r = v := by rw [hr, ren, if_neg h4]
      subst hr'
      repeat' (first | (refine r_pure hT rfl rfl rfl rfl ?_) | (refine r_new hT rfl rfl rfl rfl ?_) | (refine r_write hT rfl rfl rfl ?_) | (refine r_nil ?_) | (refine q_nil ?_) | (refine c_yes rfl h4 ?_) | (refine r_arith rfl rfl rfl rfl rfl rfl rfl (by omega) ?_) | (with_reducible refine r_seq ?_) | (with_reducible refine x_then ?_) | (with_reducible refine r_region ?_) | (refine r_draw hM (by kernel_rfl) ?_) | (with_reducible refine r_skip ?_) | (with_reducible refine r_ret ?_) | (with_reducible refine x_then_ret ?_) | (with_reducible refine r_block ?_) | (with_reducible refine x_block ?_) | (with_reducible refine x_block_ret ?_) | (with_reducible refine r_exit ?_) | (with_reducible refine x_then_exit ?_) | (with_reducible refine x_block_here ?_) | (refine x_block_past rfl ?_) | (refine c_yes rfl (by omega) ?_) | (refine c_no rfl (by omega) ?_) | (refine c_no rfl (fun h => h rfl) ?_) | (refine r_cond_false rfl ?_) | (refine r_cond_true rfl ?_) | (refine r_cond_dec rfl (fun _ => ?_) (fun _ => ?_)) | (refine r_cond_true rfl ?_) | (refine r_cond_false rfl ?_) | (refine c_not rfl (fun _ => ?_) (fun _ => ?_)) | (refine r_off rfl rfl rfl ?_) | (refine q_guard rfl rfl (fun _ => ?_) (fun _ => ?_)) | (refine q_guardn rfl rfl (fun _ => ?_) (fun _ => ?_)))
      exact r_fin hT rfl ((m, (Aq, cq), hs) : CY) rfl rfl rfl trivial rfl ⟨hC, Keep.refl _ _⟩
end Go.Proofs.YtkamfnmbidnhdaaDoor
namespace Go.Proofs.YtkamfnmbidnhdaaDoor
open Go.Sy
set_option maxRecDepth 100000
set_option maxHeartbeats 4000000
set_option linter.unusedVariables false
set_option linter.unusedSimpArgs false
abbrev OY := (Option Addr × Nat) × List Hd
theorem implCanon (v : V) (ts : List (List Pr)) (A : Option Addr) (n c : Nat) (h : Hp) (hP : Tabs h A n ts) :
    TriS Tryd.prog 68 [.ag (gsv v A n c)] [] h (fun y : OY => .ag (gsv (cV v ts) y.1.1 (cT v ts).length y.1.2)) (fun _ => []) (fun y h' => OT h' 59 61 y.1.1 (cT v ts).length y.1.2 y.2 (cT v ts) ∧ Le h h' ∧ OffAll h y.1.1 y.2) := by
  obtain rfl := hP.len
  refine enterS Tryd.func68 rfl (n := 18) rfl rfl (fun k N => ?_)
  by_cases hg : GOk v ts
  · obtain ⟨h1, h2, h3, h4⟩ := gok_in hg
    have e1 : cV v ts = ren (ordOf ts v) v := if_pos hg
    have e2 : cT v ts = cTs ts (ordOf ts v) := if_pos hg
    have e3 : (cTs ts (ordOf ts v)).length = (ordOf ts v).length := by simp [cTs]
    rw [e1, e2, e3]
    repeat' (first | (refine r_pure hT rfl rfl rfl rfl ?_) | (refine r_new hT rfl rfl rfl rfl ?_) | (refine r_write hT rfl rfl rfl ?_) | (refine r_nil ?_) | (refine q_nil ?_) | ((refine r_call (implOk v ts A ts.length c _ hP) rfl rfl rfl rfl rfl (hC _ rfl) rfl rfl (fun y u1 hy => ?_) ; obtain ⟨hy1, hle1⟩ := hy ; subst hy1)) | (refine c_not rfl (fun hx => absurd hg hx) (fun _ => ?_)) | (refine r_mkmap rfl rfl rfl rfl (fun g hg0 => ?_)) | (refine r_arith rfl rfl rfl rfl rfl rfl rfl (by omega) ?_) | (with_reducible refine r_seq ?_) | (with_reducible refine x_then ?_) | (with_reducible refine r_region ?_) | (refine r_draw hM (by kernel_rfl) ?_) | (with_reducible refine r_skip ?_) | (with_reducible refine r_ret ?_) | (with_reducible refine x_then_ret ?_) | (with_reducible refine r_block ?_) | (with_reducible refine x_block ?_) | (with_reducible refine x_block_ret ?_) | (with_reducible refine r_exit ?_) | (with_reducible refine x_then_exit ?_) | (with_reducible refine x_block_here ?_) | (refine x_block_past rfl ?_) | (refine c_yes rfl (by omega) ?_) | (refine c_no rfl (by omega) ?_) | (refine c_no rfl (fun h => h rfl) ?_) | (refine r_cond_false rfl ?_) | (refine r_cond_true rfl ?_) | (refine r_cond_dec rfl (fun _ => ?_) (fun _ => ?_)) | (refine r_cond_true rfl ?_) | (refine r_cond_false rfl ?_) | (refine c_not rfl (fun _ => ?_) (fun _ => ?_)) | (refine r_off rfl rfl rfl ?_) | (refine q_guard rfl rfl (fun _ => ?_) (fun _ => ?_)) | (refine q_guardn rfl rfl (fun _ => ?_) (fun _ => ?_)))
    refine r_pub 3 (fun _ => [Value.map (some g)]) rfl rfl (fun _ => rfl) (fun p3 hp3 => ?_)
    refine r_pub 4 (fun _ => gCells V0 none 0 0) rfl rfl (fun _ => rfl) (fun p4 hp4 => ?_)
    refine r_pub 1 (fun _ => gCells v A ts.length c) rfl rfl (fun _ => rfl) (fun p1 hp1 => ?_)
    refine r_pub 5 (fun p5 => [Value.func (.func 108) ⟨[]⟩ ⟨[ptr p3, ptr p4, ptr p1, ptr p5]⟩]) rfl rfl (fun _ => rfl) (fun p5 hp5 => ?_)
    change upd u1 g (.map #[] 0) p3 = none at hp3
    change upd (upd u1 g (.map #[] 0)) p3 (.cells [Value.map (some g)].toArray 90 (0, 0)) p4 = none at hp4
    change upd (upd (upd u1 g (.map #[] 0)) p3 (.cells [Value.map (some g)].toArray 90 (0, 0))) p4 (.cells (gCells V0 none 0 0).toArray 51 (0, 0)) p1 = none at hp1
    change upd (upd (upd (upd u1 g (.map #[] 0)) p3 (.cells [Value.map (some g)].toArray 90 (0, 0))) p4 (.cells (gCells V0 none 0 0).toArray 51 (0, 0))) p1 (.cells (gCells v A ts.length c).toArray 51 (0, 0)) p5 = none at hp5
    have n3 := up_none hp3
    have n4 := up_none hp4
    have n4b := up_none n4.2
    have n1 := up_none hp1
    have n1b := up_none n1.2
    have n1c := up_none n1b.2
    have n5 := up_none hp5
    have n5b := up_none n5.2
    have n5c := up_none n5b.2
    have n5d := up_none n5c.2
    have hle0 : Le u1 (upd (upd (upd u1 p3 (.cells [Value.map (some g)].toArray 90 (0, 0))) p1 (.cells (gCells v A ts.length c).toArray 51 (0, 0))) p5 (.cells [Value.func (.func 108) ⟨[]⟩ ⟨[ptr p3, ptr p4, ptr p1, ptr p5]⟩].toArray 103 (0, 0))) :=
      (((Le.refl u1).upd n3.2).upd n1c.2).upd n5d.2
    have hC0 : CSt (upd (upd (upd u1 p3 (.cells [Value.map (some g)].toArray 90 (0, 0))) p1 (.cells (gCells v A ts.length c).toArray 51 (0, 0))) p5 (.cells [Value.func (.func 108) ⟨[]⟩ ⟨[ptr p3, ptr p4, ptr p1, ptr p5]⟩].toArray 103 (0, 0)))
        (upd (upd (upd (upd (upd u1 g (.map #[] 0)) p3 (.cells [Value.map (some g)].toArray 90 (0, 0))) p4 (.cells (gCells V0 none 0 0).toArray 51 (0, 0))) p1 (.cells (gCells v A ts.length c).toArray 51 (0, 0))) p5 (.cells [Value.func (.func 108) ⟨[]⟩ ⟨[ptr p3, ptr p4, ptr p1, ptr p5]⟩].toArray 103 (0, 0)))
        p3 p4 p1 p5 g v A c ts [] none 0 [] [] [] := by
      refine ⟨(MAt.made Tryd.prog iKey u1 g).same ?_, fun a => ⟨by simp [mhas], fun hx => by cases hx⟩, ?_, ⟨rfl, own_nil, ORows.nil⟩, fun b o hb => ?_, fun b hb => ?_, ?_, ?_, upd_here .., ⟨Ne.symm n4b.1, fun hx => ?_, fun hx => ?_⟩, hP.le (hle1.trans hle0)⟩
      · rw [upd_ne (Ne.symm n5d.1), upd_ne (Ne.symm n1c.1), upd_ne (Ne.symm n4b.1), upd_ne (Ne.symm n3.1)]
      · rw [upd_ne (Ne.symm n5b.1), upd_ne (Ne.symm n1.1), upd_here]; rfl
      · by_cases b5 : b = p5
        · subst b5; rw [upd_here] at hb ⊢; exact hb
        rw [upd_ne b5] at hb ⊢
        by_cases b1 : b = p1
        · subst b1; rw [upd_here] at hb ⊢; exact hb
        rw [upd_ne b1] at hb ⊢
        by_cases b3 : b = p3
        · subst b3; rw [upd_here] at hb; rw [upd_ne (Ne.symm n4.1), upd_here]; exact hb
        rw [upd_ne b3] at hb
        rw [upd_ne (fun e => by subst e; rw [n4b.2] at hb; cases hb), upd_ne b3, upd_ne (fun e => by subst e; rw [hg0] at hb; cases hb)]; exact hb
      · rcases hb with rfl | rfl | hb
        · rw [upd_ne (Ne.symm n5d.1), upd_ne (Ne.symm n1c.1), upd_ne (Ne.symm n3.1)]; exact hg0
        · rw [upd_ne (Ne.symm n5b.1), upd_ne (Ne.symm n1.1), upd_ne n4.1]; exact n4b.2
        · rcases hb with hb | ⟨x, hx, _⟩
          · cases hb
          · cases hx
      · rw [upd_ne (Ne.symm n5c.1), upd_ne (Ne.symm n1b.1), upd_here]
      · rw [upd_ne (Ne.symm n5.1), upd_here]
      · rcases hx with hb | ⟨x, hx, _⟩
        · cases hb
        · cases hx
      · rcases hx with hb | ⟨x, hx, _⟩
        · cases hb
        · cases hx
    repeat' (first | (refine r_pure hT rfl rfl rfl rfl ?_) | (refine r_new hT rfl rfl rfl rfl ?_) | (refine r_write hT rfl rfl rfl ?_) | (refine r_nil ?_) | (refine q_nil ?_) | ((refine r_call (numC _ p3 p4 p1 p5 g v A c ts h1 (by omega) (fun t ht => by have := h4 t ht; omega) (ts.length + 1) [] v _ _ [] none 0 [] [] hC0 (nm_nil _) h2 (by simp) rfl) rfl rfl rfl rfl rfl (hC _ rfl) rfl rfl (fun y u6 hy => ?_) ; obtain ⟨hyC, hyK⟩ := hy)) | ((refine r_store hT rfl rfl rfl rfl rfl rfl rfl rfl rfl rfl hyC.out (Nat.le_succ 4) ?_ ; have hat9 : At (upd u6 p4 (.cells (gCells (ren (go ts (ts.length + 1) [] v) v) y.2.1.1 (go ts (ts.length + 1) [] v).length y.2.1.2).toArray 51 (0, 0))) p4 0 (gCells (ren (go ts (ts.length + 1) [] v) v) y.2.1.1 (go ts (ts.length + 1) [] v).length y.2.1.2) := at_of (upd_here ..))) | (refine r_load hT hat9 rfl rfl rfl rfl rfl (Nat.add_zero _).symm rfl rfl rfl rfl rfl ?_) | (refine r_arith rfl rfl rfl rfl rfl rfl rfl (by omega) ?_) | (with_reducible refine r_seq ?_) | (with_reducible refine x_then ?_) | (with_reducible refine r_region ?_) | (refine r_draw hM (by kernel_rfl) ?_) | (with_reducible refine r_skip ?_) | (with_reducible refine r_ret ?_) | (with_reducible refine x_then_ret ?_) | (with_reducible refine r_block ?_) | (with_reducible refine x_block ?_) | (with_reducible refine x_block_ret ?_) | (with_reducible refine r_exit ?_) | (with_reducible refine x_then_exit ?_) | (with_reducible refine x_block_here ?_) | (refine x_block_past rfl ?_) | (refine c_yes rfl (by omega) ?_) | (refine c_no rfl (by omega) ?_) | (refine c_no rfl (fun h => h rfl) ?_) | (refine r_cond_false rfl ?_) | (refine r_cond_true rfl ?_) | (refine r_cond_dec rfl (fun _ => ?_) (fun _ => ?_)) | (refine r_cond_true rfl ?_) | (refine r_cond_false rfl ?_) | (refine c_not rfl (fun _ => ?_) (fun _ => ?_)) | (refine r_off rfl rfl rfl ?_) | (refine q_guard rfl rfl (fun _ => ?_) (fun _ => ?_)) | (refine q_guardn rfl rfl (fun _ => ?_) (fun _ => ?_)))
    rw [List.nil_append, cNew_nil] at hyC
    refine r_fin hT rfl ((y.2.1, y.2.2) : OY) rfl rfl rfl trivial rfl ⟨hyC.ot.keep fun b o hb ho => ?_, fun x o hx => ?_, fun b hb => ?_, fun x hx b hb => ?_⟩
    · rw [upd_ne (fun e => by subst e; exact hyC.ap.2.2 hb)]; exact ho
    · rw [upd_ne (fun e => by subst e; rw [hle1 _ _ hx] at n4b; cases n4b.2)]
      exact hyC.base x o (hle0 x o (hle1 x o hx))
    · have h0n := hyC.off b (.inr (.inr (.inl hb)))
      cases hh : h b with
      | none => rfl
      | some o => rw [hle0 b o (hle1 b o hh)] at h0n; cases h0n
    · have h0n := hyC.off b (.inr (.inr (.inr ⟨x, hx, hb⟩)))
      cases hh : h b with
      | none => rfl
      | some o => rw [hle0 b o (hle1 b o hh)] at h0n; cases h0n
  · have e1 : cV v ts = V0 := if_neg hg
    have e2 : cT v ts = [] := if_neg hg
    rw [e1, e2]
    repeat' (first | (refine r_pure hT rfl rfl rfl rfl ?_) | (refine r_new hT rfl rfl rfl rfl ?_) | (refine r_write hT rfl rfl rfl ?_) | (refine r_nil ?_) | (refine q_nil ?_) | ((refine r_call (implOk v ts A ts.length c _ hP) rfl rfl rfl rfl rfl (hC _ rfl) rfl rfl (fun y u1 hy => ?_) ; obtain ⟨hy1, hle1⟩ := hy ; subst hy1)) | (refine c_not rfl (fun _ => ?_) (fun hx => absurd hx hg)) | (refine r_build hT rfl rfl rfl rfl rfl rfl rfl rfl rfl ?_) | (refine r_arith rfl rfl rfl rfl rfl rfl rfl (by omega) ?_) | (with_reducible refine r_seq ?_) | (with_reducible refine x_then ?_) | (with_reducible refine r_region ?_) | (refine r_draw hM (by kernel_rfl) ?_) | (with_reducible refine r_skip ?_) | (with_reducible refine r_ret ?_) | (with_reducible refine x_then_ret ?_) | (with_reducible refine r_block ?_) | (with_reducible refine x_block ?_) | (with_reducible refine x_block_ret ?_) | (with_reducible refine r_exit ?_) | (with_reducible refine x_then_exit ?_) | (with_reducible refine x_block_here ?_) | (refine x_block_past rfl ?_) | (refine c_yes rfl (by omega) ?_) | (refine c_no rfl (by omega) ?_) | (refine c_no rfl (fun h => h rfl) ?_) | (refine r_cond_false rfl ?_) | (refine r_cond_true rfl ?_) | (refine r_cond_dec rfl (fun _ => ?_) (fun _ => ?_)) | (refine r_cond_true rfl ?_) | (refine r_cond_false rfl ?_) | (refine c_not rfl (fun _ => ?_) (fun _ => ?_)) | (refine r_off rfl rfl rfl ?_) | (refine q_guard rfl rfl (fun _ => ?_) (fun _ => ?_)) | (refine q_guardn rfl rfl (fun _ => ?_) (fun _ => ?_)))
    exact r_fin hT rfl (((none, 0), []) : OY) rfl rfl rfl trivial rfl ⟨⟨rfl, own_nil, ORows.nil⟩, hle1, off_nil, fun x hx => by cases hx⟩
end Go.Proofs.YtkamfnmbidnhdaaDoor
namespace Go.Proofs.YtkamfnmbidnhdaaDoor
open Go.Sy
set_option maxRecDepth 100000
set_option linter.unusedVariables false
end Go.Proofs.YtkamfnmbidnhdaaDoor
namespace Go.Proofs.YtkamfnmbidnhdaaDoor
open Go.Sy
set_option maxRecDepth 100000
set_option maxHeartbeats 4000000
set_option linter.unusedVariables false
end Go.Proofs.YtkamfnmbidnhdaaDoor
namespace Go.Proofs.YtkamfnmbidnhdaaDoor
open Go.Sy
set_option maxRecDepth 100000
set_option maxHeartbeats 4000000
set_option linter.unusedVariables false
end Go.Proofs.YtkamfnmbidnhdaaDoor
namespace Go.Proofs.YtkamfnmbidnhdaaDoor
open Go.Sy
set_option maxRecDepth 100000
set_option maxHeartbeats 4000000
set_option linter.unusedVariables false
/-! eq.. of what is alike -/
end Go.Proofs.YtkamfnmbidnhdaaDoor
namespace Go.Proofs.YtkamfnmbidnhdaaDoor
open Go.Sy
set_option maxRecDepth 100000
set_option maxHeartbeats 4000000
set_option linter.unusedVariables false
end Go.Proofs.YtkamfnmbidnhdaaDoor
namespace Go.Proofs.YtkamfnmbidnhdaaDoor
open Go.Sy
set_option maxRecDepth 100000
set_option maxHeartbeats 4000000
set_option linter.unusedVariables false
def cnt : List (List Pr) → Nat
  | [] => 0
  | t :: r => t.length + cnt r
end Go.Proofs.YtkamfnmbidnhdaaDoor
namespace Go.Sy
end Go.Sy
namespace Go.Proofs.YtkamfnmbidnhdaaDoor
open Go.Sy
set_option maxRecDepth 100000
set_option maxHeartbeats 4000000
set_option linter.unusedVariables false
set_option linter.unusedSimpArgs false
theorem cnt_le : ∀ (ts : List (List Pr)) (m : Nat), (∀ t ∈ ts, t.length ≤ m) → cnt ts ≤ ts.length * m
  | [], m, _ => by simp [cnt]
  | t :: r, m, h => by
    have h1 := cnt_le r m (fun s hs => h s (.tail _ hs))
    have h2 := h t (.head _)
    simp only [cnt, List.length_cons, Nat.add_mul]; omega
end Go.Proofs.YtkamfnmbidnhdaaDoor
namespace Go.Proofs.YtkamfnmbidnhdaaDoor
open Go.Sy
set_option maxRecDepth 100000
set_option maxHeartbeats 4000000
set_option linter.unusedVariables false
set_option linter.unusedSimpArgs false
end Go.Proofs.YtkamfnmbidnhdaaDoor
/- The laws' functions over rows of whole numbers: marks. -/
namespace Go.Proofs.YtkamfnmbidnhdaaDoor
open Go.Sy
set_option maxRecDepth 100000
set_option maxHeartbeats 4000000
set_option linter.unusedVariables false
set_option linter.unusedSimpArgs false
end Go.Proofs.YtkamfnmbidnhdaaDoor
/- Classes, of both; FnExactClasses, the law's walk. No condition. -/
namespace Go.Proofs.YtkamfnmbidnhdaaDoor
open Go.Sy
set_option maxRecDepth 100000
set_option maxHeartbeats 4000000
set_option linter.unusedVariables false
set_option linter.unusedSimpArgs false
/-- What Classes answers. -/
def clsG (v : V) (ts : List (List Pr)) : List Nat := if GOk v ts then cls (ts.map srt) else []
theorem gok_cl {v : V} {ts : List (List Pr)} (h : GOk v ts) (hr : RngG v ts) : ClOk ts := ⟨Nat.le_trans h.1 (by decide), h.2.2, (gok_fit h hr).2.1⟩
theorem specClasses (v : V) (ts : List (List Pr)) (A : Option Addr) (n c : Nat) (h : Hp) (hP : Tabs h A n ts) (hr : RngG v ts) :
    TriS Tryd.prog 39 [.ag (gsv v A n c)] [] h (fun y : Option Addr × Nat => .v (.slice y.1 (clsG v ts).length y.2)) (fun _ => []) (fun y h' => Own h' y.1 (clsG v ts).length y.2 3 1 ((cI (clsG v ts)).flatMap Ic) ∧ Le h h' ∧ Off h y.1) := by
  refine enterS Tryd.func39 rfl (n := 9) rfl rfl (fun k N => ?_)
  by_cases hg : GOk v ts
  · have e1 : clsG v ts = cls (ts.map srt) := if_pos hg
    have hCl := gok_cl hg hr
    have e2 : (cls (ts.map srt)).length = ts.length := by rw [cls_len _ hCl.inSrt, List.length_map]
    rw [e1, e2]
    repeat' (first | (refine r_pure hT rfl rfl rfl rfl ?_) | (refine r_new hT rfl rfl rfl rfl ?_) | (refine r_write hT rfl rfl rfl ?_) | (refine r_nil ?_) | (refine q_nil ?_) | (refine p_call (specOk v ts A n c h hP) rfl rfl rfl rfl rfl (hC _ rfl) rfl rfl rfl ?_) | (refine c_not rfl (fun hx => absurd hg hx) (fun _ => ?_)) | (refine r_call (classes86 ts A n c _ hP hCl) rfl rfl rfl rfl rfl (hC _ rfl) rfl rfl (fun y u hy => ?_)) | (refine r_arith rfl rfl rfl rfl rfl rfl rfl (by omega) ?_) | (with_reducible refine r_seq ?_) | (with_reducible refine x_then ?_) | (with_reducible refine r_region ?_) | (refine r_draw hM (by kernel_rfl) ?_) | (with_reducible refine r_skip ?_) | (with_reducible refine r_ret ?_) | (with_reducible refine x_then_ret ?_) | (with_reducible refine r_block ?_) | (with_reducible refine x_block ?_) | (with_reducible refine x_block_ret ?_) | (with_reducible refine r_exit ?_) | (with_reducible refine x_then_exit ?_) | (with_reducible refine x_block_here ?_) | (refine x_block_past rfl ?_) | (refine c_yes rfl (by omega) ?_) | (refine c_no rfl (by omega) ?_) | (refine c_no rfl (fun h => h rfl) ?_) | (refine r_cond_false rfl ?_) | (refine r_cond_true rfl ?_) | (refine r_cond_dec rfl (fun _ => ?_) (fun _ => ?_)) | (refine r_cond_true rfl ?_) | (refine r_cond_false rfl ?_) | (refine c_not rfl (fun _ => ?_) (fun _ => ?_)) | (refine r_off rfl rfl rfl ?_) | (refine q_guard rfl rfl (fun _ => ?_) (fun _ => ?_)) | (refine q_guardn rfl rfl (fun _ => ?_) (fun _ => ?_)))
    exact r_fin hT rfl y rfl rfl rfl trivial rfl hy
  · have e1 : clsG v ts = [] := if_neg hg
    rw [e1]
    repeat' (first | (refine r_pure hT rfl rfl rfl rfl ?_) | (refine r_new hT rfl rfl rfl rfl ?_) | (refine r_write hT rfl rfl rfl ?_) | (refine r_nil ?_) | (refine q_nil ?_) | (refine p_call (specOk v ts A n c h hP) rfl rfl rfl rfl rfl (hC _ rfl) rfl rfl rfl ?_) | (refine c_not rfl (fun _ => ?_) (fun hx => absurd hx hg)) | (refine r_arith rfl rfl rfl rfl rfl rfl rfl (by omega) ?_) | (with_reducible refine r_seq ?_) | (with_reducible refine x_then ?_) | (with_reducible refine r_region ?_) | (refine r_draw hM (by kernel_rfl) ?_) | (with_reducible refine r_skip ?_) | (with_reducible refine r_ret ?_) | (with_reducible refine x_then_ret ?_) | (with_reducible refine r_block ?_) | (with_reducible refine x_block ?_) | (with_reducible refine x_block_ret ?_) | (with_reducible refine r_exit ?_) | (with_reducible refine x_then_exit ?_) | (with_reducible refine x_block_here ?_) | (refine x_block_past rfl ?_) | (refine c_yes rfl (by omega) ?_) | (refine c_no rfl (by omega) ?_) | (refine c_no rfl (fun h => h rfl) ?_) | (refine r_cond_false rfl ?_) | (refine r_cond_true rfl ?_) | (refine r_cond_dec rfl (fun _ => ?_) (fun _ => ?_)) | (refine r_cond_true rfl ?_) | (refine r_cond_false rfl ?_) | (refine c_not rfl (fun _ => ?_) (fun _ => ?_)) | (refine r_off rfl rfl rfl ?_) | (refine q_guard rfl rfl (fun _ => ?_) (fun _ => ?_)) | (refine q_guardn rfl rfl (fun _ => ?_) (fun _ => ?_)))
    exact r_fin hT rfl ((none, 0) : Option Addr × Nat) rfl rfl rfl trivial rfl ⟨own_nil, Le.refl h, off_nil⟩
theorem implClasses (v : V) (ts : List (List Pr)) (A : Option Addr) (n c : Nat) (h : Hp) (hP : Tabs h A n ts) (hr : RngG v ts) (ht : Tab10 h) :
    TriS Tryd.prog 40 [.ag (gsv v A n c)] [] h (fun y : Option Addr × Nat => .v (.slice y.1 (clsG v ts).length y.2)) (fun _ => []) (fun y h' => Own h' y.1 (clsG v ts).length y.2 3 1 ((cI (clsG v ts)).flatMap Ic) ∧ Le h h' ∧ Off h y.1) := by
  refine enterS Tryd.func40 rfl (n := 9) rfl rfl (fun k N => ?_)
  by_cases hg : GOk v ts
  · have e1 : clsG v ts = cls (ts.map srt) := if_pos hg
    have hCl := gok_cl hg hr
    have e2 : (cls (ts.map srt)).length = ts.length := by rw [cls_len _ hCl.inSrt, List.length_map]
    rw [e1, e2]
    repeat' (first | (refine r_pure hT rfl rfl rfl rfl ?_) | (refine r_new hT rfl rfl rfl rfl ?_) | (refine r_write hT rfl rfl rfl ?_) | (refine r_nil ?_) | (refine q_nil ?_) | ((refine r_call (implOk v ts A n c _ hP) rfl rfl rfl rfl rfl (hC _ rfl) rfl rfl (fun y u1 hy => ?_) ; obtain ⟨hy1, hle1⟩ := hy ; subst hy1)) | (refine c_not rfl (fun hx => absurd hg hx) (fun _ => ?_)) | (refine r_call (classes76 ts A n c _ (hP.le hle1) hCl (ht.le hle1)) rfl rfl rfl rfl rfl (hC _ rfl) rfl rfl (fun y u hy => ?_)) | (refine r_arith rfl rfl rfl rfl rfl rfl rfl (by omega) ?_) | (with_reducible refine r_seq ?_) | (with_reducible refine x_then ?_) | (with_reducible refine r_region ?_) | (refine r_draw hM (by kernel_rfl) ?_) | (with_reducible refine r_skip ?_) | (with_reducible refine r_ret ?_) | (with_reducible refine x_then_ret ?_) | (with_reducible refine r_block ?_) | (with_reducible refine x_block ?_) | (with_reducible refine x_block_ret ?_) | (with_reducible refine r_exit ?_) | (with_reducible refine x_then_exit ?_) | (with_reducible refine x_block_here ?_) | (refine x_block_past rfl ?_) | (refine c_yes rfl (by omega) ?_) | (refine c_no rfl (by omega) ?_) | (refine c_no rfl (fun h => h rfl) ?_) | (refine r_cond_false rfl ?_) | (refine r_cond_true rfl ?_) | (refine r_cond_dec rfl (fun _ => ?_) (fun _ => ?_)) | (refine r_cond_true rfl ?_) | (refine r_cond_false rfl ?_) | (refine c_not rfl (fun _ => ?_) (fun _ => ?_)) | (refine r_off rfl rfl rfl ?_) | (refine q_guard rfl rfl (fun _ => ?_) (fun _ => ?_)) | (refine q_guardn rfl rfl (fun _ => ?_) (fun _ => ?_)))
    obtain ⟨h1, h2, h3⟩ := hy
    exact r_fin hT rfl y rfl rfl rfl trivial rfl ⟨h1, hle1.trans h2, fun b hb => none_of hle1 (h3 b hb)⟩
  · have e1 : clsG v ts = [] := if_neg hg
    rw [e1]
    repeat' (first | (refine r_pure hT rfl rfl rfl rfl ?_) | (refine r_new hT rfl rfl rfl rfl ?_) | (refine r_write hT rfl rfl rfl ?_) | (refine r_nil ?_) | (refine q_nil ?_) | ((refine r_call (implOk v ts A n c _ hP) rfl rfl rfl rfl rfl (hC _ rfl) rfl rfl (fun y u1 hy => ?_) ; obtain ⟨hy1, hle1⟩ := hy ; subst hy1)) | (refine c_not rfl (fun _ => ?_) (fun hx => absurd hx hg)) | (refine r_arith rfl rfl rfl rfl rfl rfl rfl (by omega) ?_) | (with_reducible refine r_seq ?_) | (with_reducible refine x_then ?_) | (with_reducible refine r_region ?_) | (refine r_draw hM (by kernel_rfl) ?_) | (with_reducible refine r_skip ?_) | (with_reducible refine r_ret ?_) | (with_reducible refine x_then_ret ?_) | (with_reducible refine r_block ?_) | (with_reducible refine x_block ?_) | (with_reducible refine x_block_ret ?_) | (with_reducible refine r_exit ?_) | (with_reducible refine x_then_exit ?_) | (with_reducible refine x_block_here ?_) | (refine x_block_past rfl ?_) | (refine c_yes rfl (by omega) ?_) | (refine c_no rfl (by omega) ?_) | (refine c_no rfl (fun h => h rfl) ?_) | (refine r_cond_false rfl ?_) | (refine r_cond_true rfl ?_) | (refine r_cond_dec rfl (fun _ => ?_) (fun _ => ?_)) | (refine r_cond_true rfl ?_) | (refine r_cond_false rfl ?_) | (refine c_not rfl (fun _ => ?_) (fun _ => ?_)) | (refine r_off rfl rfl rfl ?_) | (refine q_guard rfl rfl (fun _ => ?_) (fun _ => ?_)) | (refine q_guardn rfl rfl (fun _ => ?_) (fun _ => ?_)))
    exact r_fin hT rfl ((none, 0) : Option Addr × Nat) rfl rfl rfl trivial rfl ⟨own_nil, hle1, off_nil⟩
end Go.Proofs.YtkamfnmbidnhdaaDoor
/- spec.Same. No condition. -/
namespace Go.Proofs.YtkamfnmbidnhdaaDoor
open Go.Sy
set_option maxRecDepth 100000
set_option maxHeartbeats 4000000
set_option linter.unusedVariables false
set_option linter.unusedSimpArgs false
/-- What Same answers. -/
def sameB (v v' : V) (a b : List (List Pr)) : Bool := if GOk v a ∧ GOk v' b then alike (cls ((both a b).map srt)) v (shV a.length v') else false
theorem both_len (a b : List (List Pr)) : (both a b).length = a.length + b.length := by simp [both]
theorem clsB_len {v v' : V} {a b : List (List Pr)} (hg : GOk v a) (hg' : GOk v' b) (hr : RngG v a) (hr' : RngG v' b) : ClOk (both a b) ∧ (cls ((both a b).map srt)).length = a.length + b.length := by
  have h1 := cl_both (gok_cl hg hr) (gok_cl hg' hr') hg.1 hg'.1
  exact ⟨h1, by rw [cls_len _ h1.inSrt, List.length_map, both_len]⟩
theorem gok_rows {v : V} {ts : List (List Pr)} (h : GOk v ts) : (∀ t ∈ ts, t.length ≤ 1000) ∧ ∀ t ∈ ts, ∀ p ∈ t, In ts.length p.val :=
  ⟨fun t ht => Nat.le_trans (h.2.2 t ht).1 (by decide), (gok_in h).1⟩
end Go.Proofs.YtkamfnmbidnhdaaDoor
