/- impl.Same. No condition. -/
import Derived.Test.YtkamfnmbidnhdaaDoorSqAR
import Derived.Test.YtkamfnmbidnhdaaDoorSqAT
import Derived.Test.YtkamfnmbidnhdaaDoorSqAU
import Derived.Test.YtkamfnmbidnhdaaDoorSqAL
import Derived.Test.YtkamfnmbidnhdaaDoorSqAC
import Derived.Test.YtkamfnmbidnhdaaDoorSqAE
import Derived.Test.YtkamfnmbidnhdaaDoorChecked
import Derived.KernelRfl
import Derived.Test.YtkamfnmbidnhdaaDoorSqAF
import Derived.Test.YtkamfnmbidnhdaaDoorRows
import Derived.Test.YtkamfnmbidnhdaaDoorCards
import Derived.Test.YtkamfnmbidnhdaaDoorTie
import Derived.WalkKit
import Derived.ProofKit
import Derived.LaidMore
import Derived.OpenShut
import Derived.ShutString
import Derived.ChangeOld
import Derived.Below
import Derived.ChangeVars
import Derived.Stop.LaidErr
import Derived.SevenTiedAt
import Derived.Test.YtkamfnmbidnhdaaDoorSqAJ
set_option linter.unusedVariables false
set_option linter.unusedSimpArgs false
set_option linter.unusedSectionVars false
namespace Go.Proofs.YtkamfnmbidnhdaaDoor
open Go.Sy
set_option maxRecDepth 100000
set_option maxHeartbeats 8000000
set_option linter.unusedVariables false
set_option linter.unusedSimpArgs false
theorem same_plain {C : List Nat} {n : Nat} {v v' : V} (h : v.k ≠ 4 ∨ v'.k ≠ 4) : alike C v (shV n v') = vEq v v' := by
  have hk : (shV n v').k = v'.k := by unfold shV; split <;> rfl
  have hne : v.k ≠ v'.k → vEq v v' = false := fun e => by
    cases hv : vEq v v' with
    | false => rfl
    | true => rw [vEq_iff.1 hv] at e; exact absurd rfl e
  unfold alike
  rw [hk]
  by_cases e : v.k = v'.k
  · have h4 : v.k ≠ 4 := by omega
    have h4' : v'.k ≠ 4 := by omega
    rw [if_pos e, if_neg h4]
    have : shV n v' = v' := if_neg h4'
    rw [this]
  · rw [if_neg e, hne e]
theorem implSame (v v' : V) (a b : List (List Pr)) (A B : Option Addr) (n c m d : Nat) (h : Hp) (hPa : Tabs h A n a) (hPb : Tabs h B m b) (hr : RngG v a) (hr' : RngG v' b) (ht10 : Tab10 h) :
    TriS Tryd.prog 35 [.ag (gsv v A n c), .ag (gsv v' B m d)] [] h (fun y : Bool => .v (.bool y)) (fun _ => []) (fun y h' => y = sameB v v' a b ∧ Le h h') := by
  have hna := hPa.len
  have hnb := hPb.len
  subst hna
  subst hnb
  refine enterS Tryd.func35 rfl (n := 95) rfl rfl (fun k N => ?_)
  have hk1 := implOk v a A a.length c h hPa
  have hk2 := fun (u : Hp) (hu : Tabs u B b.length b) => implOk v' b B b.length d u hu
  by_cases hg : GOk v a
  · simp only [decide_eq_true hg] at hk1
    by_cases hg' : GOk v' b
    · simp only [decide_eq_true hg'] at hk2
      have hsb0 : sameB v v' a b = alike (cls ((both a b).map srt)) v (shV a.length v') := if_pos ⟨hg, hg'⟩
      by_cases h4 : v.k = 4
      · by_cases h4' : v'.k = 4
        · obtain ⟨hCl, hcl⟩ := clsB_len hg hg' hr hr'
          obtain ⟨hB, hR⟩ := gok_rows hg'
          have hva := (gok_in hg).2.1 h4
          have hvb := (gok_in hg').2.1 h4'
          have hb := hg'.1
          have ha := hg.1
          have hbl := both_len a b
          obtain ⟨hs1', hl1, hrd, hrows⟩ := hPa
          have hcl75 := fun (u : Hp) (hu : Rd Hd.v 1 u A a.length hs1') => clone75 hs1' A a.length c u hu (by omega)
          simp only [hl1] at hcl75
          repeat' (first | (refine r_pure hT rfl rfl rfl rfl ?_) | (refine r_new hT rfl rfl rfl rfl ?_) | (refine r_write hT rfl rfl rfl ?_) | (refine r_nil ?_) | (refine q_nil ?_) | ((refine r_call hk1 rfl rfl rfl rfl rfl (hC _ rfl) rfl rfl (fun y1 u1 hy1 => ?_) ; obtain ⟨hy1, hle1⟩ := hy1 ; subst hy1)) | ((refine r_call (hk2 u1 (hPb.le hle1)) rfl rfl rfl rfl rfl (hC _ rfl) rfl rfl (fun y2 u2 hy2 => ?_) ; obtain ⟨hy2, hle2⟩ := hy2 ; subst hy2)) | (refine q_guard rfl rfl (fun hx => absurd h4 hx) (fun _ => ?_)) | (refine c_no rfl (fun h => h h4') ?_) | (refine r_call (hcl75 u2 (hrd.le (hle1.trans hle2))) rfl rfl rfl rfl rfl (hC _ rfl) rfl rfl (fun y u hy => ?_)) | (refine r_arith rfl rfl rfl rfl rfl rfl rfl (by omega) ?_) | (with_reducible refine r_seq ?_) | (with_reducible refine x_then ?_) | (with_reducible refine r_region ?_) | (refine r_draw hM (by kernel_rfl) ?_) | (with_reducible refine r_skip ?_) | (with_reducible refine r_ret ?_) | (with_reducible refine x_then_ret ?_) | (with_reducible refine r_block ?_) | (with_reducible refine x_block ?_) | (with_reducible refine x_block_ret ?_) | (with_reducible refine r_exit ?_) | (with_reducible refine x_then_exit ?_) | (with_reducible refine x_block_here ?_) | (refine x_block_past rfl ?_) | (refine c_yes rfl (by omega) ?_) | (refine c_no rfl (by omega) ?_) | (refine c_no rfl (fun h => h rfl) ?_) | (refine r_cond_false rfl ?_) | (refine r_cond_true rfl ?_) | (refine r_cond_dec rfl (fun _ => ?_) (fun _ => ?_)) | (refine r_cond_true rfl ?_) | (refine r_cond_false rfl ?_) | (refine c_not rfl (fun _ => ?_) (fun _ => ?_)) | (refine r_off rfl rfl rfl ?_))
          have hl12 := hle1.trans hle2
          obtain ⟨hyO, hyL, hyF⟩ := hy
          have hG1 : Gr h u u2 y.1 y.2 hs1' a := ⟨hl12, hyL, hyF, hyO, hl1, fun i x t hx ht => ⟨(hrows i x t hx ht).1, (hrows i x t hx ht).2.le hl12⟩⟩
          refine r_loop (γ := (Nat × Hp) × ((Option Addr × Nat) × (List (List Pr) × (List Hd × Hp)))) (fun g => g.1.1 ≤ b.length ∧ g.2.2.1 = a ++ (b.take g.1.1).map (fun t => t.map (shP a.length)) ∧ Gr h g.1.2 g.2.2.2.2 g.2.1.1 g.2.1.2 g.2.2.2.1 g.2.2.1)
            (fun g => [(2, .p 2 0), (3, .p 3 0), (39, .v (.slice B b.length d)), (40, .v (.int .i64 (b.length : Int))), (5, .v (.slice g.2.1.1 g.2.2.1.length g.2.1.2)), (41, .v (.int .i64 (g.1.1 : Int)))]) (fun _ => [(3, ⟨none, gsv v' B b.length d, 51⟩), (2, ⟨none, gsv v A a.length c, 51⟩)]) (fun g => g.1.2) (fun g => b.length - g.1.1)
            ((0, u), ((y.1, y.2), (a, (hs1', u2)))) ⟨Nat.zero_le _, by simp, hG1⟩ (into rfl ⟨rfl, rfl, rfl, rfl, rfl, rfl, trivial⟩ ⟨rfl, rfl, trivial⟩ rfl rfl) ?_
          rintro ⟨⟨j, w⟩, ⟨⟨A2, c2⟩, ⟨L2, ⟨hs2, q2⟩⟩⟩⟩ ⟨hj, hL2, hG2⟩
          dsimp only at *
          have hL2l : L2.length ≤ 2000 := by rw [hL2]; simp; omega
          by_cases hlt2 : j < b.length
          · obtain ⟨b4, off4, A4, n4, c4, t, rfl, _, hix4, hm4, hat4, hc4, hp4⟩ := (hPb.le (hG2.hq.trans hG2.qu)).elem hlt2
            obtain rfl := hp4.1
            have htl := hB t hm4
            repeat' (first | (refine r_pure hT rfl rfl rfl rfl ?_) | (refine r_new hT rfl rfl rfl rfl ?_) | (refine r_write hT rfl rfl rfl ?_) | (refine r_nil ?_) | (refine q_nil ?_) | (refine r_indexN hT rfl rfl rfl rfl rfl rfl rfl rfl rfl hlt2 ?_) | (refine r_load hT hat4 rfl rfl rfl rfl rfl (Nat.add_zero _).symm rfl rfl rfl rfl rfl ?_) | (refine r_arith rfl rfl rfl rfl rfl rfl rfl (by omega) ?_) | (with_reducible refine r_seq ?_) | (with_reducible refine x_then ?_) | (with_reducible refine r_region ?_) | (refine r_draw hM (by kernel_rfl) ?_) | (with_reducible refine r_skip ?_) | (with_reducible refine r_ret ?_) | (with_reducible refine x_then_ret ?_) | (with_reducible refine r_block ?_) | (with_reducible refine x_block ?_) | (with_reducible refine x_block_ret ?_) | (with_reducible refine r_exit ?_) | (with_reducible refine x_then_exit ?_) | (with_reducible refine x_block_here ?_) | (refine x_block_past rfl ?_) | (refine c_yes rfl (by omega) ?_) | (refine c_no rfl (by omega) ?_) | (refine c_no rfl (fun h => h rfl) ?_) | (refine r_cond_false rfl ?_) | (refine r_cond_true rfl ?_) | (refine r_cond_dec rfl (fun _ => ?_) (fun _ => ?_)) | (refine r_cond_true rfl ?_) | (refine r_cond_false rfl ?_) | (refine c_not rfl (fun _ => ?_) (fun _ => ?_)) | (refine r_off rfl rfl rfl ?_) | (refine q_guard rfl rfl (fun _ => ?_) (fun _ => ?_)) | (refine q_guardn rfl rfl (fun _ => ?_) (fun _ => ?_)))
            refine r_loop (γ := (Nat × Hp) × (Option Addr × Nat)) (fun g => g.1.1 ≤ t.length ∧ Le w g.1.2 ∧ Off w g.2.1 ∧ Own g.1.2 g.2.1 g.1.1 g.2.2 61 8 (((t.take g.1.1).map (shP a.length)).flatMap Pr.c))
              (fun g => [(2, .p 2 0), (3, .p 3 0), (39, .v (.slice (some ⟨b4, off4, none⟩) b.length d)), (40, .v (.int .i64 (b.length : Int))), (5, .v (.slice A2 L2.length c2)), (41, .v (.int .i64 (j : Int))), (46, .v (.slice A4 t.length c4)), (47, .v (.int .i64 (t.length : Int))), (48, .v (.int .i64 (g.1.1 : Int))), (8, .v (.slice g.2.1 g.1.1 g.2.2))]) (fun _ => [(3, ⟨none, gsv v' (some ⟨b4, off4, none⟩) b.length d, 51⟩), (2, ⟨none, gsv v A a.length c, 51⟩)]) (fun g => g.1.2) (fun g => t.length - g.1.1)
              ((0, w), (none, 0)) ⟨Nat.zero_le _, Le.refl w, off_nil, own_nil⟩ (into rfl ⟨rfl, rfl, rfl, rfl, rfl, rfl, rfl, rfl, rfl, rfl, trivial⟩ ⟨rfl, rfl, trivial⟩ rfl rfl) ?_
            rintro ⟨⟨k3, u5⟩, ⟨A5, c5⟩⟩ ⟨hk3, hw5, hof5, hO5⟩
            dsimp only at *
            by_cases hltk : k3 < t.length
            · obtain ⟨b7, off7, p, rfl, _, hixp, hmp, hatp⟩ := (hp4.le hw5).elem Pr.c_len hltk
              have hpf := hR t hm4 p hmp
              have fin : ∀ u6 (A6 : Option Addr) c6 b3 o, u5 b3 = none → Grown (upd u5 b3 o) u6 A5 A6 → Own u6 A6 (k3 + 1) c6 61 8 (((t.take k3).map (shP a.length)).flatMap Pr.c ++ [shP a.length p].flatMap Pr.c) → Le w u6 ∧ Off w A6 ∧ Own u6 A6 (k3 + 1) c6 61 8 (((t.take (k3 + 1)).map (shP a.length)).flatMap Pr.c) := fun u6 A6 c6 b3 o hb3 hG6 hO6 => by
                have hk := hG6 w (hw5.trans (le_frsh (Le.refl u5) hb3)) hof5
                refine ⟨hk.1, hk.2, own_eq hO6 ?_⟩
                rw [take_snoc hixp]; simp
              by_cases h4 : p.val.k = 4
              · have hva := hpf h4
                rw [shP_yes h4] at fin
                repeat' (first | (refine r_pure hT rfl rfl rfl rfl ?_) | (refine r_new hT rfl rfl rfl rfl ?_) | (refine r_write hT rfl rfl rfl ?_) | (refine r_nil ?_) | (refine q_nil ?_) | (refine r_indexN hT rfl rfl rfl rfl rfl rfl rfl rfl rfl hltk ?_) | (refine r_load hT hatp rfl rfl rfl rfl rfl (Nat.add_zero _).symm rfl rfl rfl rfl rfl ?_) | (refine c_yes rfl h4 ?_) | (refine r_bslice (t := 57) hT (ps := [(0, .tmp 66)]) rfl rfl rfl rfl rfl rfl rfl (by simp) rfl rfl (by decide) (fun b3 hb3 => ?_)) | (refine r_append (t := 57) hT (cs := ((t.take k3).map (shP a.length)).flatMap Pr.c) (news := [(⟨p.key, ⟨p.val.k, p.val.n, p.val.s, p.val.a + (a.length : Int)⟩⟩ : Pr)].flatMap Pr.c) rfl rfl rfl rfl rfl rfl rfl rfl rfl rfl rfl (own_fr hO5 hb3) (sl_blk (upd_here ..) rfl) (Pr.one _) (by dsimp only; omega) (by omega) (fun A6 c6 u6 hO6 hG6 => ?_)) | (refine r_arith rfl rfl rfl rfl rfl rfl rfl (by omega) ?_) | (with_reducible refine r_seq ?_) | (with_reducible refine x_then ?_) | (with_reducible refine r_region ?_) | (refine r_draw hM (by kernel_rfl) ?_) | (with_reducible refine r_skip ?_) | (with_reducible refine r_ret ?_) | (with_reducible refine x_then_ret ?_) | (with_reducible refine r_block ?_) | (with_reducible refine x_block ?_) | (with_reducible refine x_block_ret ?_) | (with_reducible refine r_exit ?_) | (with_reducible refine x_then_exit ?_) | (with_reducible refine x_block_here ?_) | (refine x_block_past rfl ?_) | (refine c_yes rfl (by omega) ?_) | (refine c_no rfl (by omega) ?_) | (refine c_no rfl (fun h => h rfl) ?_) | (refine r_cond_false rfl ?_) | (refine r_cond_true rfl ?_) | (refine r_cond_dec rfl (fun _ => ?_) (fun _ => ?_)) | (refine r_cond_true rfl ?_) | (refine r_cond_false rfl ?_) | (refine c_not rfl (fun _ => ?_) (fun _ => ?_)) | (refine r_off rfl rfl rfl ?_) | (refine q_guard rfl rfl (fun _ => ?_) (fun _ => ?_)) | (refine q_guardn rfl rfl (fun _ => ?_) (fun _ => ?_)))
                obtain ⟨f1, f2, f3⟩ := fin u6 A6 c6 b3 _ hb3 hG6 hO6
                exact x_round ((k3 + 1, u6), (A6, c6)) ⟨hltk, f1, f2, f3⟩ (by dsimp only; omega) (into rfl ⟨rfl, rfl, rfl, rfl, rfl, rfl, rfl, rfl, rfl, rfl, trivial⟩ ⟨rfl, rfl, trivial⟩ rfl rfl)
              · rw [shP_no h4] at fin
                repeat' (first | (refine r_pure hT rfl rfl rfl rfl ?_) | (refine r_new hT rfl rfl rfl rfl ?_) | (refine r_write hT rfl rfl rfl ?_) | (refine r_nil ?_) | (refine q_nil ?_) | (refine r_indexN hT rfl rfl rfl rfl rfl rfl rfl rfl rfl hltk ?_) | (refine r_load hT hatp rfl rfl rfl rfl rfl (Nat.add_zero _).symm rfl rfl rfl rfl rfl ?_) | (refine c_no rfl h4 ?_) | (refine r_bslice (t := 57) hT (ps := [(0, .tmp 66)]) rfl rfl rfl rfl rfl rfl rfl (by simp) rfl rfl (by decide) (fun b3 hb3 => ?_)) | (refine r_append (t := 57) hT (cs := ((t.take k3).map (shP a.length)).flatMap Pr.c) (news := [p].flatMap Pr.c) rfl rfl rfl rfl rfl rfl rfl rfl rfl rfl rfl (own_fr hO5 hb3) (sl_blk (upd_here ..) rfl) (Pr.one _) (by dsimp only; omega) (by omega) (fun A6 c6 u6 hO6 hG6 => ?_)) | (refine r_arith rfl rfl rfl rfl rfl rfl rfl (by omega) ?_) | (with_reducible refine r_seq ?_) | (with_reducible refine x_then ?_) | (with_reducible refine r_region ?_) | (refine r_draw hM (by kernel_rfl) ?_) | (with_reducible refine r_skip ?_) | (with_reducible refine r_ret ?_) | (with_reducible refine x_then_ret ?_) | (with_reducible refine r_block ?_) | (with_reducible refine x_block ?_) | (with_reducible refine x_block_ret ?_) | (with_reducible refine r_exit ?_) | (with_reducible refine x_then_exit ?_) | (with_reducible refine x_block_here ?_) | (refine x_block_past rfl ?_) | (refine c_yes rfl (by omega) ?_) | (refine c_no rfl (by omega) ?_) | (refine c_no rfl (fun h => h rfl) ?_) | (refine r_cond_false rfl ?_) | (refine r_cond_true rfl ?_) | (refine r_cond_dec rfl (fun _ => ?_) (fun _ => ?_)) | (refine r_cond_true rfl ?_) | (refine r_cond_false rfl ?_) | (refine c_not rfl (fun _ => ?_) (fun _ => ?_)) | (refine r_off rfl rfl rfl ?_) | (refine q_guard rfl rfl (fun _ => ?_) (fun _ => ?_)) | (refine q_guardn rfl rfl (fun _ => ?_) (fun _ => ?_)))
                obtain ⟨f1, f2, f3⟩ := fin u6 A6 c6 b3 _ hb3 hG6 hO6
                exact x_round ((k3 + 1, u6), (A6, c6)) ⟨hltk, f1, f2, f3⟩ (by dsimp only; omega) (into rfl ⟨rfl, rfl, rfl, rfl, rfl, rfl, rfl, rfl, rfl, rfl, trivial⟩ ⟨rfl, rfl, trivial⟩ rfl rfl)
            · obtain rfl : k3 = t.length := by omega
              rw [List.take_length] at hO5
              repeat' (first | (refine r_pure hT rfl rfl rfl rfl ?_) | (refine r_new hT rfl rfl rfl rfl ?_) | (refine r_write hT rfl rfl rfl ?_) | (refine r_nil ?_) | (refine q_nil ?_) | (refine r_build hT rfl rfl rfl (ps := [(0, .tmp 71)]) rfl rfl rfl rfl rfl rfl ?_) | (refine r_bslice (t := 49) hT (ps := [(0, .tmp 72)]) rfl rfl rfl rfl rfl rfl rfl (by simp) rfl rfl (by decide) (fun b3 hb3 => ?_)) | (refine r_append (t := 49) hT (cs := hs2.flatMap Hd.v) (news := [(⟨A5, t.length, c5⟩ : Hd)].flatMap Hd.v) rfl rfl rfl rfl rfl rfl rfl rfl rfl rfl rfl (own_fr (hG2.own.le fun b o _ => hw5 b o) hb3) (sl_blk (upd_here ..) rfl) (heads_one _) (by dsimp only; omega) (by omega) (fun A6 c6 u6 hO6 hG6 => ?_)) | (refine r_arith rfl rfl rfl rfl rfl rfl rfl (by omega) ?_) | (with_reducible refine r_seq ?_) | (with_reducible refine x_then ?_) | (with_reducible refine r_region ?_) | (refine r_draw hM (by kernel_rfl) ?_) | (with_reducible refine r_skip ?_) | (with_reducible refine r_ret ?_) | (with_reducible refine x_then_ret ?_) | (with_reducible refine r_block ?_) | (with_reducible refine x_block ?_) | (with_reducible refine x_block_ret ?_) | (with_reducible refine r_exit ?_) | (with_reducible refine x_then_exit ?_) | (with_reducible refine x_block_here ?_) | (refine x_block_past rfl ?_) | (refine c_yes rfl (by omega) ?_) | (refine c_no rfl (by omega) ?_) | (refine c_no rfl (fun h => h rfl) ?_) | (refine r_cond_false rfl ?_) | (refine r_cond_true rfl ?_) | (refine r_cond_dec rfl (fun _ => ?_) (fun _ => ?_)) | (refine r_cond_true rfl ?_) | (refine r_cond_false rfl ?_) | (refine c_not rfl (fun _ => ?_) (fun _ => ?_)) | (refine r_off rfl rfl rfl ?_) | (refine q_guard rfl rfl (fun _ => ?_) (fun _ => ?_)) | (refine q_guardn rfl rfl (fun _ => ?_) (fun _ => ?_)))
              have hG7 := hG2.push (t := t.map (shP a.length)) hw5 (le_frsh (Le.refl u5) hb3) (y := ⟨A5, t.length, c5⟩) hO5 hof5 hO6 hG6
              have hL3 : L2 ++ [t.map (shP a.length)] = a ++ (b.take (j + 1)).map (fun t => t.map (shP a.length)) := by rw [hL2, take_snoc hix4]; simp
              exact x_round ((j + 1, u6), ((A6, c6), (L2 ++ [t.map (shP a.length)], (_, _)))) ⟨hlt2, hL3, hG7⟩ (by dsimp only; omega) (into rfl ⟨rfl, rfl, rfl, rfl, congrArg (fun z => some (SV.v (.slice A6 z c6))) (by simp), rfl, trivial⟩ ⟨rfl, rfl, trivial⟩ rfl rfl)
          · obtain rfl : j = b.length := by omega
            rw [List.take_length] at hL2
            have hbo : L2 = both a b := hL2
            subst hbo
            have htw : Tab10 w := ht10.le (hG2.hq.trans hG2.qu)
            have hc76 := classes76 (both a b) A2 (both a b).length c2 w hG2.tabs hCl htw
            repeat' (first | (refine r_pure hT rfl rfl rfl rfl ?_) | (refine r_new hT rfl rfl rfl rfl ?_) | (refine r_write hT rfl rfl rfl ?_) | (refine r_nil ?_) | (refine q_nil ?_) | (refine r_call hc76 rfl rfl rfl rfl rfl (hC _ rfl) rfl rfl (fun y3 u3 hy3 => ?_)) | (refine r_arith rfl rfl rfl rfl rfl rfl rfl (by omega) ?_) | (with_reducible refine r_seq ?_) | (with_reducible refine x_then ?_) | (with_reducible refine r_region ?_) | (with_reducible refine r_skip ?_) | (with_reducible refine r_ret ?_) | (with_reducible refine x_then_ret ?_) | (with_reducible refine r_block ?_) | (with_reducible refine x_block ?_) | (with_reducible refine x_block_ret ?_) | (with_reducible refine r_exit ?_) | (with_reducible refine x_then_exit ?_) | (with_reducible refine x_block_here ?_) | (refine x_block_past rfl ?_) | (refine c_yes rfl (by omega) ?_) | (refine c_no rfl (by omega) ?_) | (refine c_no rfl (fun h => h rfl) ?_) | (refine r_cond_false rfl ?_) | (refine r_cond_true rfl ?_) | (refine r_cond_dec rfl (fun _ => ?_) (fun _ => ?_)) | (refine r_cond_true rfl ?_) | (refine r_cond_false rfl ?_) | (refine c_not rfl (fun _ => ?_) (fun _ => ?_)) | (refine r_off rfl rfl rfl ?_) | (refine q_guard rfl rfl (fun _ => ?_) (fun _ => ?_)) | (refine q_guardn rfl rfl (fun _ => ?_) (fun _ => ?_)))
            obtain ⟨g1, g2, g3⟩ := hy3
            have hPc : Ints u3 y3.1 (both a b).length (cI (cls ((both a b).map srt))) := ⟨by rw [cI_len, hcl, hbl], g1.sl⟩
            obtain ⟨b8, off8, p8, e8, _, hix8, _, hat8⟩ := hPc.elem Ic_len (i := v.a.toNat) (by rw [cI_len, hcl]; omega)
            obtain ⟨b9, off9, p9, e9, _, hix9, _, hat9⟩ := hPc.elem Ic_len (i := (v'.a + (a.length : Int)).toNat) (by rw [cI_len, hcl]; omega)
            obtain rfl := cI_get hix8
            obtain rfl := cI_get hix9
            obtain ⟨yA, yc⟩ := y3
            dsimp only at *
            subst e8
            have e10 := Option.some.inj e9
            simp only [Addr.mk.injEq] at e10
            obtain ⟨rfl, rfl, _⟩ := e10
            repeat' (first | (refine r_pure hT rfl rfl rfl rfl ?_) | (refine r_new hT rfl rfl rfl rfl ?_) | (refine r_write hT rfl rfl rfl ?_) | (refine r_nil ?_) | (refine q_nil ?_) | (refine r_index hT rfl rfl rfl rfl rfl rfl rfl rfl rfl hva.1 (by rw [hbl]; omega) ?_) | (refine r_index hT rfl rfl rfl rfl rfl rfl rfl rfl rfl (by omega) (by rw [hbl]; omega) ?_) | (refine r_load hT hat8 rfl rfl rfl rfl rfl (Nat.add_zero _).symm rfl rfl rfl rfl rfl ?_) | (refine r_load hT hat9 rfl rfl rfl rfl rfl (Nat.add_zero _).symm rfl rfl rfl rfl rfl ?_) | (refine r_arith rfl rfl rfl rfl rfl rfl rfl (by omega) ?_) | (with_reducible refine r_seq ?_) | (with_reducible refine x_then ?_) | (with_reducible refine r_region ?_) | (refine r_draw hM (by kernel_rfl) ?_) | (with_reducible refine r_skip ?_) | (with_reducible refine r_ret ?_) | (with_reducible refine x_then_ret ?_) | (with_reducible refine r_block ?_) | (with_reducible refine x_block ?_) | (with_reducible refine x_block_ret ?_) | (with_reducible refine r_exit ?_) | (with_reducible refine x_then_exit ?_) | (with_reducible refine x_block_here ?_) | (refine x_block_past rfl ?_) | (refine c_yes rfl (by omega) ?_) | (refine c_no rfl (by omega) ?_) | (refine c_no rfl (fun h => h rfl) ?_) | (refine r_cond_false rfl ?_) | (refine r_cond_true rfl ?_) | (refine r_cond_dec rfl (fun _ => ?_) (fun _ => ?_)) | (refine r_cond_true rfl ?_) | (refine r_cond_false rfl ?_) | (refine c_not rfl (fun _ => ?_) (fun _ => ?_)) | (refine r_off rfl rfl rfl ?_) | (refine q_guard rfl rfl (fun _ => ?_) (fun _ => ?_)) | (refine q_guardn rfl rfl (fun _ => ?_) (fun _ => ?_)))
            refine r_fin hT rfl _ rfl rfl rfl trivial rfl ⟨?_, (hG2.hq.trans hG2.qu).trans g2⟩
            rw [hsb0]
            have hsh : shV a.length v' = ⟨v'.k, v'.n, v'.s, v'.a + (a.length : Int)⟩ := if_pos h4'
            rw [hsh]
            unfold alike
            rw [if_pos (by rw [h4]; exact h4'.symm), if_pos h4, decide_eq_decide]
            simp only
            omega
        · have hsb : sameB v v' a b = vEq v v' := hsb0.trans (same_plain (.inr h4'))
          repeat' (first | (refine r_pure hT rfl rfl rfl rfl ?_) | (refine r_new hT rfl rfl rfl rfl ?_) | (refine r_write hT rfl rfl rfl ?_) | (refine r_nil ?_) | (refine q_nil ?_) | ((refine r_call hk1 rfl rfl rfl rfl rfl (hC _ rfl) rfl rfl (fun y1 u1 hy1 => ?_) ; obtain ⟨hy1, hle1⟩ := hy1 ; subst hy1)) | ((refine r_call (hk2 u1 (hPb.le hle1)) rfl rfl rfl rfl rfl (hC _ rfl) rfl rfl (fun y2 u2 hy2 => ?_) ; obtain ⟨hy2, hle2⟩ := hy2 ; subst hy2)) | (refine q_guard rfl rfl (fun hx => absurd h4 hx) (fun _ => ?_)) | (refine c_yes rfl h4' ?_) | (refine r_eqs (fun z => eq29f z _ _ _ _ v') (by kernel_rfl) (.inl rfl) rfl rfl rfl rfl rfl rfl rfl rfl ?_) | (refine r_arith rfl rfl rfl rfl rfl rfl rfl (by omega) ?_) | (with_reducible refine r_seq ?_) | (with_reducible refine x_then ?_) | (with_reducible refine r_region ?_) | (refine r_draw hM (by kernel_rfl) ?_) | (with_reducible refine r_skip ?_) | (with_reducible refine r_ret ?_) | (with_reducible refine x_then_ret ?_) | (with_reducible refine r_block ?_) | (with_reducible refine x_block ?_) | (with_reducible refine x_block_ret ?_) | (with_reducible refine r_exit ?_) | (with_reducible refine x_then_exit ?_) | (with_reducible refine x_block_here ?_) | (refine x_block_past rfl ?_) | (refine c_yes rfl (by omega) ?_) | (refine c_no rfl (by omega) ?_) | (refine c_no rfl (fun h => h rfl) ?_) | (refine r_cond_false rfl ?_) | (refine r_cond_true rfl ?_) | (refine r_cond_dec rfl (fun _ => ?_) (fun _ => ?_)) | (refine r_cond_true rfl ?_) | (refine r_cond_false rfl ?_) | (refine c_not rfl (fun _ => ?_) (fun _ => ?_)) | (refine r_off rfl rfl rfl ?_))
          exact r_fin hT rfl _ rfl rfl rfl trivial rfl ⟨by rw [hsb]; exact vEq_dec, hle1.trans hle2⟩
      · have hsb : sameB v v' a b = vEq v v' := hsb0.trans (same_plain (.inl h4))
        repeat' (first | (refine r_pure hT rfl rfl rfl rfl ?_) | (refine r_new hT rfl rfl rfl rfl ?_) | (refine r_write hT rfl rfl rfl ?_) | (refine r_nil ?_) | (refine q_nil ?_) | ((refine r_call hk1 rfl rfl rfl rfl rfl (hC _ rfl) rfl rfl (fun y1 u1 hy1 => ?_) ; obtain ⟨hy1, hle1⟩ := hy1 ; subst hy1)) | ((refine r_call (hk2 u1 (hPb.le hle1)) rfl rfl rfl rfl rfl (hC _ rfl) rfl rfl (fun y2 u2 hy2 => ?_) ; obtain ⟨hy2, hle2⟩ := hy2 ; subst hy2)) | (refine q_guard rfl rfl (fun _ => ?_) (fun hx => absurd h4 hx)) | (refine r_eqs (fun z => eq29f z _ _ _ _ v') (by kernel_rfl) (.inl rfl) rfl rfl rfl rfl rfl rfl rfl rfl ?_) | (refine r_arith rfl rfl rfl rfl rfl rfl rfl (by omega) ?_) | (with_reducible refine r_seq ?_) | (with_reducible refine x_then ?_) | (with_reducible refine r_region ?_) | (refine r_draw hM (by kernel_rfl) ?_) | (with_reducible refine r_skip ?_) | (with_reducible refine r_ret ?_) | (with_reducible refine x_then_ret ?_) | (with_reducible refine r_block ?_) | (with_reducible refine x_block ?_) | (with_reducible refine x_block_ret ?_) | (with_reducible refine r_exit ?_) | (with_reducible refine x_then_exit ?_) | (with_reducible refine x_block_here ?_) | (refine x_block_past rfl ?_) | (refine c_yes rfl (by omega) ?_) | (refine c_no rfl (by omega) ?_) | (refine c_no rfl (fun h => h rfl) ?_) | (refine r_cond_false rfl ?_) | (refine r_cond_true rfl ?_) | (refine r_cond_dec rfl (fun _ => ?_) (fun _ => ?_)) | (refine r_cond_true rfl ?_) | (refine r_cond_false rfl ?_) | (refine c_not rfl (fun _ => ?_) (fun _ => ?_)) | (refine r_off rfl rfl rfl ?_))
        exact r_fin hT rfl _ rfl rfl rfl trivial rfl ⟨by rw [hsb]; exact vEq_dec, hle1.trans hle2⟩
    · simp only [decide_eq_false hg'] at hk2
      have hsb : sameB v v' a b = false := if_neg (fun x => hg' x.2)
      repeat' (first | (refine r_pure hT rfl rfl rfl rfl ?_) | (refine r_new hT rfl rfl rfl rfl ?_) | (refine r_write hT rfl rfl rfl ?_) | (refine r_nil ?_) | (refine q_nil ?_) | ((refine r_call hk1 rfl rfl rfl rfl rfl (hC _ rfl) rfl rfl (fun y1 u1 hy1 => ?_) ; obtain ⟨hy1, hle1⟩ := hy1 ; subst hy1)) | ((refine r_call (hk2 u1 (hPb.le hle1)) rfl rfl rfl rfl rfl (hC _ rfl) rfl rfl (fun y2 u2 hy2 => ?_) ; obtain ⟨hy2, hle2⟩ := hy2 ; subst hy2)) | (refine r_arith rfl rfl rfl rfl rfl rfl rfl (by omega) ?_) | (with_reducible refine r_seq ?_) | (with_reducible refine x_then ?_) | (with_reducible refine r_region ?_) | (refine r_draw hM (by kernel_rfl) ?_) | (with_reducible refine r_skip ?_) | (with_reducible refine r_ret ?_) | (with_reducible refine x_then_ret ?_) | (with_reducible refine r_block ?_) | (with_reducible refine x_block ?_) | (with_reducible refine x_block_ret ?_) | (with_reducible refine r_exit ?_) | (with_reducible refine x_then_exit ?_) | (with_reducible refine x_block_here ?_) | (refine x_block_past rfl ?_) | (refine c_yes rfl (by omega) ?_) | (refine c_no rfl (by omega) ?_) | (refine c_no rfl (fun h => h rfl) ?_) | (refine r_cond_false rfl ?_) | (refine r_cond_true rfl ?_) | (refine r_cond_dec rfl (fun _ => ?_) (fun _ => ?_)) | (refine r_cond_true rfl ?_) | (refine r_cond_false rfl ?_) | (refine c_not rfl (fun _ => ?_) (fun _ => ?_)) | (refine r_off rfl rfl rfl ?_) | (refine q_guard rfl rfl (fun _ => ?_) (fun _ => ?_)) | (refine q_guardn rfl rfl (fun _ => ?_) (fun _ => ?_)))
      exact r_fin hT rfl (false : Bool) rfl rfl rfl trivial rfl ⟨hsb.symm, hle1.trans hle2⟩
  · simp only [decide_eq_false hg] at hk1
    have hsb : sameB v v' a b = false := if_neg (fun x => hg x.1)
    repeat' (first | (refine r_pure hT rfl rfl rfl rfl ?_) | (refine r_new hT rfl rfl rfl rfl ?_) | (refine r_write hT rfl rfl rfl ?_) | (refine r_nil ?_) | (refine q_nil ?_) | ((refine r_call hk1 rfl rfl rfl rfl rfl (hC _ rfl) rfl rfl (fun y1 u1 hy1 => ?_) ; obtain ⟨hy1, hle1⟩ := hy1 ; subst hy1)) | (refine r_arith rfl rfl rfl rfl rfl rfl rfl (by omega) ?_) | (with_reducible refine r_seq ?_) | (with_reducible refine x_then ?_) | (with_reducible refine r_region ?_) | (refine r_draw hM (by kernel_rfl) ?_) | (with_reducible refine r_skip ?_) | (with_reducible refine r_ret ?_) | (with_reducible refine x_then_ret ?_) | (with_reducible refine r_block ?_) | (with_reducible refine x_block ?_) | (with_reducible refine x_block_ret ?_) | (with_reducible refine r_exit ?_) | (with_reducible refine x_then_exit ?_) | (with_reducible refine x_block_here ?_) | (refine x_block_past rfl ?_) | (refine c_yes rfl (by omega) ?_) | (refine c_no rfl (by omega) ?_) | (refine c_no rfl (fun h => h rfl) ?_) | (refine r_cond_false rfl ?_) | (refine r_cond_true rfl ?_) | (refine r_cond_dec rfl (fun _ => ?_) (fun _ => ?_)) | (refine r_cond_true rfl ?_) | (refine r_cond_false rfl ?_) | (refine c_not rfl (fun _ => ?_) (fun _ => ?_)) | (refine r_off rfl rfl rfl ?_) | (refine q_guard rfl rfl (fun _ => ?_) (fun _ => ?_)) | (refine q_guardn rfl rfl (fun _ => ?_) (fun _ => ?_)))
    exact r_fin hT rfl (false : Bool) rfl rfl rfl trivial rfl ⟨hsb.symm, hle1⟩
end Go.Proofs.YtkamfnmbidnhdaaDoor
/- FnShrink: the law's walk. No condition. -/
namespace Go.Proofs.YtkamfnmbidnhdaaDoor
open Go.Sy
set_option maxRecDepth 100000
set_option maxHeartbeats 4000000
set_option linter.unusedVariables false
set_option linter.unusedSimpArgs false
theorem lawFnShrink (bs cs : List Int) (A B : Option Addr) (n c m d : Nat) (h : Hp) (hA : Bys h A n bs) (hB : Bys h B m cs) (hbs : ∀ x ∈ bs, 0 ≤ x ∧ x ≤ 255) (hcs : ∀ x ∈ cs, 0 ≤ x ∧ x ≤ 255) (ht10 : Tab10 h) :
    TriS Tryd.prog 10 [.v (.slice A n c), .v (.slice B m d)] [] h (fun y : Bool => .v (.bool y)) (fun _ => []) (fun y h' => y = true ∧ Le h h') := by
  refine enterS Tryd.func10 rfl (n := 65) rfl rfl (fun k N => ?_)
  by_cases hn : 1048576 < n
  · repeat' (first | (refine r_pure hT rfl rfl rfl rfl ?_) | (refine r_new hT rfl rfl rfl rfl ?_) | (refine r_write hT rfl rfl rfl ?_) | (refine r_nil ?_) | (refine q_nil ?_) | (refine q_guard rfl rfl (fun _ => ?_) (fun hx => absurd (by omega) hx)) | (refine r_arith rfl rfl rfl rfl rfl rfl rfl (by omega) ?_) | (with_reducible refine r_seq ?_) | (with_reducible refine x_then ?_) | (with_reducible refine r_region ?_) | (refine r_draw hM (by kernel_rfl) ?_) | (with_reducible refine r_skip ?_) | (with_reducible refine r_ret ?_) | (with_reducible refine x_then_ret ?_) | (with_reducible refine r_block ?_) | (with_reducible refine x_block ?_) | (with_reducible refine x_block_ret ?_) | (with_reducible refine r_exit ?_) | (with_reducible refine x_then_exit ?_) | (with_reducible refine x_block_here ?_) | (refine x_block_past rfl ?_) | (refine c_yes rfl (by omega) ?_) | (refine c_no rfl (by omega) ?_) | (refine c_no rfl (fun h => h rfl) ?_) | (refine r_cond_false rfl ?_) | (refine r_cond_true rfl ?_) | (refine r_cond_dec rfl (fun _ => ?_) (fun _ => ?_)) | (refine r_cond_true rfl ?_) | (refine r_cond_false rfl ?_) | (refine c_not rfl (fun _ => ?_) (fun _ => ?_)) | (refine r_off rfl rfl rfl ?_))
    exact r_fin hT rfl true rfl rfl rfl trivial rfl ⟨rfl, Le.refl _⟩
  by_cases hm : 1048576 < m
  · repeat' (first | (refine r_pure hT rfl rfl rfl rfl ?_) | (refine r_new hT rfl rfl rfl rfl ?_) | (refine r_write hT rfl rfl rfl ?_) | (refine r_nil ?_) | (refine q_nil ?_) | (refine q_guard rfl rfl (fun hx => absurd hx (by omega)) (fun _ => ?_)) | (refine r_arith rfl rfl rfl rfl rfl rfl rfl (by omega) ?_) | (with_reducible refine r_seq ?_) | (with_reducible refine x_then ?_) | (with_reducible refine r_region ?_) | (refine r_draw hM (by kernel_rfl) ?_) | (with_reducible refine r_skip ?_) | (with_reducible refine r_ret ?_) | (with_reducible refine x_then_ret ?_) | (with_reducible refine r_block ?_) | (with_reducible refine x_block ?_) | (with_reducible refine x_block_ret ?_) | (with_reducible refine r_exit ?_) | (with_reducible refine x_then_exit ?_) | (with_reducible refine x_block_here ?_) | (refine x_block_past rfl ?_) | (refine c_yes rfl (by omega) ?_) | (refine c_no rfl (by omega) ?_) | (refine c_no rfl (fun h => h rfl) ?_) | (refine r_cond_false rfl ?_) | (refine r_cond_true rfl ?_) | (refine r_cond_dec rfl (fun _ => ?_) (fun _ => ?_)) | (refine r_cond_true rfl ?_) | (refine r_cond_false rfl ?_) | (refine c_not rfl (fun _ => ?_) (fun _ => ?_)) | (refine r_off rfl rfl rfl ?_))
    exact r_fin hT rfl true rfl rfl rfl trivial rfl ⟨rfl, Le.refl _⟩
  obtain ⟨hg, hr⟩ := gr_gok bs (0, 0)
  have hd := drawn h A n c bs hA hbs (by omega)
  generalize (grD bs (0, 0)).1.1 = v at *
  generalize (grD bs (0, 0)).1.2 = ts at *
  have hkg := k_gok hg
  have hkr := k_rng hg hr
  have hkl : (kT v ts).length ≤ 1000000 := Nat.le_trans hkg.1 (by decide)
  have hkl2 : ∀ t ∈ kT v ts, t.length ≤ 1000000 := fun t ht => Nat.le_trans (hkg.2.2 t ht).1 (by decide)
  have hsh := fun (A : Option Addr) (n c : Nat) (u : Hp) (hP : Tabs u A n ts) (h10 : Tab10 u) => implShrink v ts A n c u hP hr h10
  have hsp := fun (A : Option Addr) (n c : Nat) (u : Hp) (hP : Tabs u A n ts) => specShrink v ts A n c u hP hr
  have hsm := fun (A B : Option Addr) (n c m d : Nat) (u : Hp) (hP : Tabs u A n ts) (hQ : Tabs u B m (kT v ts)) (h10 : Tab10 u) => implSame v (kV v ts) ts (kT v ts) A B n c m d u hP hQ hr hkr h10
  rw [k_same hg] at hsm
  have hs2 := fun (A : Option Addr) (n c : Nat) (u : Hp) (hP : Tabs u A n (kT v ts)) (h10 : Tab10 u) => implShrink (kV v ts) (kT v ts) A n c u hP hkr h10
  rw [(k_idem hg).1, (k_idem hg).2] at hs2
  have htg := tu_gok cs (0, 0) hg hr
  have htu := tu_shrink cs (0, 0) hg hr
  have hs3 := fun (A : Option Addr) (n c : Nat) (u : Hp) (hP : Tabs u A n (tuD cs v ts (0, 0)).1.2) (h10 : Tab10 u) => implShrink (tuD cs v ts (0, 0)).1.1 (tuD cs v ts (0, 0)).1.2 A n c u hP htg.2 h10
  rw [htu.1, htu.2] at hs3
  have hts := fun (u : Hp) (hB : Bys u B m cs) (A : Option Addr) (cg : Nat) (hP : Tabs u A ts.length ts) => turned u B m d cs hB hcs (by omega) v ts A cg hP hg
  have hwg := fun (A B : Option Addr) (c c' : Nat) (u : Hp) (hP : Tabs u A (kT v ts).length (kT v ts)) (hQ : Tabs u B (kT v ts).length (kT v ts)) => wGraph (kV v ts) (kT v ts) A B _ c _ c' u hP hQ hkl hkl2
  repeat' (first | (refine r_pure hT rfl rfl rfl rfl ?_) | (refine r_new hT rfl rfl rfl rfl ?_) | (refine r_write hT rfl rfl rfl ?_) | (refine r_nil ?_) | (refine q_nil ?_) | (refine q_guard rfl rfl (fun hx => absurd hx (by omega)) (fun _ => ?_)) | (refine r_call hd rfl rfl rfl rfl rfl (hC _ rfl) rfl rfl (fun y1 u1 hy1 => ?_)) | (refine r_arith rfl rfl rfl rfl rfl rfl rfl (by omega) ?_) | (with_reducible refine r_seq ?_) | (with_reducible refine x_then ?_) | (with_reducible refine r_region ?_) | (with_reducible refine r_skip ?_) | (with_reducible refine r_ret ?_) | (with_reducible refine x_then_ret ?_) | (with_reducible refine r_block ?_) | (with_reducible refine x_block ?_) | (with_reducible refine x_block_ret ?_) | (with_reducible refine r_exit ?_) | (with_reducible refine x_then_exit ?_) | (with_reducible refine x_block_here ?_) | (refine x_block_past rfl ?_) | (refine c_yes rfl (by omega) ?_) | (refine c_no rfl (by omega) ?_) | (refine c_no rfl (fun h => h rfl) ?_) | (refine r_cond_false rfl ?_) | (refine r_cond_true rfl ?_) | (refine r_cond_dec rfl (fun _ => ?_) (fun _ => ?_)) | (refine r_cond_true rfl ?_) | (refine r_cond_false rfl ?_) | (refine c_not rfl (fun _ => ?_) (fun _ => ?_)) | (refine r_off rfl rfl rfl ?_))
  obtain ⟨hT1, l1⟩ := hy1
  have h101 := ht10.le l1
  repeat' (first | (refine r_pure hT rfl rfl rfl rfl ?_) | (refine r_new hT rfl rfl rfl rfl ?_) | (refine r_write hT rfl rfl rfl ?_) | (refine r_nil ?_) | (refine q_nil ?_) | (refine r_call (hsh y1.1 ts.length y1.2 u1 hT1 h101) rfl rfl rfl rfl rfl (hC _ rfl) rfl rfl (fun y2 u2 hy2 => ?_)) | (refine r_arith rfl rfl rfl rfl rfl rfl rfl (by omega) ?_) | (with_reducible refine r_seq ?_) | (with_reducible refine x_then ?_) | (with_reducible refine r_region ?_) | (with_reducible refine r_skip ?_) | (with_reducible refine r_ret ?_) | (with_reducible refine x_then_ret ?_) | (with_reducible refine r_block ?_) | (with_reducible refine x_block ?_) | (with_reducible refine x_block_ret ?_) | (with_reducible refine r_exit ?_) | (with_reducible refine x_then_exit ?_) | (with_reducible refine x_block_here ?_) | (refine x_block_past rfl ?_) | (refine c_yes rfl (by omega) ?_) | (refine c_no rfl (by omega) ?_) | (refine c_no rfl (fun h => h rfl) ?_) | (refine r_cond_false rfl ?_) | (refine r_cond_true rfl ?_) | (refine r_cond_dec rfl (fun _ => ?_) (fun _ => ?_)) | (refine r_cond_true rfl ?_) | (refine r_cond_false rfl ?_) | (refine c_not rfl (fun _ => ?_) (fun _ => ?_)) | (refine r_off rfl rfl rfl ?_) | (refine q_guard rfl rfl (fun _ => ?_) (fun _ => ?_)) | (refine q_guardn rfl rfl (fun _ => ?_) (fun _ => ?_)))
  obtain ⟨hO2, l2, _⟩ := hy2
  have hT12 := hT1.le l2
  have h102 := h101.le l2
  repeat' (first | (refine r_pure hT rfl rfl rfl rfl ?_) | (refine r_new hT rfl rfl rfl rfl ?_) | (refine r_write hT rfl rfl rfl ?_) | (refine r_nil ?_) | (refine q_nil ?_) | (refine r_many (id := 5) [0, 1] [] u2 (Le.refl u2) hM (by kernel_rfl) rfl (by kernel_rfl) rfl rfl rfl (fun β0 => ?_)) | (refine r_call (hsp y1.1 ts.length y1.2 u2 hT12) rfl rfl rfl rfl rfl (hC _ rfl) rfl rfl (fun y3 u3 hy3 => ?_)) | (refine r_arith rfl rfl rfl rfl rfl rfl rfl (by omega) ?_) | (with_reducible refine r_seq ?_) | (with_reducible refine x_then ?_) | (with_reducible refine r_region ?_) | (with_reducible refine r_skip ?_) | (with_reducible refine r_ret ?_) | (with_reducible refine x_then_ret ?_) | (with_reducible refine r_block ?_) | (with_reducible refine x_block ?_) | (with_reducible refine x_block_ret ?_) | (with_reducible refine r_exit ?_) | (with_reducible refine x_then_exit ?_) | (with_reducible refine x_block_here ?_) | (refine x_block_past rfl ?_) | (refine c_yes rfl (by omega) ?_) | (refine c_no rfl (by omega) ?_) | (refine c_no rfl (fun h => h rfl) ?_) | (refine r_cond_false rfl ?_) | (refine r_cond_true rfl ?_) | (refine r_cond_dec rfl (fun _ => ?_) (fun _ => ?_)) | (refine r_cond_true rfl ?_) | (refine r_cond_false rfl ?_) | (refine c_not rfl (fun _ => ?_) (fun _ => ?_)) | (refine r_off rfl rfl rfl ?_) | (refine q_guard rfl rfl (fun _ => ?_) (fun _ => ?_)) | (refine q_guardn rfl rfl (fun _ => ?_) (fun _ => ?_)) | (refine s_nil ?_) | (with_reducible refine a_full ?_) | (refine m_step rfl rfl (List.cons_ne_nil _ _) ?_) | (refine allR_cons rfl ?_ ?_) | (exact allR_nil) | (refine m_end rfl rfl rfl ?_))
  obtain ⟨hT3, l3⟩ := hy3
  have hT23 := hO2.tabs.le l3
  have h103 := h102.le l3
  have hT13 := hT12.le l3
  repeat' (first | (refine r_pure hT rfl rfl rfl rfl ?_) | (refine r_new hT rfl rfl rfl rfl ?_) | (refine r_write hT rfl rfl rfl ?_) | (refine r_nil ?_) | (refine q_nil ?_) | (refine m_keep l3 ⟨rfl, rfl, trivial⟩ rfl rfl ?_) | (refine p_call (hwg y2.1.1 y3.1 y2.1.2 y3.2 u3 hT23 hT3) rfl rfl rfl rfl rfl (hC _ rfl) rfl rfl rfl ?_) | (refine m_stillD (fuel := 19) [6, 7] (by kernel_rfl) rfl (by kernel_rfl) rfl l3 rfl ?_) | (refine r_call (hsm y1.1 y2.1.1 ts.length y1.2 (kT v ts).length y2.1.2 u3 hT13 hT23 h103) rfl rfl rfl rfl rfl (hC _ rfl) rfl rfl (fun y4 u4 hy4 => ?_)) | (refine r_arith rfl rfl rfl rfl rfl rfl rfl (by omega) ?_) | (with_reducible refine r_seq ?_) | (with_reducible refine x_then ?_) | (with_reducible refine r_region ?_) | (with_reducible refine r_skip ?_) | (with_reducible refine r_ret ?_) | (with_reducible refine x_then_ret ?_) | (with_reducible refine r_block ?_) | (with_reducible refine x_block ?_) | (with_reducible refine x_block_ret ?_) | (with_reducible refine r_exit ?_) | (with_reducible refine x_then_exit ?_) | (with_reducible refine x_block_here ?_) | (refine x_block_past rfl ?_) | (refine c_yes rfl (by omega) ?_) | (refine c_no rfl (by omega) ?_) | (refine c_no rfl (fun h => h rfl) ?_) | (refine r_cond_false rfl ?_) | (refine r_cond_true rfl ?_) | (refine r_cond_dec rfl (fun _ => ?_) (fun _ => ?_)) | (refine r_cond_true rfl ?_) | (refine r_cond_false rfl ?_) | (refine c_not rfl (fun _ => ?_) (fun _ => ?_)) | (refine r_off rfl rfl rfl ?_) | (refine s_nil ?_) | (with_reducible refine a_full ?_) | (refine m_step rfl rfl (List.cons_ne_nil _ _) ?_) | (refine allR_cons rfl ?_ ?_) | (exact allR_nil) | (refine m_end rfl rfl rfl ?_))
  obtain ⟨hy4, l4⟩ := hy4
  subst hy4
  have l34 := l3.trans l4
  have hT24 := hT23.le l4
  have h104 := h103.le l4
  repeat' (first | (refine r_pure hT rfl rfl rfl rfl ?_) | (refine r_new hT rfl rfl rfl rfl ?_) | (refine r_write hT rfl rfl rfl ?_) | (refine r_nil ?_) | (refine q_nil ?_) | (refine m_keep l34 ⟨rfl, rfl, trivial⟩ rfl rfl ?_) | (refine m_stillD (fuel := 13) [12, 14] (by kernel_rfl) rfl (by kernel_rfl) rfl l34 rfl ?_) | (refine r_call (hs2 y2.1.1 (kT v ts).length y2.1.2 u4 hT24 h104) rfl rfl rfl rfl rfl (hC _ rfl) rfl rfl (fun y5 u5 hy5 => ?_)) | (refine r_arith rfl rfl rfl rfl rfl rfl rfl (by omega) ?_) | (with_reducible refine r_seq ?_) | (with_reducible refine x_then ?_) | (with_reducible refine r_region ?_) | (with_reducible refine r_skip ?_) | (with_reducible refine r_ret ?_) | (with_reducible refine x_then_ret ?_) | (with_reducible refine r_block ?_) | (with_reducible refine x_block ?_) | (with_reducible refine x_block_ret ?_) | (with_reducible refine r_exit ?_) | (with_reducible refine x_then_exit ?_) | (with_reducible refine x_block_here ?_) | (refine x_block_past rfl ?_) | (refine c_yes rfl (by omega) ?_) | (refine c_no rfl (by omega) ?_) | (refine c_no rfl (fun h => h rfl) ?_) | (refine r_cond_false rfl ?_) | (refine r_cond_true rfl ?_) | (refine r_cond_dec rfl (fun _ => ?_) (fun _ => ?_)) | (refine r_cond_true rfl ?_) | (refine r_cond_false rfl ?_) | (refine c_not rfl (fun _ => ?_) (fun _ => ?_)) | (refine r_off rfl rfl rfl ?_) | (refine s_nil ?_) | (with_reducible refine a_full ?_) | (refine m_step rfl rfl (List.cons_ne_nil _ _) ?_) | (refine allR_cons rfl ?_ ?_) | (exact allR_nil) | (refine m_end rfl rfl rfl ?_))
  obtain ⟨hO5, l5, _⟩ := hy5
  have l35 := l34.trans l5
  have hT25 := hT24.le l5
  have hT15 := (hT13.le l4).le l5
  have h105 := h104.le l5
  have hB5 := hB.le ((l1.trans l2).trans l35)
  repeat' (first | (refine r_pure hT rfl rfl rfl rfl ?_) | (refine r_new hT rfl rfl rfl rfl ?_) | (refine r_write hT rfl rfl rfl ?_) | (refine r_nil ?_) | (refine q_nil ?_) | (refine m_keep l35 ⟨rfl, rfl, trivial⟩ rfl rfl ?_) | (refine p_call (hwg y5.1.1 y2.1.1 y5.1.2 y2.1.2 u5 hO5.tabs hT25) rfl rfl rfl rfl rfl (hC _ rfl) rfl rfl rfl ?_) | (refine m_stillD (fuel := 5) [19, 20, 23] (by kernel_rfl) rfl (by kernel_rfl) rfl l35 rfl ?_) | (refine r_call (hts u5 hB5 y1.1 y1.2 hT15) rfl rfl rfl rfl rfl (hC _ rfl) rfl rfl (fun y6 u6 hy6 => ?_)) | (refine r_arith rfl rfl rfl rfl rfl rfl rfl (by omega) ?_) | (with_reducible refine r_seq ?_) | (with_reducible refine x_then ?_) | (with_reducible refine r_region ?_) | (with_reducible refine r_skip ?_) | (with_reducible refine r_ret ?_) | (with_reducible refine x_then_ret ?_) | (with_reducible refine r_block ?_) | (with_reducible refine x_block ?_) | (with_reducible refine x_block_ret ?_) | (with_reducible refine r_exit ?_) | (with_reducible refine x_then_exit ?_) | (with_reducible refine x_block_here ?_) | (refine x_block_past rfl ?_) | (refine c_yes rfl (by omega) ?_) | (refine c_no rfl (by omega) ?_) | (refine c_no rfl (fun h => h rfl) ?_) | (refine r_cond_false rfl ?_) | (refine r_cond_true rfl ?_) | (refine r_cond_dec rfl (fun _ => ?_) (fun _ => ?_)) | (refine r_cond_true rfl ?_) | (refine r_cond_false rfl ?_) | (refine c_not rfl (fun _ => ?_) (fun _ => ?_)) | (refine r_off rfl rfl rfl ?_) | (refine s_nil ?_) | (with_reducible refine a_full ?_) | (refine m_step rfl rfl (List.cons_ne_nil _ _) ?_) | (refine allR_cons rfl ?_ ?_) | (exact allR_nil) | (refine m_end rfl rfl rfl ?_))
  obtain ⟨hO6, l6, _⟩ := hy6
  have l36 := l35.trans l6
  have h106 := h105.le l6
  repeat' (first | (refine r_pure hT rfl rfl rfl rfl ?_) | (refine r_new hT rfl rfl rfl rfl ?_) | (refine r_write hT rfl rfl rfl ?_) | (refine r_nil ?_) | (refine q_nil ?_) | (refine m_keep l36 ⟨rfl, rfl, trivial⟩ rfl rfl ?_) | (refine r_call (hs3 y6.1.1 _ y6.1.2 u6 hO6.tabs h106) rfl rfl rfl rfl rfl (hC _ rfl) rfl rfl (fun y7 u7 hy7 => ?_)) | (refine r_arith rfl rfl rfl rfl rfl rfl rfl (by omega) ?_) | (with_reducible refine r_seq ?_) | (with_reducible refine x_then ?_) | (with_reducible refine r_region ?_) | (with_reducible refine r_skip ?_) | (with_reducible refine r_ret ?_) | (with_reducible refine x_then_ret ?_) | (with_reducible refine r_block ?_) | (with_reducible refine x_block ?_) | (with_reducible refine x_block_ret ?_) | (with_reducible refine r_exit ?_) | (with_reducible refine x_then_exit ?_) | (with_reducible refine x_block_here ?_) | (refine x_block_past rfl ?_) | (refine c_yes rfl (by omega) ?_) | (refine c_no rfl (by omega) ?_) | (refine c_no rfl (fun h => h rfl) ?_) | (refine r_cond_false rfl ?_) | (refine r_cond_true rfl ?_) | (refine r_cond_dec rfl (fun _ => ?_) (fun _ => ?_)) | (refine r_cond_true rfl ?_) | (refine r_cond_false rfl ?_) | (refine c_not rfl (fun _ => ?_) (fun _ => ?_)) | (refine r_off rfl rfl rfl ?_) | (refine s_nil ?_) | (with_reducible refine a_full ?_) | (refine m_step rfl rfl (List.cons_ne_nil _ _) ?_) | (refine allR_cons rfl ?_ ?_) | (exact allR_nil) | (refine m_end rfl rfl rfl ?_))
  obtain ⟨hO7, l7, _⟩ := hy7
  have l37 := l36.trans l7
  have h107 := h106.le l7
  have hT27 := (hT25.le l6).le l7
  have hT17 := (hT15.le l6).le l7
  have ec : clsG (kV v ts) (kT v ts) = cls (sS (kT v ts)) := if_pos hkg
  have eg : clsG v ts = cls (sS ts) := if_pos hg
  have ecl : (clsG (kV v ts) (kT v ts)).length = (kT v ts).length := by rw [ec, cls_len _ (wl_srt hkg).inn, List.length_map]
  have hcg : (clsG v ts).length ≤ 1000000 := by
    rw [eg, cls_len _ (wl_srt hg).inn, List.length_map]; exact Nat.le_trans hg.1 (by decide)
  repeat' (first | (refine r_pure hT rfl rfl rfl rfl ?_) | (refine r_new hT rfl rfl rfl rfl ?_) | (refine r_write hT rfl rfl rfl ?_) | (refine r_nil ?_) | (refine q_nil ?_) | (refine m_keep l37 ⟨rfl, rfl, trivial⟩ rfl rfl ?_) | (refine p_call (hwg y7.1.1 y2.1.1 y7.1.2 y2.1.2 u7 hO7.tabs hT27) rfl rfl rfl rfl rfl (hC _ rfl) rfl rfl rfl ?_) | (refine r_call (implClasses (kV v ts) (kT v ts) y2.1.1 (kT v ts).length y2.1.2 u7 hT27 hkr h107) rfl rfl rfl rfl rfl (hC _ rfl) rfl rfl (fun y8 u8 hy8 => ?_)) | (refine r_arith rfl rfl rfl rfl rfl rfl rfl (by omega) ?_) | (with_reducible refine r_seq ?_) | (with_reducible refine x_then ?_) | (with_reducible refine r_region ?_) | (with_reducible refine r_skip ?_) | (with_reducible refine r_ret ?_) | (with_reducible refine x_then_ret ?_) | (with_reducible refine r_block ?_) | (with_reducible refine x_block ?_) | (with_reducible refine x_block_ret ?_) | (with_reducible refine r_exit ?_) | (with_reducible refine x_then_exit ?_) | (with_reducible refine x_block_here ?_) | (refine x_block_past rfl ?_) | (refine c_yes rfl (by omega) ?_) | (refine c_no rfl (by omega) ?_) | (refine c_no rfl (fun h => h rfl) ?_) | (refine r_cond_false rfl ?_) | (refine r_cond_true rfl ?_) | (refine r_cond_dec rfl (fun _ => ?_) (fun _ => ?_)) | (refine r_cond_true rfl ?_) | (refine r_cond_false rfl ?_) | (refine c_not rfl (fun _ => ?_) (fun _ => ?_)) | (refine r_off rfl rfl rfl ?_) | (refine s_nil ?_) | (with_reducible refine a_full ?_) | (refine m_step rfl rfl (List.cons_ne_nil _ _) ?_) | (refine allR_cons rfl ?_ ?_) | (exact allR_nil) | (refine m_end rfl rfl rfl ?_))
  obtain ⟨hO8, l8, _⟩ := hy8
  have hT18 := hT17.le l8
  have h108 := h107.le l8
  have hI8 : Ints u8 y8.1 (clsG (kV v ts) (kT v ts)).length (cI (clsG (kV v ts) (kT v ts))) := ⟨(cI_len _).symm, hO8.sl⟩
  generalize hcl : clsG (kV v ts) (kT v ts) = C at *
  refine r_loop (γ := Nat) (fun i => i ≤ C.length) (fun i => [(5, .p 5 0), (49, .v (.slice y8.1 C.length y8.2)), (50, .v (.int .i64 (C.length : Int))), (51, .v (.int .i64 (i : Int)))]) (fun _ => [(5, ⟨none, gsv v y1.1 ts.length y1.2, 51⟩)]) (fun _ => u8) (fun i => C.length - i)
    0 (Nat.zero_le _) (into rfl ⟨rfl, rfl, rfl, rfl, trivial⟩ ⟨rfl, trivial⟩ rfl rfl) ?_
  intro i hi
  by_cases hlt : i < C.length
  · obtain ⟨b, off, p, e8, _, hix, _, hat⟩ := hI8.elem Ic_len (i := i) (by rw [cI_len]; exact hlt)
    obtain rfl := cI_get hix
    have hk := k_cls hg i (by rw [← ecl]; exact hlt)
    rw [← ec] at hk
    rw [hk] at hat
    obtain ⟨y8A, y8c⟩ := y8
    dsimp only at *
    subst e8
    repeat' (first | (refine r_pure hT rfl rfl rfl rfl ?_) | (refine r_new hT rfl rfl rfl rfl ?_) | (refine r_write hT rfl rfl rfl ?_) | (refine r_nil ?_) | (refine q_nil ?_) | (refine r_indexN hT rfl rfl rfl rfl rfl rfl rfl rfl rfl hlt ?_) | (refine r_load hT hat rfl rfl rfl rfl rfl (Nat.add_zero _).symm rfl rfl rfl rfl rfl ?_) | (refine r_arith rfl rfl rfl rfl rfl rfl rfl (by omega) ?_) | (with_reducible refine r_seq ?_) | (with_reducible refine x_then ?_) | (with_reducible refine r_region ?_) | (refine r_draw hM (by kernel_rfl) ?_) | (with_reducible refine r_skip ?_) | (with_reducible refine r_ret ?_) | (with_reducible refine x_then_ret ?_) | (with_reducible refine r_block ?_) | (with_reducible refine x_block ?_) | (with_reducible refine x_block_ret ?_) | (with_reducible refine r_exit ?_) | (with_reducible refine x_then_exit ?_) | (with_reducible refine x_block_here ?_) | (refine x_block_past rfl ?_) | (refine c_yes rfl (by omega) ?_) | (refine c_no rfl (by omega) ?_) | (refine c_no rfl (fun h => h rfl) ?_) | (refine r_cond_false rfl ?_) | (refine r_cond_true rfl ?_) | (refine r_cond_dec rfl (fun _ => ?_) (fun _ => ?_)) | (refine r_cond_true rfl ?_) | (refine r_cond_false rfl ?_) | (refine c_not rfl (fun _ => ?_) (fun _ => ?_)) | (refine r_off rfl rfl rfl ?_) | (refine q_guard rfl rfl (fun _ => ?_) (fun _ => ?_)) | (refine q_guardn rfl rfl (fun _ => ?_) (fun _ => ?_)))
    exact x_round (i + 1) hlt (by omega) (into rfl ⟨rfl, rfl, rfl, rfl, trivial⟩ ⟨rfl, trivial⟩ rfl rfl)
  · obtain rfl : i = C.length := by omega
    repeat' (first | (refine r_pure hT rfl rfl rfl rfl ?_) | (refine r_new hT rfl rfl rfl rfl ?_) | (refine r_write hT rfl rfl rfl ?_) | (refine r_nil ?_) | (refine q_nil ?_) | (refine r_many (id := 13) [0, 2] [5] u8 (Le.refl u8) hM (by kernel_rfl) rfl (by kernel_rfl) rfl rfl rfl (fun β0 => ?_)) | (refine r_call (implClasses v ts y1.1 ts.length y1.2 u8 hT18 hr h108) rfl rfl rfl rfl rfl (hC _ rfl) rfl rfl (fun y9 u9 hy9 => ?_)) | (refine r_arith rfl rfl rfl rfl rfl rfl rfl (by omega) ?_) | (with_reducible refine r_seq ?_) | (with_reducible refine x_then ?_) | (with_reducible refine r_region ?_) | (with_reducible refine r_skip ?_) | (with_reducible refine r_ret ?_) | (with_reducible refine x_then_ret ?_) | (with_reducible refine r_block ?_) | (with_reducible refine x_block ?_) | (with_reducible refine x_block_ret ?_) | (with_reducible refine r_exit ?_) | (with_reducible refine x_then_exit ?_) | (with_reducible refine x_block_here ?_) | (refine x_block_past rfl ?_) | (refine c_yes rfl (by omega) ?_) | (refine c_no rfl (by omega) ?_) | (refine c_no rfl (fun h => h rfl) ?_) | (refine r_cond_false rfl ?_) | (refine r_cond_true rfl ?_) | (refine r_cond_dec rfl (fun _ => ?_) (fun _ => ?_)) | (refine r_cond_true rfl ?_) | (refine r_cond_false rfl ?_) | (refine c_not rfl (fun _ => ?_) (fun _ => ?_)) | (refine r_off rfl rfl rfl ?_) | (refine q_guard rfl rfl (fun _ => ?_) (fun _ => ?_)) | (refine q_guardn rfl rfl (fun _ => ?_) (fun _ => ?_)) | (refine s_nil ?_) | (with_reducible refine a_full ?_) | (refine m_step rfl rfl (List.cons_ne_nil _ _) ?_) | (refine allR_cons rfl ?_ ?_) | (exact allR_nil) | (refine m_end rfl rfl rfl ?_))
    obtain ⟨hO9, l9, _⟩ := hy9
    repeat' (first | (refine r_pure hT rfl rfl rfl rfl ?_) | (refine r_new hT rfl rfl rfl rfl ?_) | (refine r_write hT rfl rfl rfl ?_) | (refine r_nil ?_) | (refine q_nil ?_) | (refine m_keep l9 ⟨rfl, trivial⟩ rfl rfl ?_) | (refine r_call (specClasses v ts y1.1 ts.length y1.2 u9 (hT18.le l9) hr) rfl rfl rfl rfl rfl (hC _ rfl) rfl rfl (fun y10 u10 hy10 => ?_)) | (refine r_arith rfl rfl rfl rfl rfl rfl rfl (by omega) ?_) | (with_reducible refine r_seq ?_) | (with_reducible refine x_then ?_) | (with_reducible refine r_region ?_) | (with_reducible refine r_skip ?_) | (with_reducible refine r_ret ?_) | (with_reducible refine x_then_ret ?_) | (with_reducible refine r_block ?_) | (with_reducible refine x_block ?_) | (with_reducible refine x_block_ret ?_) | (with_reducible refine r_exit ?_) | (with_reducible refine x_then_exit ?_) | (with_reducible refine x_block_here ?_) | (refine x_block_past rfl ?_) | (refine c_yes rfl (by omega) ?_) | (refine c_no rfl (by omega) ?_) | (refine c_no rfl (fun h => h rfl) ?_) | (refine r_cond_false rfl ?_) | (refine r_cond_true rfl ?_) | (refine r_cond_dec rfl (fun _ => ?_) (fun _ => ?_)) | (refine r_cond_true rfl ?_) | (refine r_cond_false rfl ?_) | (refine c_not rfl (fun _ => ?_) (fun _ => ?_)) | (refine r_off rfl rfl rfl ?_) | (refine q_guard rfl rfl (fun _ => ?_) (fun _ => ?_)) | (refine q_guardn rfl rfl (fun _ => ?_) (fun _ => ?_)) | (refine s_nil ?_) | (with_reducible refine a_full ?_) | (refine m_step rfl rfl (List.cons_ne_nil _ _) ?_) | (refine allR_cons rfl ?_ ?_) | (exact allR_nil) | (refine m_end rfl rfl rfl ?_))
    obtain ⟨hO10, l10, _⟩ := hy10
    have i9 : Ints u10 y9.1 (clsG v ts).length (cI (clsG v ts)) := ⟨(cI_len _).symm, (hO9.le fun b o _ ho => l10 b o ho).sl⟩
    have i10 : Ints u10 y10.1 (clsG v ts).length (cI (clsG v ts)) := ⟨(cI_len _).symm, hO10.sl⟩
    repeat' (first | (refine r_pure hT rfl rfl rfl rfl ?_) | (refine r_new hT rfl rfl rfl rfl ?_) | (refine r_write hT rfl rfl rfl ?_) | (refine r_nil ?_) | (refine q_nil ?_) | (refine m_keep (l9.trans l10) ⟨rfl, trivial⟩ rfl rfl ?_) | (refine m_late rfl rfl ?_) | (refine p_call (wInts (cI (clsG v ts)) y9.1 y10.1 _ y9.2 _ y10.2 u10 i9 i10 (by rw [cI_len]; omega)) rfl rfl rfl rfl rfl (hC _ rfl) rfl rfl rfl ?_) | (refine r_arith rfl rfl rfl rfl rfl rfl rfl (by omega) ?_) | (with_reducible refine r_seq ?_) | (with_reducible refine x_then ?_) | (with_reducible refine r_region ?_) | (with_reducible refine r_skip ?_) | (with_reducible refine r_ret ?_) | (with_reducible refine x_then_ret ?_) | (with_reducible refine r_block ?_) | (with_reducible refine x_block ?_) | (with_reducible refine x_block_ret ?_) | (with_reducible refine r_exit ?_) | (with_reducible refine x_then_exit ?_) | (with_reducible refine x_block_here ?_) | (refine x_block_past rfl ?_) | (refine c_yes rfl (by omega) ?_) | (refine c_no rfl (by omega) ?_) | (refine c_no rfl (fun h => h rfl) ?_) | (refine r_cond_false rfl ?_) | (refine r_cond_true rfl ?_) | (refine r_cond_dec rfl (fun _ => ?_) (fun _ => ?_)) | (refine r_cond_true rfl ?_) | (refine r_cond_false rfl ?_) | (refine c_not rfl (fun _ => ?_) (fun _ => ?_)) | (refine r_off rfl rfl rfl ?_) | (refine q_guard rfl rfl (fun _ => ?_) (fun _ => ?_)) | (refine q_guardn rfl rfl (fun _ => ?_) (fun _ => ?_)) | (refine s_nil ?_) | (with_reducible refine a_full ?_) | (refine m_step rfl rfl (List.cons_ne_nil _ _) ?_) | (refine allR_cons rfl ?_ ?_) | (exact allR_nil) | (refine m_end rfl rfl rfl ?_))
    exact r_fin hT rfl true rfl rfl rfl trivial rfl ⟨rfl, ((((l1.trans l2).trans l37).trans l8).trans l9).trans l10⟩
end Go.Proofs.YtkamfnmbidnhdaaDoor
/- A graph that is an argument. Over any program; no condition. -/
namespace Go.Sy
def V.okW (v : V) : Prop := (Lit.int .i64 v.k).wf = true ∧ (Lit.int .i64 v.n).wf = true ∧ v.s.size ≤ maxLen ∧ (Lit.int .i64 v.a).wf = true
def Pr.okW (p : Pr) : Prop := p.key.okW ∧ p.val.okW
theorem V.okW.s {v : V} (h : v.okW) : v.okS := by have := h.2.2.1; simp only [maxLen] at this; exact this
theorem Pr.okW.s {p : Pr} (h : p.okW) : p.okS := ⟨h.1.s, h.2.s⟩
def kV : Hp → V → List Value → Prop := fun _ v cs => cs = v.c ∧ v.okW
section
variable {P : Program} {t e : TypeId}
theorem flat_of {α : Type} {c : α → List Value} : ∀ {ds : List (List Value)} {l : List α}, ds.length = l.length → (∀ (i : Nat) d y, ds[i]? = some d → l[i]? = some y → d = c y) → ds.flatten = l.flatMap c
  | [], [], _, _ => rfl
  | d :: r, y :: l, hl, h => by
    rw [List.flatten_cons, List.flatMap_cons, h 0 d y rfl rfl, flat_of (by simpa using hl) (fun i d' y' hd hy => h (i + 1) d' y' (by simpa using hd) (by simpa using hy))]
  | [], _ :: _, h, _ => by simp at h
  | _ :: _, [], h, _ => by simp at h
theorem all_of {α : Type} {p : α → Prop} {ds : List (List Value)} {l : List α} (hl : ds.length = l.length) (h : ∀ (i : Nat) d y, ds[i]? = some d → l[i]? = some y → p y) : ∀ y ∈ l, p y := fun y hy => by
  obtain ⟨i, hi, e⟩ := List.getElem_of_mem hy
  have h2 : i < ds.length := by omega
  exact h i ds[i] y (List.getElem?_eq_getElem h2) (by rw [List.getElem?_eq_getElem hi, e])
end
end Go.Sy
/- What the arguments of the laws of this seat are. No condition. -/
namespace Go.Sy
end Go.Sy
namespace Go.Proofs.YtkamfnmbidnhdaaDoor
open Go.Sy
set_option maxRecDepth 100000
end Go.Proofs.YtkamfnmbidnhdaaDoor
/- Rows of bytes as arguments of the laws of this seat. No condition. -/
namespace Go.Sy
def kBs : Hp → List Int → List Value → Prop := fun u l cs => ∃ A c, cs = [.slice A l.length c] ∧ l.length ≤ c ∧ l.length ≤ maxLen ∧ Bys u A l.length l ∧ ∀ x ∈ l, 0 ≤ x ∧ x ≤ 255
theorem kBs_of {u : Hp} {l : List Int} {cs : List Value} (h : kSl 1 (kInt .u8) u l cs) : kBs u l cs := by
  obtain ⟨A, c, ds, rfl, h1, h2, h3, _, h5, h6⟩ := h
  refine ⟨A, c, rfl, h1, h2, ⟨rfl, ?_⟩, all_of h3 (fun i d y hd hy => by
    have := (h5 i d y hd hy).2
    simp [Lit.wf, IntKind.min, IntKind.max, IntKind.bits, IntKind.signed] at this
    omega)⟩
  rw [← flat_of (c := Bc) h3 (fun i d y hd hy => (h5 i d y hd hy).1)]; exact h6
end Go.Sy
namespace Go.Proofs.YtkamfnmbidnhdaaDoor
open Go.Sy
set_option maxRecDepth 100000
theorem ob5 : Opn Tryd.prog 5 1 (kInt .u8) := opn_int Tryd.underlying5 (by kernel_rfl)
theorem ob22 : Opn Tryd.prog 22 1 kBs := Opn.imp id (opn_slice Tryd.underlying22 (by kernel_rfl) (by decide) ob5) (fun _ _ _ h => kBs_of h)
end Go.Proofs.YtkamfnmbidnhdaaDoor
/- The listed variable of the Sort laws; a start that meets the condition. -/
namespace Go.Proofs.YtkamfnmbidnhdaaDoor
open Go.Sy Go.ChangeShapes Go.WideShapes Go.ChangeAt Go.RowKit Go.Stop
theorem own : ownKnob Tryd.prog.godebug = none := by kernel_rfl
theorem laidOut : laidOutB Tryd.prog = true := by kernel_rfl
end Go.Proofs.YtkamfnmbidnhdaaDoor
/- The listed tables of the laws that print numbers; a start that meets the condition. -/
namespace Go.Proofs.YtkamfnmbidnhdaaDoor
open Go.Sy Go.ChangeShapes Go.WideShapes Go.ChangeAt Go.RowKit Go.Stop
theorem laidVars_third {P : Program} {W : World} {x0 x1 : String × DataW Unit} {name : String} {k : IntKind} {zs : List Int} {rest : List (String × DataW Unit)} {g : Nat} {t e : TypeId} {n : Nat}
    (hg : P.globalNamed name = some g) (hty : (P.globals[g]?).map (·.type) = some t) (ht : P.underlying t = some (.array n e)) (he : P.underlying e = some (.int k)) (hce : P.cellsOf e = 1) (hct : P.cellsOf t = n)
    (h : laidMet P (x0 :: x1 :: (name, Lib.tabData k zs) :: rest) W) : Lib.TabIs P W name k zs := by
  obtain ⟨ps, ⟨_, _, _, _, _, _, _, _, _, _, ⟨_, _, _, _, _, _, _, _, _, _, ⟨g', t', cs, fuel, p, q, hg', ht', hvar, hd, _, _⟩, _⟩, _⟩, _⟩ := h
  obtain rfl := Option.some.inj (hg.symm.trans hg')
  obtain rfl := Option.some.inj (hty.symm.trans ht')
  unfold Lib.TabIs
  rw [hvar, ← Lib.cells_of_tab ht he hce hct hd]
abbrev laid3 : List (String × DataW Unit) := [("math/bits.deBruijn32tab", Rows.laid_math_bits_deBruijn32tab), ("math/bits.deBruijn64tab", Rows.laid_math_bits_deBruijn64tab), ("internal/strconv.uint64pow10", Rows.laid_internal_strconv_uint64pow10)]
theorem laid_pow10 : (Rows.laid_internal_strconv_uint64pow10 : DataW Unit) = Lib.tabData .u64 Lib.pow10Tab := by kernel_rfl
theorem tab_hp {W : World} (h : Lib.TabIs Tryd.prog W "internal/strconv.uint64pow10" .u64 Lib.pow10Tab) : Tab10 (hpOf W) := by
  intro w hw
  unfold Lib.TabIs World.var? at h ⊢
  cases hg : Tryd.prog.globalNamed "internal/strconv.uint64pow10" with
  | none => rw [hg] at h; cases h
  | some g =>
    rw [hg] at h
    simp only [Option.bind_some] at h ⊢
    cases hh : W.heap[g]? with
    | none => rw [hh] at h; cases h
    | some o => rw [hh] at h; rw [hw g o hh]; exact h
set_option maxRecDepth 100000 in
theorem of_laid3 {W : World} (h : laidMetH Tryd.prog laid3 W) : Tab10 (hpOf W) := by
  rw [MakeChecks.laidMetH_plain _ _ _ (by kernel_rfl)] at h
  unfold laid3 at h
  rw [laid_pow10] at h
  exact tab_hp (laidVars_third (g := 2) (t := 217) (e := 120) (n := 20) (by kernel_rfl) (by kernel_rfl) Tryd.underlying217 Tryd.underlying120 (by kernel_rfl) (by kernel_rfl) h)
theorem door_met3 (os : Os) (args : Array Value) : laidMetH Tryd.prog laid3 ((World.doorLaid Tryd.prog 400 os).forCall (fun _ _ => 0) ⟨#[], args, []⟩).memory :=
  laidMetH_of_parts3 (fuel := 8) (laidMet_of_run' 8 (by kernel_rfl) (by kernel_rfl)) (by kernel_rfl) (by kernel_rfl)
end Go.Proofs.YtkamfnmbidnhdaaDoor
