/- spec.Shrink. No condition. -/
import Derived.Test.YtkamfnmbidnhdaaDoorSqAR
import Derived.Test.YtkamfnmbidnhdaaDoorSqAN
import Derived.Test.YtkamfnmbidnhdaaDoorSqAH
set_option linter.unusedVariables false
set_option linter.unusedSimpArgs false
set_option linter.unusedSectionVars false
namespace Go.Proofs.YtkamfnmbidnhdaaDoor
open Go.Sy
set_option maxRecDepth 100000
set_option maxHeartbeats 8000000
set_option linter.unusedVariables false
set_option linter.unusedSimpArgs false
def shT (C : List Nat) (ts : List (List Pr)) : List (List Pr) := ts.map fun t => lookT C (srt t)
/-- What Shrink answers. -/
def kV (v : V) (ts : List (List Pr)) : V := if GOk v ts then cV (lk (cls (ts.map srt)) v) (shT (cls (ts.map srt)) ts) else V0
def kT (v : V) (ts : List (List Pr)) : List (List Pr) := if GOk v ts then cT (lk (cls (ts.map srt)) v) (shT (cls (ts.map srt)) ts) else []
theorem gok_shT {v : V} {ts : List (List Pr)} (hg : GOk v ts) : GOk (lk (cls (ts.map srt)) v) (shT (cls (ts.map srt)) ts) := by
  have h1 := (cls_fix (allin_srt (gok_in hg).1)).1
  rw [List.length_map] at h1
  exact gok_look hg (good_cin h1)
theorem lkP_yes {C : List Nat} {p : Pr} (h : p.val.k = 4) : (⟨p.key, lk C p.val⟩ : Pr) = ⟨p.key, ⟨p.val.k, p.val.n, p.val.s, (at0 C p.val.a.toNat : Nat)⟩⟩ := by unfold lk; rw [if_pos h]; rfl
theorem lkP_no {C : List Nat} {p : Pr} (h : p.val.k ≠ 4) : (⟨p.key, lk C p.val⟩ : Pr) = p := by unfold lk; rw [if_neg h]
theorem specShrink (v : V) (ts : List (List Pr)) (A : Option Addr) (n c : Nat) (h : Hp) (hP : Tabs h A n ts) (hr : RngG v ts) :
    TriS Tryd.prog 47 [.ag (gsv v A n c)] [] h (fun y : Option Addr × Nat => .ag (gsv (kV v ts) y.1 (kT v ts).length y.2)) (fun _ => []) (fun y h' => Tabs h' y.1 (kT v ts).length (kT v ts) ∧ Le h h') := by
  have hnn := hP.len
  subst hnn
  refine enterS Tryd.func47 rfl (n := 80) rfl rfl (fun k N => ?_)
  have hs1 := specOk v ts A ts.length c h hP
  by_cases hg : GOk v ts
  · rw [decide_eq_true hg] at hs1
    have hCl := gok_cl hg hr
    have hgS := gok_shT hg
    have hcl : (cls (ts.map srt)).length = ts.length := by rw [cls_len _ hCl.inSrt, List.length_map]
    have e1 : kV v ts = ren (ordOf (shT (cls (ts.map srt)) ts) (lk (cls (ts.map srt)) v)) (lk (cls (ts.map srt)) v) := (if_pos hg).trans (if_pos hgS)
    have e2 : kT v ts = cTs (shT (cls (ts.map srt)) ts) (ordOf (shT (cls (ts.map srt)) ts) (lk (cls (ts.map srt)) v)) := (if_pos hg).trans (if_pos hgS)
    rw [e1, e2]
    have hcc := classes86 ts A ts.length c h hP hCl
    have hia := (gok_in hg).2.1
    have hn2 := hg.1
    have hinS := (gok_in hgS).2.1
    have hshl : (shT (cls (ts.map srt)) ts).length = ts.length := by simp [shT]
    have hctl : (cTs (shT (cls (ts.map srt)) ts) (ordOf (shT (cls (ts.map srt)) ts) (lk (cls (ts.map srt)) v))).length = (ordOf (shT (cls (ts.map srt)) ts) (lk (cls (ts.map srt)) v)).length := by simp [cTs]
    rw [hctl]
    by_cases h4 : v.k = 4
    · have hva := hia h4
      have hlk : lk (cls (ts.map srt)) v = ⟨v.k, v.n, v.s, (at0 (cls (ts.map srt)) v.a.toNat : Nat)⟩ := by unfold lk; rw [if_pos h4]; rfl
      rw [hlk] at hinS hgS ⊢
      repeat' (first | (refine r_pure hT rfl rfl rfl rfl ?_) | (refine r_new hT rfl rfl rfl rfl ?_) | (refine r_write hT rfl rfl rfl ?_) | (refine r_nil ?_) | (refine q_nil ?_) | (refine p_call hs1 rfl rfl rfl rfl rfl (hC _ rfl) rfl rfl rfl ?_) | ((refine r_call hcc rfl rfl rfl rfl rfl (hC _ rfl) rfl rfl (fun y1 u1 hy1 => ?_) ; obtain ⟨hy1O, hy1L, hy1F⟩ := hy1 ; have hPc : Ints u1 y1.1 ts.length (cI (cls (ts.map srt))) := ⟨by rw [cI_len, hcl], hy1O.sl⟩)) | (refine r_build hT rfl rfl rfl (ps := [(0, .tmp 17)]) rfl rfl rfl rfl rfl rfl ?_) | (refine c_yes rfl h4 ?_) | (refine r_arith rfl rfl rfl rfl rfl rfl rfl (by omega) ?_) | (with_reducible refine r_seq ?_) | (with_reducible refine x_then ?_) | (with_reducible refine r_region ?_) | (with_reducible refine r_skip ?_) | (with_reducible refine r_ret ?_) | (with_reducible refine x_then_ret ?_) | (with_reducible refine r_block ?_) | (with_reducible refine x_block ?_) | (with_reducible refine x_block_ret ?_) | (with_reducible refine r_exit ?_) | (with_reducible refine x_then_exit ?_) | (with_reducible refine x_block_here ?_) | (refine x_block_past rfl ?_) | (refine c_yes rfl (by omega) ?_) | (refine c_no rfl (by omega) ?_) | (refine c_no rfl (fun h => h rfl) ?_) | (refine r_cond_false rfl ?_) | (refine r_cond_true rfl ?_) | (refine r_cond_dec rfl (fun _ => ?_) (fun _ => ?_)) | (refine r_cond_true rfl ?_) | (refine r_cond_false rfl ?_) | (refine c_not rfl (fun _ => ?_) (fun _ => ?_)) | (refine r_off rfl rfl rfl ?_) | (refine q_guard rfl rfl (fun _ => ?_) (fun _ => ?_)) | (refine q_guardn rfl rfl (fun _ => ?_) (fun _ => ?_)))
      obtain ⟨bq, offq, pq, eq1, _, hixq, _, hatq⟩ := hPc.elem Ic_len (i := v.a.toNat) (by rw [cI_len, hcl]; omega)
      obtain rfl := cI_get hixq
      obtain ⟨y1A, y1c⟩ := y1
      dsimp only at *
      subst eq1
      repeat' (first | (refine r_pure hT rfl rfl rfl rfl ?_) | (refine r_new hT rfl rfl rfl rfl ?_) | (refine r_write hT rfl rfl rfl ?_) | (refine r_nil ?_) | (refine q_nil ?_) | (refine r_index hT rfl rfl rfl rfl rfl rfl rfl rfl rfl hva.1 hva.2 ?_) | (refine r_load hT hatq rfl rfl rfl rfl rfl (Nat.add_zero _).symm rfl rfl rfl rfl rfl ?_) | (refine r_arith rfl rfl rfl rfl rfl rfl rfl (by omega) ?_) | (with_reducible refine r_seq ?_) | (with_reducible refine x_then ?_) | (with_reducible refine r_region ?_) | (with_reducible refine r_skip ?_) | (with_reducible refine r_ret ?_) | (with_reducible refine x_then_ret ?_) | (with_reducible refine r_block ?_) | (with_reducible refine x_block ?_) | (with_reducible refine x_block_ret ?_) | (with_reducible refine r_exit ?_) | (with_reducible refine x_then_exit ?_) | (with_reducible refine x_block_here ?_) | (refine x_block_past rfl ?_) | (refine c_yes rfl (by omega) ?_) | (refine c_no rfl (by omega) ?_) | (refine c_no rfl (fun h => h rfl) ?_) | (refine r_cond_false rfl ?_) | (refine r_cond_true rfl ?_) | (refine r_cond_dec rfl (fun _ => ?_) (fun _ => ?_)) | (refine r_cond_true rfl ?_) | (refine r_cond_false rfl ?_) | (refine c_not rfl (fun _ => ?_) (fun _ => ?_)) | (refine r_off rfl rfl rfl ?_) | (refine q_guard rfl rfl (fun _ => ?_) (fun _ => ?_)) | (refine q_guardn rfl rfl (fun _ => ?_) (fun _ => ?_)))
      refine r_loop (γ := (Nat × Hp) × ((Option Addr × Nat) × (List (List Pr) × (List Hd × Hp)))) (fun g => g.1.1 ≤ ts.length ∧ g.2.2.1 = shT (cls (ts.map srt)) (ts.take g.1.1) ∧ Gr u1 g.1.2 g.2.2.2.2 g.2.1.1 g.2.1.2 g.2.2.2.1 g.2.2.1)
        (fun g => [(2, .p 2 0), (3, .v (.slice (some ⟨bq, offq, none⟩) ts.length y1c)), (4, .p 4 0), (32, .v (.slice A ts.length c)), (33, .v (.int .i64 (ts.length : Int))), (34, .v (.int .i64 (g.1.1 : Int)))])
        (fun g => [(4, ⟨none, gsv (⟨v.k, v.n, v.s, (at0 (cls (ts.map srt)) v.a.toNat : Nat)⟩ : V) g.2.1.1 g.2.2.1.length g.2.1.2, 51⟩), (2, ⟨none, [.v (.int .i64 0), .v (.int .i64 0), .v (.string ⟨⟨[]⟩⟩), .v (.int .i64 0), .v (.slice none 0 0)], 51⟩)]) (fun g => g.1.2) (fun g => ts.length - g.1.1)
        ((0, u1), ((none, 0), ([], ([], u1)))) ⟨Nat.zero_le _, rfl, Gr.start u1⟩ (into rfl ⟨rfl, rfl, rfl, rfl, rfl, rfl, trivial⟩ ⟨rfl, rfl, trivial⟩ rfl rfl) ?_
      rintro ⟨⟨i, u⟩, ⟨⟨A2, c2⟩, ⟨L2, ⟨hs2, q2⟩⟩⟩⟩ ⟨hi, hL2, hG2⟩
      dsimp only at *
      have hL2l : L2.length ≤ 2000 := by rw [hL2]; simp [shT]; omega
      have hl1u := hG2.hq.trans hG2.qu
      by_cases hlt : i < ts.length
      · obtain ⟨b0, off0, A0, n0, c0, t, rfl, _, hix, hm0, hat, hc0, hp0⟩ := (hP.le (hy1L.trans hl1u)).elem hlt
        obtain rfl := hp0.1
        have htl := (hCl.tok t hm0).1
        have hsl := (srt_perm t).length_eq
        repeat' (first | (refine r_pure hT rfl rfl rfl rfl ?_) | (refine r_new hT rfl rfl rfl rfl ?_) | (refine r_write hT rfl rfl rfl ?_) | (refine r_nil ?_) | (refine q_nil ?_) | (refine r_indexN hT rfl rfl rfl rfl rfl rfl rfl rfl rfl hlt ?_) | (refine r_load hT hat rfl rfl rfl rfl rfl (Nat.add_zero _).symm rfl rfl rfl rfl rfl ?_) | (refine r_call (sorted90 t A0 t.length c0 u hp0 (fun p hp => hCl.ky hm0 hp) (by omega)) rfl rfl rfl rfl rfl (hC _ rfl) rfl rfl (fun y2 u2 hy2 => ?_)) | (refine r_arith rfl rfl rfl rfl rfl rfl rfl (by omega) ?_) | (with_reducible refine r_seq ?_) | (with_reducible refine x_then ?_) | (with_reducible refine r_region ?_) | (with_reducible refine r_skip ?_) | (with_reducible refine r_ret ?_) | (with_reducible refine x_then_ret ?_) | (with_reducible refine r_block ?_) | (with_reducible refine x_block ?_) | (with_reducible refine x_block_ret ?_) | (with_reducible refine r_exit ?_) | (with_reducible refine x_then_exit ?_) | (with_reducible refine x_block_here ?_) | (refine x_block_past rfl ?_) | (refine c_yes rfl (by omega) ?_) | (refine c_no rfl (by omega) ?_) | (refine c_no rfl (fun h => h rfl) ?_) | (refine r_cond_false rfl ?_) | (refine r_cond_true rfl ?_) | (refine r_cond_dec rfl (fun _ => ?_) (fun _ => ?_)) | (refine r_cond_true rfl ?_) | (refine r_cond_false rfl ?_) | (refine c_not rfl (fun _ => ?_) (fun _ => ?_)) | (refine r_off rfl rfl rfl ?_) | (refine q_guard rfl rfl (fun _ => ?_) (fun _ => ?_)) | (refine q_guardn rfl rfl (fun _ => ?_) (fun _ => ?_)))
        obtain ⟨ys, hz1, hz2, hz3, hz4, hz5⟩ := hy2
        obtain rfl := hCl.uniq hm0 hz1 hz2
        refine r_loop (γ := Nat × Hp) (fun g => g.1 ≤ t.length ∧ Own g.2 y2.1 t.length y2.2 61 8 ((lookT (cls (ts.map srt)) ((srt t).take g.1)).flatMap Pr.c ++ ((srt t).drop g.1).flatMap Pr.c) ∧ ∀ x, blk y2.1 ≠ some x → g.2 x = u2 x)
          (fun g => [(2, .p 2 0), (3, .v (.slice (some ⟨bq, offq, none⟩) ts.length y1c)), (4, .p 4 0), (32, .v (.slice (some ⟨b0, off0, none⟩) ts.length c)), (33, .v (.int .i64 (ts.length : Int))), (34, .v (.int .i64 (i : Int))), (7, .p 7 0), (42, .v (.int .i64 (t.length : Int))), (43, .v (.int .i64 (g.1 : Int)))])
          (fun _ => [(7, ⟨none, [.v (.slice y2.1 t.length y2.2)], 59⟩), (4, ⟨none, gsv (⟨v.k, v.n, v.s, (at0 (cls (ts.map srt)) v.a.toNat : Nat)⟩ : V) A2 L2.length c2, 51⟩), (2, ⟨none, [.v (.int .i64 0), .v (.int .i64 0), .v (.string ⟨⟨[]⟩⟩), .v (.int .i64 0), .v (.slice none 0 0)], 51⟩)]) (fun g => g.2) (fun g => t.length - g.1)
          (0, u2) ⟨Nat.zero_le _, by simpa [lookT] using hz3, fun _ _ => rfl⟩ (into rfl ⟨rfl, rfl, rfl, rfl, rfl, rfl, rfl, rfl, rfl, trivial⟩ ⟨rfl, rfl, rfl, trivial⟩ rfl rfl) ?_
        rintro ⟨kk, u5⟩ ⟨hk, hO5, hK5⟩
        dsimp only at *
        have hlu5 : Le u u5 := fun x o hx => by rw [hK5 x (fun e => by rw [hz5 x e] at hx; cases hx)]; exact hz4 x o hx
        by_cases hltk : kk < t.length
        · obtain ⟨b5, off5, e5⟩ := own_some hO5 (by omega : 0 < t.length)
          obtain ⟨p, hixp⟩ : ∃ p, (srt t)[kk]? = some p := ⟨_, List.getElem?_eq_getElem (by omega)⟩
          have hdp : (srt t).drop kk = p :: (srt t).drop (kk + 1) := by
            obtain ⟨g1, g2⟩ := List.getElem?_eq_some_iff.1 hixp
            rw [List.drop_eq_getElem_cons g1, g2]
          have hmp : p ∈ t := (srt_perm t).mem_iff.1 (List.mem_of_getElem? hixp)
          have hpre : ((lookT (cls (ts.map srt)) ((srt t).take kk)).flatMap Pr.c).length = kk * 8 := by rw [flat_length Pr.c_len]; simp [lookT]; omega
          rw [hdp, List.flatMap_cons] at hO5
          obtain ⟨y2A, y2c⟩ := y2
          dsimp only at *
          subst e5
          have hatp : At u5 b5 (off5 + kk * 8) p.c := by
            obtain ⟨_, arr, g1, _, g3⟩ := hO5.row _ rfl
            refine ⟨arr, _, _, g1, fun j x hj => ?_⟩
            rw [Nat.add_assoc]
            refine g3 (kk * 8 + j) x ?_
            rw [List.getElem?_append_right (by omega), hpre, show kk * 8 + j - kk * 8 = j by omega, List.getElem?_append_left (List.getElem?_eq_some_iff.1 hj).1]
            exact hj
          have fin : (lookT (cls (ts.map srt)) ((srt t).take (kk + 1))).flatMap Pr.c = (lookT (cls (ts.map srt)) ((srt t).take kk)).flatMap Pr.c ++ Pr.c ⟨p.key, lk (cls (ts.map srt)) p.val⟩ := by rw [take_snoc hixp]; simp [lookT]
          have hK6 : ∀ x, x ≠ b5 → u5 x = u2 x := fun x hx => hK5 x (fun e => hx (Option.some.inj e).symm)
          by_cases h5 : p.val.k = 4
          · have hva := hCl.inAll t hm0 p hmp h5
            obtain ⟨bc, offc, pc, ec, _, hixc, _, hatc⟩ := (hPc.le (hl1u.trans hlu5)).elem Ic_len (i := p.val.a.toNat) (by rw [cI_len, hcl]; omega)
            obtain rfl := cI_get hixc
            rw [lkP_yes h5] at fin
            have ec2 := Option.some.inj ec
            simp only [Addr.mk.injEq] at ec2
            obtain ⟨rfl, rfl, _⟩ := ec2
            repeat' (first | (refine r_pure hT rfl rfl rfl rfl ?_) | (refine r_new hT rfl rfl rfl rfl ?_) | (refine r_write hT rfl rfl rfl ?_) | (refine r_nil ?_) | (refine q_nil ?_) | (refine r_indexN hT rfl rfl rfl rfl rfl rfl rfl rfl rfl hltk ?_) | (refine r_load hT hatp rfl rfl rfl rfl rfl rfl rfl rfl rfl rfl rfl ?_) | (refine r_load (f := 7) hT hatp rfl rfl rfl rfl rfl (Nat.add_assoc _ 4 3) rfl rfl rfl rfl rfl ?_) | (refine c_yes rfl h5 ?_) | (refine r_manyD (id := 15) [0, 1, 2, 3, 4, 5, 6, 7, 8, 9, 10, 11, 12, 13, 14, 15] [16] u5 (Le.refl u5) hM (by kernel_rfl) rfl (by kernel_rfl) rfl rfl rfl (fun β0 => ?_)) | (refine r_index hT rfl rfl rfl rfl rfl rfl rfl rfl rfl hva.1 hva.2 ?_) | (refine r_load hT hatc rfl rfl rfl rfl rfl (Nat.add_zero _).symm rfl rfl rfl rfl rfl ?_) | (refine r_store_row2 (f1 := 4) (f2 := 3) hT hO5 hK6 rfl rfl rfl rfl (by rw [hpre]) rfl rfl rfl rfl rfl rfl rfl (fun u6 hO6 hK7 => ?_)) | (refine m_late rfl rfl ?_) | (refine r_arith rfl rfl rfl rfl rfl rfl rfl (by omega) ?_) | (with_reducible refine r_seq ?_) | (with_reducible refine x_then ?_) | (with_reducible refine r_region ?_) | (with_reducible refine r_skip ?_) | (with_reducible refine r_ret ?_) | (with_reducible refine x_then_ret ?_) | (with_reducible refine r_block ?_) | (with_reducible refine x_block ?_) | (with_reducible refine x_block_ret ?_) | (with_reducible refine r_exit ?_) | (with_reducible refine x_then_exit ?_) | (with_reducible refine x_block_here ?_) | (refine x_block_past rfl ?_) | (refine c_yes rfl (by omega) ?_) | (refine c_no rfl (by omega) ?_) | (refine c_no rfl (fun h => h rfl) ?_) | (refine r_cond_false rfl ?_) | (refine r_cond_true rfl ?_) | (refine r_cond_dec rfl (fun _ => ?_) (fun _ => ?_)) | (refine r_cond_true rfl ?_) | (refine r_cond_false rfl ?_) | (refine c_not rfl (fun _ => ?_) (fun _ => ?_)) | (refine r_off rfl rfl rfl ?_) | (refine q_guard rfl rfl (fun _ => ?_) (fun _ => ?_)) | (refine q_guardn rfl rfl (fun _ => ?_) (fun _ => ?_)) | (refine s_nil ?_) | (with_reducible refine a_full ?_) | (refine m_step rfl rfl (List.cons_ne_nil _ _) ?_) | (refine allR_cons rfl ?_ ?_) | (exact allR_nil) | (refine m_end rfl rfl rfl ?_))
            exact x_round (kk + 1, u6) ⟨hltk, own_eq (ds := (lookT (cls (ts.map srt)) ((srt t).take (kk + 1))).flatMap Pr.c ++ ((srt t).drop (kk + 1)).flatMap Pr.c) hO6 (by rw [fin, List.append_assoc]; rfl), fun x hx => hK7 x (fun e => hx (by rw [e]; rfl))⟩ (by dsimp only; omega) (into rfl ⟨rfl, rfl, rfl, rfl, rfl, rfl, rfl, rfl, rfl, trivial⟩ ⟨rfl, rfl, rfl, trivial⟩ rfl rfl)
          · rw [lkP_no h5] at fin
            repeat' (first | (refine r_pure hT rfl rfl rfl rfl ?_) | (refine r_new hT rfl rfl rfl rfl ?_) | (refine r_write hT rfl rfl rfl ?_) | (refine r_nil ?_) | (refine q_nil ?_) | (refine r_indexN hT rfl rfl rfl rfl rfl rfl rfl rfl rfl hltk ?_) | (refine r_load hT hatp rfl rfl rfl rfl rfl rfl rfl rfl rfl rfl rfl ?_) | (refine c_no rfl h5 ?_) | (refine r_arith rfl rfl rfl rfl rfl rfl rfl (by omega) ?_) | (with_reducible refine r_seq ?_) | (with_reducible refine x_then ?_) | (with_reducible refine r_region ?_) | (with_reducible refine r_skip ?_) | (with_reducible refine r_ret ?_) | (with_reducible refine x_then_ret ?_) | (with_reducible refine r_block ?_) | (with_reducible refine x_block ?_) | (with_reducible refine x_block_ret ?_) | (with_reducible refine r_exit ?_) | (with_reducible refine x_then_exit ?_) | (with_reducible refine x_block_here ?_) | (refine x_block_past rfl ?_) | (refine c_yes rfl (by omega) ?_) | (refine c_no rfl (by omega) ?_) | (refine c_no rfl (fun h => h rfl) ?_) | (refine r_cond_false rfl ?_) | (refine r_cond_true rfl ?_) | (refine r_cond_dec rfl (fun _ => ?_) (fun _ => ?_)) | (refine r_cond_true rfl ?_) | (refine r_cond_false rfl ?_) | (refine c_not rfl (fun _ => ?_) (fun _ => ?_)) | (refine r_off rfl rfl rfl ?_) | (refine q_guard rfl rfl (fun _ => ?_) (fun _ => ?_)) | (refine q_guardn rfl rfl (fun _ => ?_) (fun _ => ?_)))
            exact x_round (kk + 1, u5) ⟨hltk, own_eq (ds := (lookT (cls (ts.map srt)) ((srt t).take (kk + 1))).flatMap Pr.c ++ ((srt t).drop (kk + 1)).flatMap Pr.c) hO5 (by rw [fin, List.append_assoc]), hK5⟩ (by dsimp only; omega) (into rfl ⟨rfl, rfl, rfl, rfl, rfl, rfl, rfl, rfl, rfl, trivial⟩ ⟨rfl, rfl, rfl, trivial⟩ rfl rfl)
        · obtain rfl : kk = t.length := by omega
          rw [← hsl, List.take_length, List.drop_length, List.flatMap_nil, List.append_nil, hsl] at hO5
          repeat' (first | (refine r_pure hT rfl rfl rfl rfl ?_) | (refine r_new hT rfl rfl rfl rfl ?_) | (refine r_write hT rfl rfl rfl ?_) | (refine r_nil ?_) | (refine q_nil ?_) | (refine r_bslice (t := 49) hT (ps := [(0, .tmp 73)]) rfl rfl rfl rfl rfl rfl rfl (by simp) rfl rfl (by decide) (fun b3 hb3 => ?_)) | (refine r_append (t := 49) hT (cs := hs2.flatMap Hd.v) (news := [(⟨y2.1, t.length, y2.2⟩ : Hd)].flatMap Hd.v) rfl rfl rfl rfl rfl rfl rfl rfl rfl rfl rfl (own_fr (hG2.own.le fun b o _ => hlu5 b o) hb3) (sl_blk (upd_here ..) rfl) (heads_one _) (by dsimp only; omega) (by omega) (fun A6 c6 u6 hO6 hG6 => ?_)) | (refine r_arith rfl rfl rfl rfl rfl rfl rfl (by omega) ?_) | (with_reducible refine r_seq ?_) | (with_reducible refine x_then ?_) | (with_reducible refine r_region ?_) | (with_reducible refine r_skip ?_) | (with_reducible refine r_ret ?_) | (with_reducible refine x_then_ret ?_) | (with_reducible refine r_block ?_) | (with_reducible refine x_block ?_) | (with_reducible refine x_block_ret ?_) | (with_reducible refine r_exit ?_) | (with_reducible refine x_then_exit ?_) | (with_reducible refine x_block_here ?_) | (refine x_block_past rfl ?_) | (refine c_yes rfl (by omega) ?_) | (refine c_no rfl (by omega) ?_) | (refine c_no rfl (fun h => h rfl) ?_) | (refine r_cond_false rfl ?_) | (refine r_cond_true rfl ?_) | (refine r_cond_dec rfl (fun _ => ?_) (fun _ => ?_)) | (refine r_cond_true rfl ?_) | (refine r_cond_false rfl ?_) | (refine c_not rfl (fun _ => ?_) (fun _ => ?_)) | (refine r_off rfl rfl rfl ?_) | (refine q_guard rfl rfl (fun _ => ?_) (fun _ => ?_)) | (refine q_guardn rfl rfl (fun _ => ?_) (fun _ => ?_)))
          have hG7 := hG2.push (t := lookT (cls (ts.map srt)) (srt t)) hlu5 (le_frsh (Le.refl u5) hb3) (y := ⟨y2.1, t.length, y2.2⟩) hO5 hz5 hO6 hG6
          have hL3 : L2 ++ [lookT (cls (ts.map srt)) (srt t)] = shT (cls (ts.map srt)) (ts.take (i + 1)) := by rw [hL2, take_snoc hix]; simp [shT]
          exact x_round ((i + 1, u6), ((A6, c6), (L2 ++ [lookT (cls (ts.map srt)) (srt t)], (_, _)))) ⟨hlt, hL3, hG7⟩ (by dsimp only; omega) (into rfl ⟨rfl, rfl, rfl, rfl, rfl, rfl, trivial⟩ ⟨congrArg (fun z => some (⟨none, gsv (⟨v.k, v.n, v.s, (at0 (cls (ts.map srt)) v.a.toNat : Nat)⟩ : V) A6 z c6, 51⟩ : Blk)) (by simp), rfl, trivial⟩ rfl rfl)
      · obtain rfl : i = ts.length := by omega
        rw [List.take_length] at hL2
        subst L2
        repeat' (first | (refine r_pure hT rfl rfl rfl rfl ?_) | (refine r_new hT rfl rfl rfl rfl ?_) | (refine r_write hT rfl rfl rfl ?_) | (refine r_nil ?_) | (refine q_nil ?_) | (refine r_call (l2canon (⟨v.k, v.n, v.s, (at0 (cls (ts.map srt)) v.a.toNat : Nat)⟩ : V) (shT (cls (ts.map srt)) ts) A2 _ c2 u hG2.tabs (gok_in hgS).1 hinS (by omega) (fun t ht => Nat.le_trans ((gok_in hgS).2.2.2 t ht) (by decide))) rfl rfl rfl rfl rfl (hC _ rfl) rfl rfl (fun y8 u8 hy8 => ?_)) | (refine r_arith rfl rfl rfl rfl rfl rfl rfl (by omega) ?_) | (with_reducible refine r_seq ?_) | (with_reducible refine x_then ?_) | (with_reducible refine r_region ?_) | (with_reducible refine r_skip ?_) | (with_reducible refine r_ret ?_) | (with_reducible refine x_then_ret ?_) | (with_reducible refine r_block ?_) | (with_reducible refine x_block ?_) | (with_reducible refine x_block_ret ?_) | (with_reducible refine r_exit ?_) | (with_reducible refine x_then_exit ?_) | (with_reducible refine x_block_here ?_) | (refine x_block_past rfl ?_) | (refine c_yes rfl (by omega) ?_) | (refine c_no rfl (by omega) ?_) | (refine c_no rfl (fun h => h rfl) ?_) | (refine r_cond_false rfl ?_) | (refine r_cond_true rfl ?_) | (refine r_cond_dec rfl (fun _ => ?_) (fun _ => ?_)) | (refine r_cond_true rfl ?_) | (refine r_cond_false rfl ?_) | (refine c_not rfl (fun _ => ?_) (fun _ => ?_)) | (refine r_off rfl rfl rfl ?_) | (refine q_guard rfl rfl (fun _ => ?_) (fun _ => ?_)) | (refine q_guardn rfl rfl (fun _ => ?_) (fun _ => ?_)))
        exact r_fin hT rfl y8 rfl rfl rfl trivial rfl ⟨hy8.1, (hy1L.trans hl1u).trans hy8.2⟩
    · have hlk : lk (cls (ts.map srt)) v = v := by unfold lk; rw [if_neg h4]
      rw [hlk] at hinS hgS ⊢
      repeat' (first | (refine r_pure hT rfl rfl rfl rfl ?_) | (refine r_new hT rfl rfl rfl rfl ?_) | (refine r_write hT rfl rfl rfl ?_) | (refine r_nil ?_) | (refine q_nil ?_) | (refine p_call hs1 rfl rfl rfl rfl rfl (hC _ rfl) rfl rfl rfl ?_) | ((refine r_call hcc rfl rfl rfl rfl rfl (hC _ rfl) rfl rfl (fun y1 u1 hy1 => ?_) ; obtain ⟨hy1O, hy1L, hy1F⟩ := hy1 ; have hPc : Ints u1 y1.1 ts.length (cI (cls (ts.map srt))) := ⟨by rw [cI_len, hcl], hy1O.sl⟩)) | (refine r_build hT rfl rfl rfl (ps := [(0, .tmp 17)]) rfl rfl rfl rfl rfl rfl ?_) | (refine c_no rfl h4 ?_) | (refine r_arith rfl rfl rfl rfl rfl rfl rfl (by omega) ?_) | (with_reducible refine r_seq ?_) | (with_reducible refine x_then ?_) | (with_reducible refine r_region ?_) | (with_reducible refine r_skip ?_) | (with_reducible refine r_ret ?_) | (with_reducible refine x_then_ret ?_) | (with_reducible refine r_block ?_) | (with_reducible refine x_block ?_) | (with_reducible refine x_block_ret ?_) | (with_reducible refine r_exit ?_) | (with_reducible refine x_then_exit ?_) | (with_reducible refine x_block_here ?_) | (refine x_block_past rfl ?_) | (refine c_yes rfl (by omega) ?_) | (refine c_no rfl (by omega) ?_) | (refine c_no rfl (fun h => h rfl) ?_) | (refine r_cond_false rfl ?_) | (refine r_cond_true rfl ?_) | (refine r_cond_dec rfl (fun _ => ?_) (fun _ => ?_)) | (refine r_cond_true rfl ?_) | (refine r_cond_false rfl ?_) | (refine c_not rfl (fun _ => ?_) (fun _ => ?_)) | (refine r_off rfl rfl rfl ?_) | (refine q_guard rfl rfl (fun _ => ?_) (fun _ => ?_)) | (refine q_guardn rfl rfl (fun _ => ?_) (fun _ => ?_)))
      refine r_loop (γ := (Nat × Hp) × ((Option Addr × Nat) × (List (List Pr) × (List Hd × Hp)))) (fun g => g.1.1 ≤ ts.length ∧ g.2.2.1 = shT (cls (ts.map srt)) (ts.take g.1.1) ∧ Gr u1 g.1.2 g.2.2.2.2 g.2.1.1 g.2.1.2 g.2.2.2.1 g.2.2.1)
        (fun g => [(2, .p 2 0), (3, .v (.slice y1.1 ts.length y1.2)), (4, .p 4 0), (32, .v (.slice A ts.length c)), (33, .v (.int .i64 (ts.length : Int))), (34, .v (.int .i64 (g.1.1 : Int)))])
        (fun g => [(4, ⟨none, gsv v g.2.1.1 g.2.2.1.length g.2.1.2, 51⟩), (2, ⟨none, [.v (.int .i64 0), .v (.int .i64 0), .v (.string ⟨⟨[]⟩⟩), .v (.int .i64 0), .v (.slice none 0 0)], 51⟩)]) (fun g => g.1.2) (fun g => ts.length - g.1.1)
        ((0, u1), ((none, 0), ([], ([], u1)))) ⟨Nat.zero_le _, rfl, Gr.start u1⟩ (into rfl ⟨rfl, rfl, rfl, rfl, rfl, rfl, trivial⟩ ⟨rfl, rfl, trivial⟩ rfl rfl) ?_
      rintro ⟨⟨i, u⟩, ⟨⟨A2, c2⟩, ⟨L2, ⟨hs2, q2⟩⟩⟩⟩ ⟨hi, hL2, hG2⟩
      dsimp only at *
      have hL2l : L2.length ≤ 2000 := by rw [hL2]; simp [shT]; omega
      have hl1u := hG2.hq.trans hG2.qu
      by_cases hlt : i < ts.length
      · obtain ⟨b0, off0, A0, n0, c0, t, rfl, _, hix, hm0, hat, hc0, hp0⟩ := (hP.le (hy1L.trans hl1u)).elem hlt
        obtain rfl := hp0.1
        have htl := (hCl.tok t hm0).1
        have hsl := (srt_perm t).length_eq
        repeat' (first | (refine r_pure hT rfl rfl rfl rfl ?_) | (refine r_new hT rfl rfl rfl rfl ?_) | (refine r_write hT rfl rfl rfl ?_) | (refine r_nil ?_) | (refine q_nil ?_) | (refine r_indexN hT rfl rfl rfl rfl rfl rfl rfl rfl rfl hlt ?_) | (refine r_load hT hat rfl rfl rfl rfl rfl (Nat.add_zero _).symm rfl rfl rfl rfl rfl ?_) | (refine r_call (sorted90 t A0 t.length c0 u hp0 (fun p hp => hCl.ky hm0 hp) (by omega)) rfl rfl rfl rfl rfl (hC _ rfl) rfl rfl (fun y2 u2 hy2 => ?_)) | (refine r_arith rfl rfl rfl rfl rfl rfl rfl (by omega) ?_) | (with_reducible refine r_seq ?_) | (with_reducible refine x_then ?_) | (with_reducible refine r_region ?_) | (with_reducible refine r_skip ?_) | (with_reducible refine r_ret ?_) | (with_reducible refine x_then_ret ?_) | (with_reducible refine r_block ?_) | (with_reducible refine x_block ?_) | (with_reducible refine x_block_ret ?_) | (with_reducible refine r_exit ?_) | (with_reducible refine x_then_exit ?_) | (with_reducible refine x_block_here ?_) | (refine x_block_past rfl ?_) | (refine c_yes rfl (by omega) ?_) | (refine c_no rfl (by omega) ?_) | (refine c_no rfl (fun h => h rfl) ?_) | (refine r_cond_false rfl ?_) | (refine r_cond_true rfl ?_) | (refine r_cond_dec rfl (fun _ => ?_) (fun _ => ?_)) | (refine r_cond_true rfl ?_) | (refine r_cond_false rfl ?_) | (refine c_not rfl (fun _ => ?_) (fun _ => ?_)) | (refine r_off rfl rfl rfl ?_) | (refine q_guard rfl rfl (fun _ => ?_) (fun _ => ?_)) | (refine q_guardn rfl rfl (fun _ => ?_) (fun _ => ?_)))
        obtain ⟨ys, hz1, hz2, hz3, hz4, hz5⟩ := hy2
        obtain rfl := hCl.uniq hm0 hz1 hz2
        refine r_loop (γ := Nat × Hp) (fun g => g.1 ≤ t.length ∧ Own g.2 y2.1 t.length y2.2 61 8 ((lookT (cls (ts.map srt)) ((srt t).take g.1)).flatMap Pr.c ++ ((srt t).drop g.1).flatMap Pr.c) ∧ ∀ x, blk y2.1 ≠ some x → g.2 x = u2 x)
          (fun g => [(2, .p 2 0), (3, .v (.slice y1.1 ts.length y1.2)), (4, .p 4 0), (32, .v (.slice (some ⟨b0, off0, none⟩) ts.length c)), (33, .v (.int .i64 (ts.length : Int))), (34, .v (.int .i64 (i : Int))), (7, .p 7 0), (42, .v (.int .i64 (t.length : Int))), (43, .v (.int .i64 (g.1 : Int)))])
          (fun _ => [(7, ⟨none, [.v (.slice y2.1 t.length y2.2)], 59⟩), (4, ⟨none, gsv v A2 L2.length c2, 51⟩), (2, ⟨none, [.v (.int .i64 0), .v (.int .i64 0), .v (.string ⟨⟨[]⟩⟩), .v (.int .i64 0), .v (.slice none 0 0)], 51⟩)]) (fun g => g.2) (fun g => t.length - g.1)
          (0, u2) ⟨Nat.zero_le _, by simpa [lookT] using hz3, fun _ _ => rfl⟩ (into rfl ⟨rfl, rfl, rfl, rfl, rfl, rfl, rfl, rfl, rfl, trivial⟩ ⟨rfl, rfl, rfl, trivial⟩ rfl rfl) ?_
        rintro ⟨kk, u5⟩ ⟨hk, hO5, hK5⟩
        dsimp only at *
        have hlu5 : Le u u5 := fun x o hx => by rw [hK5 x (fun e => by rw [hz5 x e] at hx; cases hx)]; exact hz4 x o hx
        by_cases hltk : kk < t.length
        · obtain ⟨b5, off5, e5⟩ := own_some hO5 (by omega : 0 < t.length)
          obtain ⟨p, hixp⟩ : ∃ p, (srt t)[kk]? = some p := ⟨_, List.getElem?_eq_getElem (by omega)⟩
          have hdp : (srt t).drop kk = p :: (srt t).drop (kk + 1) := by
            obtain ⟨g1, g2⟩ := List.getElem?_eq_some_iff.1 hixp
            rw [List.drop_eq_getElem_cons g1, g2]
          have hmp : p ∈ t := (srt_perm t).mem_iff.1 (List.mem_of_getElem? hixp)
          have hpre : ((lookT (cls (ts.map srt)) ((srt t).take kk)).flatMap Pr.c).length = kk * 8 := by rw [flat_length Pr.c_len]; simp [lookT]; omega
          rw [hdp, List.flatMap_cons] at hO5
          obtain ⟨y2A, y2c⟩ := y2
          dsimp only at *
          subst e5
          have hatp : At u5 b5 (off5 + kk * 8) p.c := by
            obtain ⟨_, arr, g1, _, g3⟩ := hO5.row _ rfl
            refine ⟨arr, _, _, g1, fun j x hj => ?_⟩
            rw [Nat.add_assoc]
            refine g3 (kk * 8 + j) x ?_
            rw [List.getElem?_append_right (by omega), hpre, show kk * 8 + j - kk * 8 = j by omega, List.getElem?_append_left (List.getElem?_eq_some_iff.1 hj).1]
            exact hj
          have fin : (lookT (cls (ts.map srt)) ((srt t).take (kk + 1))).flatMap Pr.c = (lookT (cls (ts.map srt)) ((srt t).take kk)).flatMap Pr.c ++ Pr.c ⟨p.key, lk (cls (ts.map srt)) p.val⟩ := by rw [take_snoc hixp]; simp [lookT]
          have hK6 : ∀ x, x ≠ b5 → u5 x = u2 x := fun x hx => hK5 x (fun e => hx (Option.some.inj e).symm)
          by_cases h5 : p.val.k = 4
          · have hva := hCl.inAll t hm0 p hmp h5
            obtain ⟨bc, offc, pc, ec, _, hixc, _, hatc⟩ := (hPc.le (hl1u.trans hlu5)).elem Ic_len (i := p.val.a.toNat) (by rw [cI_len, hcl]; omega)
            obtain rfl := cI_get hixc
            rw [lkP_yes h5] at fin
            obtain ⟨y1A, y1c⟩ := y1
            dsimp only at *
            subst ec
            repeat' (first | (refine r_pure hT rfl rfl rfl rfl ?_) | (refine r_new hT rfl rfl rfl rfl ?_) | (refine r_write hT rfl rfl rfl ?_) | (refine r_nil ?_) | (refine q_nil ?_) | (refine r_indexN hT rfl rfl rfl rfl rfl rfl rfl rfl rfl hltk ?_) | (refine r_load hT hatp rfl rfl rfl rfl rfl rfl rfl rfl rfl rfl rfl ?_) | (refine r_load (f := 7) hT hatp rfl rfl rfl rfl rfl (Nat.add_assoc _ 4 3) rfl rfl rfl rfl rfl ?_) | (refine c_yes rfl h5 ?_) | (refine r_manyD (id := 15) [0, 1, 2, 3, 4, 5, 6, 7, 8, 9, 10, 11, 12, 13, 14, 15] [16] u5 (Le.refl u5) hM (by kernel_rfl) rfl (by kernel_rfl) rfl rfl rfl (fun β0 => ?_)) | (refine r_index hT rfl rfl rfl rfl rfl rfl rfl rfl rfl hva.1 hva.2 ?_) | (refine r_load hT hatc rfl rfl rfl rfl rfl (Nat.add_zero _).symm rfl rfl rfl rfl rfl ?_) | (refine r_store_row2 (f1 := 4) (f2 := 3) hT hO5 hK6 rfl rfl rfl rfl (by rw [hpre]) rfl rfl rfl rfl rfl rfl rfl (fun u6 hO6 hK7 => ?_)) | (refine m_late rfl rfl ?_) | (refine r_arith rfl rfl rfl rfl rfl rfl rfl (by omega) ?_) | (with_reducible refine r_seq ?_) | (with_reducible refine x_then ?_) | (with_reducible refine r_region ?_) | (with_reducible refine r_skip ?_) | (with_reducible refine r_ret ?_) | (with_reducible refine x_then_ret ?_) | (with_reducible refine r_block ?_) | (with_reducible refine x_block ?_) | (with_reducible refine x_block_ret ?_) | (with_reducible refine r_exit ?_) | (with_reducible refine x_then_exit ?_) | (with_reducible refine x_block_here ?_) | (refine x_block_past rfl ?_) | (refine c_yes rfl (by omega) ?_) | (refine c_no rfl (by omega) ?_) | (refine c_no rfl (fun h => h rfl) ?_) | (refine r_cond_false rfl ?_) | (refine r_cond_true rfl ?_) | (refine r_cond_dec rfl (fun _ => ?_) (fun _ => ?_)) | (refine r_cond_true rfl ?_) | (refine r_cond_false rfl ?_) | (refine c_not rfl (fun _ => ?_) (fun _ => ?_)) | (refine r_off rfl rfl rfl ?_) | (refine q_guard rfl rfl (fun _ => ?_) (fun _ => ?_)) | (refine q_guardn rfl rfl (fun _ => ?_) (fun _ => ?_)) | (refine s_nil ?_) | (with_reducible refine a_full ?_) | (refine m_step rfl rfl (List.cons_ne_nil _ _) ?_) | (refine allR_cons rfl ?_ ?_) | (exact allR_nil) | (refine m_end rfl rfl rfl ?_))
            exact x_round (kk + 1, u6) ⟨hltk, own_eq (ds := (lookT (cls (ts.map srt)) ((srt t).take (kk + 1))).flatMap Pr.c ++ ((srt t).drop (kk + 1)).flatMap Pr.c) hO6 (by rw [fin, List.append_assoc]; rfl), fun x hx => hK7 x (fun e => hx (by rw [e]; rfl))⟩ (by dsimp only; omega) (into rfl ⟨rfl, rfl, rfl, rfl, rfl, rfl, rfl, rfl, rfl, trivial⟩ ⟨rfl, rfl, rfl, trivial⟩ rfl rfl)
          · rw [lkP_no h5] at fin
            repeat' (first | (refine r_pure hT rfl rfl rfl rfl ?_) | (refine r_new hT rfl rfl rfl rfl ?_) | (refine r_write hT rfl rfl rfl ?_) | (refine r_nil ?_) | (refine q_nil ?_) | (refine r_indexN hT rfl rfl rfl rfl rfl rfl rfl rfl rfl hltk ?_) | (refine r_load hT hatp rfl rfl rfl rfl rfl rfl rfl rfl rfl rfl rfl ?_) | (refine c_no rfl h5 ?_) | (refine r_arith rfl rfl rfl rfl rfl rfl rfl (by omega) ?_) | (with_reducible refine r_seq ?_) | (with_reducible refine x_then ?_) | (with_reducible refine r_region ?_) | (with_reducible refine r_skip ?_) | (with_reducible refine r_ret ?_) | (with_reducible refine x_then_ret ?_) | (with_reducible refine r_block ?_) | (with_reducible refine x_block ?_) | (with_reducible refine x_block_ret ?_) | (with_reducible refine r_exit ?_) | (with_reducible refine x_then_exit ?_) | (with_reducible refine x_block_here ?_) | (refine x_block_past rfl ?_) | (refine c_yes rfl (by omega) ?_) | (refine c_no rfl (by omega) ?_) | (refine c_no rfl (fun h => h rfl) ?_) | (refine r_cond_false rfl ?_) | (refine r_cond_true rfl ?_) | (refine r_cond_dec rfl (fun _ => ?_) (fun _ => ?_)) | (refine r_cond_true rfl ?_) | (refine r_cond_false rfl ?_) | (refine c_not rfl (fun _ => ?_) (fun _ => ?_)) | (refine r_off rfl rfl rfl ?_) | (refine q_guard rfl rfl (fun _ => ?_) (fun _ => ?_)) | (refine q_guardn rfl rfl (fun _ => ?_) (fun _ => ?_)))
            exact x_round (kk + 1, u5) ⟨hltk, own_eq (ds := (lookT (cls (ts.map srt)) ((srt t).take (kk + 1))).flatMap Pr.c ++ ((srt t).drop (kk + 1)).flatMap Pr.c) hO5 (by rw [fin, List.append_assoc]), hK5⟩ (by dsimp only; omega) (into rfl ⟨rfl, rfl, rfl, rfl, rfl, rfl, rfl, rfl, rfl, trivial⟩ ⟨rfl, rfl, rfl, trivial⟩ rfl rfl)
        · obtain rfl : kk = t.length := by omega
          rw [← hsl, List.take_length, List.drop_length, List.flatMap_nil, List.append_nil, hsl] at hO5
          repeat' (first | (refine r_pure hT rfl rfl rfl rfl ?_) | (refine r_new hT rfl rfl rfl rfl ?_) | (refine r_write hT rfl rfl rfl ?_) | (refine r_nil ?_) | (refine q_nil ?_) | (refine r_bslice (t := 49) hT (ps := [(0, .tmp 73)]) rfl rfl rfl rfl rfl rfl rfl (by simp) rfl rfl (by decide) (fun b3 hb3 => ?_)) | (refine r_append (t := 49) hT (cs := hs2.flatMap Hd.v) (news := [(⟨y2.1, t.length, y2.2⟩ : Hd)].flatMap Hd.v) rfl rfl rfl rfl rfl rfl rfl rfl rfl rfl rfl (own_fr (hG2.own.le fun b o _ => hlu5 b o) hb3) (sl_blk (upd_here ..) rfl) (heads_one _) (by dsimp only; omega) (by omega) (fun A6 c6 u6 hO6 hG6 => ?_)) | (refine r_arith rfl rfl rfl rfl rfl rfl rfl (by omega) ?_) | (with_reducible refine r_seq ?_) | (with_reducible refine x_then ?_) | (with_reducible refine r_region ?_) | (with_reducible refine r_skip ?_) | (with_reducible refine r_ret ?_) | (with_reducible refine x_then_ret ?_) | (with_reducible refine r_block ?_) | (with_reducible refine x_block ?_) | (with_reducible refine x_block_ret ?_) | (with_reducible refine r_exit ?_) | (with_reducible refine x_then_exit ?_) | (with_reducible refine x_block_here ?_) | (refine x_block_past rfl ?_) | (refine c_yes rfl (by omega) ?_) | (refine c_no rfl (by omega) ?_) | (refine c_no rfl (fun h => h rfl) ?_) | (refine r_cond_false rfl ?_) | (refine r_cond_true rfl ?_) | (refine r_cond_dec rfl (fun _ => ?_) (fun _ => ?_)) | (refine r_cond_true rfl ?_) | (refine r_cond_false rfl ?_) | (refine c_not rfl (fun _ => ?_) (fun _ => ?_)) | (refine r_off rfl rfl rfl ?_) | (refine q_guard rfl rfl (fun _ => ?_) (fun _ => ?_)) | (refine q_guardn rfl rfl (fun _ => ?_) (fun _ => ?_)))
          have hG7 := hG2.push (t := lookT (cls (ts.map srt)) (srt t)) hlu5 (le_frsh (Le.refl u5) hb3) (y := ⟨y2.1, t.length, y2.2⟩) hO5 hz5 hO6 hG6
          have hL3 : L2 ++ [lookT (cls (ts.map srt)) (srt t)] = shT (cls (ts.map srt)) (ts.take (i + 1)) := by rw [hL2, take_snoc hix]; simp [shT]
          exact x_round ((i + 1, u6), ((A6, c6), (L2 ++ [lookT (cls (ts.map srt)) (srt t)], (_, _)))) ⟨hlt, hL3, hG7⟩ (by dsimp only; omega) (into rfl ⟨rfl, rfl, rfl, rfl, rfl, rfl, trivial⟩ ⟨congrArg (fun z => some (⟨none, gsv v A6 z c6, 51⟩ : Blk)) (by simp), rfl, trivial⟩ rfl rfl)
      · obtain rfl : i = ts.length := by omega
        rw [List.take_length] at hL2
        subst L2
        repeat' (first | (refine r_pure hT rfl rfl rfl rfl ?_) | (refine r_new hT rfl rfl rfl rfl ?_) | (refine r_write hT rfl rfl rfl ?_) | (refine r_nil ?_) | (refine q_nil ?_) | (refine r_call (l2canon v (shT (cls (ts.map srt)) ts) A2 _ c2 u hG2.tabs (gok_in hgS).1 hinS (by omega) (fun t ht => Nat.le_trans ((gok_in hgS).2.2.2 t ht) (by decide))) rfl rfl rfl rfl rfl (hC _ rfl) rfl rfl (fun y8 u8 hy8 => ?_)) | (refine r_arith rfl rfl rfl rfl rfl rfl rfl (by omega) ?_) | (with_reducible refine r_seq ?_) | (with_reducible refine x_then ?_) | (with_reducible refine r_region ?_) | (with_reducible refine r_skip ?_) | (with_reducible refine r_ret ?_) | (with_reducible refine x_then_ret ?_) | (with_reducible refine r_block ?_) | (with_reducible refine x_block ?_) | (with_reducible refine x_block_ret ?_) | (with_reducible refine r_exit ?_) | (with_reducible refine x_then_exit ?_) | (with_reducible refine x_block_here ?_) | (refine x_block_past rfl ?_) | (refine c_yes rfl (by omega) ?_) | (refine c_no rfl (by omega) ?_) | (refine c_no rfl (fun h => h rfl) ?_) | (refine r_cond_false rfl ?_) | (refine r_cond_true rfl ?_) | (refine r_cond_dec rfl (fun _ => ?_) (fun _ => ?_)) | (refine r_cond_true rfl ?_) | (refine r_cond_false rfl ?_) | (refine c_not rfl (fun _ => ?_) (fun _ => ?_)) | (refine r_off rfl rfl rfl ?_) | (refine q_guard rfl rfl (fun _ => ?_) (fun _ => ?_)) | (refine q_guardn rfl rfl (fun _ => ?_) (fun _ => ?_)))
        exact r_fin hT rfl y8 rfl rfl rfl trivial rfl ⟨hy8.1, (hy1L.trans hl1u).trans hy8.2⟩
  · rw [decide_eq_false hg] at hs1
    have e1 : kV v ts = V0 := if_neg hg
    have e2 : kT v ts = [] := if_neg hg
    rw [e1, e2]
    repeat' (first | (refine r_pure hT rfl rfl rfl rfl ?_) | (refine r_new hT rfl rfl rfl rfl ?_) | (refine r_write hT rfl rfl rfl ?_) | (refine r_nil ?_) | (refine q_nil ?_) | (refine p_call hs1 rfl rfl rfl rfl rfl (hC _ rfl) rfl rfl rfl ?_) | (refine r_build hT rfl rfl rfl (ps := []) rfl rfl rfl rfl rfl rfl ?_) | (refine r_arith rfl rfl rfl rfl rfl rfl rfl (by omega) ?_) | (with_reducible refine r_seq ?_) | (with_reducible refine x_then ?_) | (with_reducible refine r_region ?_) | (with_reducible refine r_skip ?_) | (with_reducible refine r_ret ?_) | (with_reducible refine x_then_ret ?_) | (with_reducible refine r_block ?_) | (with_reducible refine x_block ?_) | (with_reducible refine x_block_ret ?_) | (with_reducible refine r_exit ?_) | (with_reducible refine x_then_exit ?_) | (with_reducible refine x_block_here ?_) | (refine x_block_past rfl ?_) | (refine c_yes rfl (by omega) ?_) | (refine c_no rfl (by omega) ?_) | (refine c_no rfl (fun h => h rfl) ?_) | (refine r_cond_false rfl ?_) | (refine r_cond_true rfl ?_) | (refine r_cond_dec rfl (fun _ => ?_) (fun _ => ?_)) | (refine r_cond_true rfl ?_) | (refine r_cond_false rfl ?_) | (refine c_not rfl (fun _ => ?_) (fun _ => ?_)) | (refine r_off rfl rfl rfl ?_) | (refine q_guard rfl rfl (fun _ => ?_) (fun _ => ?_)) | (refine q_guardn rfl rfl (fun _ => ?_) (fun _ => ?_)))
    exact r_fin hT rfl ((none, 0) : Option Addr × Nat) rfl rfl rfl trivial rfl ⟨tabs_nil h, Le.refl h⟩
end Go.Proofs.YtkamfnmbidnhdaaDoor
/- What Shrink answers hangs on what can be seen alone; sameness is to look the same. Plain; no condition. -/
namespace Go.Proofs.YtkamfnmbidnhdaaDoor
open Go.Sy
set_option linter.unusedVariables false
set_option linter.unusedSimpArgs false
theorem wl_srt {v : V} {ts : List (List Pr)} (hg : GOk v ts) : Wl (ts.map srt) := by
  refine ⟨allin_srt (gok_in hg).1, fun t ht p hp => ?_, fun t ht => ?_⟩
  · obtain ⟨t', ht', rfl⟩ := List.mem_map.1 ht
    exact tv_of ((hg.2.2 t' ht').2.1 p ((srt_perm t').mem_iff.1 hp)).2.1
  · obtain ⟨t', ht', rfl⟩ := List.mem_map.1 ht
    exact (tok_srt (hg.2.2 t' ht')).2.2
theorem gok_tv {v : V} {ts : List (List Pr)} (hg : GOk v ts) : Tv v := tv_of hg.2.1
theorem gok_ins {v : V} {ts : List (List Pr)} (hg : GOk v ts) : In (ts.map srt).length v := by rw [List.length_map]; exact (gok_in hg).2.1
theorem rt_in {v : V} {ts : List (List Pr)} (h4 : v.k = 4) : v.a.toNat ∈ ordOf ts v := go_mem ts ts.length [] v h4
theorem cTt_length (ts : List (List Pr)) (O : List Nat) : (cTs ts O).length = O.length := by simp [cTs]
theorem cTt_mem {ts : List (List Pr)} {O : List Nat} (hO : ∀ a ∈ O, a < ts.length) {t : List Pr} (h : t ∈ cTs ts O) : ∃ a ∈ O, ∃ t0 ∈ ts, ts[a]? = some t0 ∧ t = t0.map (nPr O) := by
  unfold cTs at h
  obtain ⟨a, ha, rfl⟩ := List.mem_map.1 h
  have hlt := hO a ha
  have hix : ts[a]? = some ts[a] := List.getElem?_eq_getElem hlt
  exact ⟨a, ha, ts[a], List.getElem_mem _, hix, by rw [List.getD_eq_getElem?_getD, hix]; rfl⟩
theorem rnn_k (O : List Nat) (v : V) : (ren O v).k = v.k := by unfold ren; split <;> rfl
theorem rnn_in {O : List Nat} {v : V} (h : v.k = 4 → v.a.toNat ∈ O) : In O.length (ren O v) := fun h4 => by
  rw [rnn_k] at h4
  have := List.idxOf_lt_length_iff.2 (h h4)
  unfold ren
  rw [if_pos h4]
  dsimp only
  omega
theorem rnn_n (O : List Nat) (v : V) : (ren O v).n = v.n ∧ (ren O v).s = v.s := by unfold ren; split <;> exact ⟨rfl, rfl⟩
/-! ### sameness -/
theorem srt_sh (n : Nat) (t : List Pr) : srt (t.map (shP n)) = (srt t).map (shP n) := by
  unfold srt
  rw [List.map_mergeSort]
  intro a _ b _
  rfl
theorem both_srt (a b : List (List Pr)) : (both a b).map srt = a.map srt ++ (b.map srt).map fun t => t.map (shP a.length) := by
  unfold both
  rw [List.map_append, List.map_map, List.map_map]
  congr 1
  refine List.map_congr_left fun t _ => ?_
  exact srt_sh a.length t
theorem shV_4 {n : Nat} {v : V} (h4 : v.k = 4) : (shV n v).k = 4 ∧ (shV n v).a = v.a + (n : Int) := by unfold shV; rw [if_pos h4]; exact ⟨h4, rfl⟩
theorem shV_no {n : Nat} {v : V} (h4 : v.k ≠ 4) : shV n v = v := by unfold shV; rw [if_neg h4]
theorem same_iff {v v' : V} {a b : List (List Pr)} (hg : GOk v a) (hg' : GOk v' b) : sameB v v' a b = true ↔ Beq (a.map srt) (b.map srt) v v' := by
  have e0 : sameB v v' a b = alike (cls ((both a b).map srt)) v (shV a.length v') := if_pos ⟨hg, hg'⟩
  have wA := wl_srt hg
  have wB := wl_srt hg'
  have hvt := gok_tv hg
  have hvt' := gok_tv hg'
  have hiv := gok_ins hg
  have hiv' := gok_ins hg'
  have hL : ∀ p, beh ((both a b).map srt) p v = beh (a.map srt) p v := fun p => by rw [both_srt]; exact beh_left wA.inn p v hiv
  have hR : ∀ p, beh ((both a b).map srt) p (shV a.length v') = beh (b.map srt) p v' := fun p => by
    rw [both_srt]
    have := beh_right (A := a.map srt) (sh := shV a.length) (fun v h4 => by rw [List.length_map]; exact shV_4 h4) (fun v h4 => shV_no h4) wB.inn p v' hiv'
    exact this
  have hW : Wl ((both a b).map srt) := by
    rw [both_srt]
    have hlen : (a.map srt ++ (b.map srt).map fun t => t.map (shP a.length)).length = a.length + b.length := by simp
    refine ⟨fun t ht p hp => ?_, fun t ht p hp => ?_, fun t ht => ?_⟩
    · rw [hlen]
      rcases List.mem_append.1 ht with ht | ht
      · intro h4
        have := wA.inn t ht p hp h4
        rw [List.length_map] at this; omega
      · obtain ⟨t', ht', rfl⟩ := List.mem_map.1 ht
        obtain ⟨q, hq, rfl⟩ := List.mem_map.1 hp
        intro h4
        by_cases h5 : q.val.k = 4
        · have h6 := wB.inn t' ht' q hq h5
          have h7 := (shV_4 (n := a.length) h5).2
          rw [List.length_map] at h6
          show 0 ≤ (shV a.length q.val).a ∧ (shV a.length q.val).a < ((a.length + b.length : Nat) : Int)
          omega
        · have : (shP a.length q).val = q.val := shV_no h5
          rw [this] at h4; exact absurd h4 h5
    · rcases List.mem_append.1 ht with ht | ht
      · exact wA.tv t ht p hp
      · obtain ⟨t', ht', rfl⟩ := List.mem_map.1 ht
        obtain ⟨q, hq, rfl⟩ := List.mem_map.1 hp
        intro h4
        by_cases h5 : q.val.k = 4
        · have h6 := wB.tv t' ht' q hq h5
          show (shV a.length q.val).n = 0 ∧ (shV a.length q.val).s.data.toList = []
          unfold shV
          rw [if_pos h5]; exact h6
        · have : (shP a.length q).val = q.val := shV_no h5
          rw [this] at h4; exact absurd h4 h5
    · rcases List.mem_append.1 ht with ht | ht
      · exact wA.nod t ht
      · obtain ⟨t', ht', rfl⟩ := List.mem_map.1 ht
        have : (t'.map (shP a.length)).map Pr.key = t'.map Pr.key := by simp [shP]
        rw [this]; exact wB.nod t' ht'
  have hlen : ((both a b).map srt).length = a.length + b.length := by rw [both_srt]; simp
  rw [List.length_map] at hiv hiv'
  have hi1 : In ((both a b).map srt).length v := fun h4 => by have := hiv h4; rw [hlen]; omega
  have htv2 : Tv (shV a.length v') := fun h4 => by
    by_cases h5 : v'.k = 4
    · have := hvt' h5
      unfold shV; rw [if_pos h5]; exact this
    · rw [shV_no h5] at h4; exact absurd h4 h5
  have hi2 : In ((both a b).map srt).length (shV a.length v') := fun h4 => by
    by_cases h5 : v'.k = 4
    · have := hiv' h5
      have h7 := (shV_4 (n := a.length) h5).2
      rw [hlen]; omega
    · rw [shV_no h5] at h4; exact absurd h4 h5
  rw [e0, alike_iff hW hi1 hi2 hvt htv2]
  exact ⟨fun h p => by rw [← hL p, ← hR p]; exact h p, fun h p => by rw [hL p, hR p]; exact h p⟩
/-! ### what Shrink answers -/
abbrev sS (ts : List (List Pr)) : List (List Pr) := ts.map srt
theorem shT_eq (ts : List (List Pr)) : shT (cls (sS ts)) ts = (sS ts).map (lookT (cls (sS ts))) := by
  unfold shT
  rw [List.map_map]; rfl
theorem srt_id {t : List Pr} {n : Nat} (h : TOk t n) (hs : Srt t) : srt t = t := (tok_uniq h (List.Perm.refl t) hs).symm
theorem srt_map {f : Pr → Pr} (hf : ∀ p, (f p).key = p.key) {t : List Pr} (hs : Srt t) : Srt (t.map f) := by
  unfold Srt at *
  rw [List.pairwise_map]
  exact hs.imp fun {p q} h => by rw [hf, hf]; exact h
theorem vok_ren {n : Nat} {O : List Nat} {v : V} (h : VOk v n) (hm : v.k = 4 → v.a.toNat ∈ O) : VOk (ren O v) O.length := by
  have hr := rnn_in hm
  unfold ren at hr ⊢
  by_cases h4 : v.k = 4
  · rw [if_pos h4] at hr ⊢
    rcases h with ⟨a, _⟩ | ⟨a, b, c, d⟩ | ⟨a, c, d⟩ | ⟨a, b, c, d⟩ | ⟨a, b, c, d, e⟩
    · omega
    · omega
    · omega
    · omega
    · exact .inr (.inr (.inr (.inr ⟨h4, b, c, hr h4⟩)))
  · rw [if_neg h4]
    rcases h with h | h | h | h | ⟨a, _⟩
    · exact .inl h
    · exact .inr (.inl h)
    · exact .inr (.inr (.inl h))
    · exact .inr (.inr (.inr (.inl h)))
    · exact absurd a h4
theorem ren_key (O : List Nat) (t : List Pr) : (t.map (nPr O)).map (·.key) = t.map (·.key) := by simp [nPr]
theorem gok_cTs {v : V} {ts : List (List Pr)} (h : GOk v ts) : GOk (ren (ordOf ts v) v) (cTs ts (ordOf ts v)) := by
  obtain ⟨i1, i2, i3, i4⟩ := gok_in h
  have hN := ordOf_nm i1 i2
  refine ⟨by rw [cTt_length]; have := hN.len; omega, by rw [cTt_length]; exact vok_ren h.2.1 fun h4 => rt_in h4, fun t ht => ?_⟩
  obtain ⟨a, ha, t0, ht0, hix, rfl⟩ := cTt_mem hN.lt ht
  obtain ⟨k1, k2, k3⟩ := h.2.2 t0 ht0
  rw [cTt_length]
  refine ⟨by rw [List.length_map]; exact k1, fun p hp => ?_, by rw [ren_key]; exact k3⟩
  obtain ⟨q, hq, rfl⟩ := List.mem_map.1 hp
  obtain ⟨q1, q2, q3⟩ := k2 q hq
  exact ⟨q1, vok_ren q2 fun h4 => ordOf_in i1 i2 ha hix hq h4, by show (ren _ q.val).k ≠ 0; rw [rnn_k]; exact q3⟩
theorem rng_cTs {v : V} {ts : List (List Pr)} (h : GOk v ts) (hr : RngG v ts) : RngG (ren (ordOf ts v) v) (cTs ts (ordOf ts v)) := by
  obtain ⟨i1, i2, i3, i4⟩ := gok_in h
  have hN := ordOf_nm i1 i2
  refine ⟨by unfold Rng; rw [(rnn_n _ v).1]; exact hr.1, fun t ht p hp => ?_⟩
  obtain ⟨a, ha, t0, ht0, hix, rfl⟩ := cTt_mem hN.lt ht
  obtain ⟨q, hq, rfl⟩ := List.mem_map.1 hp
  obtain ⟨q1, q2⟩ := hr.2 t0 ht0 q hq
  exact ⟨q1, by show Rng (ren _ q.val); unfold Rng; rw [(rnn_n _ q.val).1]; exact q2⟩
theorem lk_n (c : List Nat) (v : V) : (lk c v).n = v.n := by unfold lk; split <;> rfl
theorem rng_shT {v : V} {ts : List (List Pr)} (c : List Nat) (hr : RngG v ts) : RngG (lk c v) (shT c ts) := by
  refine ⟨by unfold Rng; rw [lk_n]; exact hr.1, fun t ht p hp => ?_⟩
  obtain ⟨t0, ht0, rfl⟩ := List.mem_map.1 ht
  obtain ⟨q, hq, rfl⟩ := List.mem_map.1 hp
  obtain ⟨q1, q2⟩ := hr.2 t0 ht0 q ((srt_perm t0).mem_iff.1 hq)
  exact ⟨q1, by show Rng (lk c q.val); unfold Rng; rw [lk_n]; exact q2⟩
section
variable {v : V} {ts : List (List Pr)}
theorem k_eq (hg : GOk v ts) : kV v ts = ren (ordOf (shT (cls (sS ts)) ts) (lk (cls (sS ts)) v)) (lk (cls (sS ts)) v) ∧ kT v ts = cTs (shT (cls (sS ts)) ts) (ordOf (shT (cls (sS ts)) ts) (lk (cls (sS ts)) v)) :=
  ⟨(if_pos hg).trans (if_pos (gok_shT hg)), (if_pos hg).trans (if_pos (gok_shT hg))⟩
theorem k_gok (hg : GOk v ts) : GOk (kV v ts) (kT v ts) := by
  rw [(k_eq hg).1, (k_eq hg).2]; exact gok_cTs (gok_shT hg)
theorem k_rng (hg : GOk v ts) (hr : RngG v ts) : RngG (kV v ts) (kT v ts) := by
  rw [(k_eq hg).1, (k_eq hg).2]; exact rng_cTs (gok_shT hg) (rng_shT _ hr)
theorem k_srt (hg : GOk v ts) : sS (kT v ts) = kT v ts := by
  have hk := k_gok hg
  rw [(k_eq hg).2] at hk ⊢
  refine (List.map_congr_left fun t ht => ?_).trans (List.map_id _)
  refine srt_id (hk.2.2 t ht) ?_
  obtain ⟨i1, i2, i3, i4⟩ := gok_in (gok_shT hg)
  obtain ⟨a, ha, t0, ht0, hix, rfl⟩ := cTt_mem (ordOf_nm i1 i2).lt ht
  obtain ⟨t1, ht1, rfl⟩ := List.mem_map.1 ht0
  exact srt_map (f := nPr _) (fun p => rfl) (srt_map (f := fun p => ⟨p.key, lk _ p.val⟩) (fun p => rfl) (srt_srt t1))
theorem wl_shT (hg : GOk v ts) : Wl (shT (cls (sS ts)) ts) := by
  have hS := gok_shT hg
  exact ⟨(gok_in hS).1, fun t ht p hp => tv_of ((hS.2.2 t ht).2.1 p hp).2.1, fun t ht => (hS.2.2 t ht).2.2⟩
theorem in_shT (hg : GOk v ts) : In (shT (cls (sS ts)) ts).length (lk (cls (sS ts)) v) := (gok_in (gok_shT hg)).2.1
theorem k_beq (hg : GOk v ts) : Beq (sS (kT v ts)) (sS ts) (kV v ts) v := by
  rw [k_srt hg, (k_eq hg).1, (k_eq hg).2]
  intro p
  rw [beh_cTs ((wl_shT hg).closed (in_shT hg)) p _ (fun h4 => rt_in h4), shT_eq]
  exact beh_look (wl_srt hg) p v (gok_ins hg)
/-- Tables that are the first of their class. -/
def Ld (ts : List (List Pr)) (i : Nat) : Prop := i < ts.length ∧ at0 (cls (sS ts)) i = i
theorem ld_lk (hg : GOk v ts) {x : V} (hx : In ts.length x) (h4 : (lk (cls (sS ts)) x).k = 4) : Ld ts (lk (cls (sS ts)) x).a.toNat := by
  have hG := (cls_fix (wl_srt hg).inn).1
  rw [List.length_map] at hG
  have h4' : x.k = 4 := by rw [lk_k] at h4; exact h4
  have h1 := hx h4'
  have hlt : x.a.toNat < ts.length := by omega
  have h2 := hG.le x.a.toNat hlt
  have e : (lk (cls (sS ts)) x).a.toNat = at0 (cls (sS ts)) x.a.toNat := by unfold lk at0; rw [if_pos h4']; simp only; omega
  rw [e]
  exact ⟨Nat.lt_of_le_of_lt h2 hlt, hG.idem _ hlt⟩
theorem k_dst (hg : GOk v ts) : Dst (shT (cls (sS ts)) ts) (Ld ts) := by
  intro i j hi hj h
  have e : ∀ i, Ld ts i → ∀ p, beh (shT (cls (sS ts)) ts) p (tb i) = beh (sS ts) p (tb i) := fun i hi p => by
    have := beh_look (wl_srt hg) p (tb i) (by rw [List.length_map]; exact tb_in hi.1)
    rw [lk_tb, hi.2] at this
    rw [shT_eq]; exact this
  have hb : Beq (sS ts) (sS ts) (tb i) (tb j) := fun p => by rw [← e i hi p, ← e j hj p]; exact h p
  have := (cls_iff (wl_srt hg) (i := i) (j := j) (by rw [List.length_map]; exact hi.1) (by rw [List.length_map]; exact hj.1)).2 hb
  rw [hi.2, hj.2] at this
  exact this
theorem k_mt (hg : GOk v ts) : Mt (shT (cls (sS ts)) ts) (Ld ts) (lk (cls (sS ts)) v) := by
  refine ⟨wl_shT hg, in_shT hg, tv_of (gok_shT hg).2.1, fun t ht p hp h4 => ?_, k_dst hg, fun h4 => ld_lk hg (gok_in hg).2.1 h4⟩
  obtain ⟨t0, ht0, rfl⟩ := List.mem_map.1 ht
  obtain ⟨q, hq, rfl⟩ := List.mem_map.1 hp
  exact ld_lk hg ((gok_in hg).1 t0 ht0 q ((srt_perm t0).mem_iff.1 hq)) h4
theorem k_uniq {w : V} {us : List (List Pr)} (hg : GOk v ts) (hg' : GOk w us) (h : Beq (sS ts) (sS us) v w) : kV v ts = kV w us ∧ kT v ts = kT w us := by
  have h2 : Beq (shT (cls (sS ts)) ts) (shT (cls (sS us)) us) (lk (cls (sS ts)) v) (lk (cls (sS us)) w) := fun p => by
    rw [shT_eq, shT_eq, beh_look (wl_srt hg) p v (gok_ins hg), beh_look (wl_srt hg') p w (gok_ins hg')]
    exact h p
  rw [(k_eq hg).1, (k_eq hg).2, (k_eq hg').1, (k_eq hg').2]
  exact mt_uniq (k_mt hg) (k_mt hg') h2
theorem k_idem (hg : GOk v ts) : kV (kV v ts) (kT v ts) = kV v ts ∧ kT (kV v ts) (kT v ts) = kT v ts := k_uniq (k_gok hg) hg (k_beq hg)
theorem k_same (hg : GOk v ts) : sameB v (kV v ts) ts (kT v ts) = true := (same_iff hg (k_gok hg)).2 (k_beq hg).symm
/-- No two tables of what is shrunk are the same. -/
theorem k_cls (hg : GOk v ts) : ∀ i, i < (kT v ts).length → at0 (cls (sS (kT v ts))) i = i := by
  have hk := k_gok hg
  have hW := wl_srt hk
  have hG := (cls_fix hW.inn).1
  rw [List.length_map] at hG
  have hM := k_mt hg
  have hN := ordOf_nm hM.wl.inn hM.inn
  have hcl := hM.wl.closed hM.inn
  have hlen : (kT v ts).length = (ordOf (shT (cls (sS ts)) ts) (lk (cls (sS ts)) v)).length := by rw [(k_eq hg).2, cTt_length]
  -- what is led to is a first one
  have hall : ∀ i ∈ ordOf (shT (cls (sS ts)) ts) (lk (cls (sS ts)) v), Ld ts i := by
    have := go_sim hM.led hM.led hM.dst hM.dst hM.wl.nodA ((shT (cls (sS ts)) ts).length + 1) [] [] _ _ .nil (fun i hi => by cases hi) (fun i hi => by cases hi) (Beq.refl _ (lk (cls (sS ts)) v)) hM.root hM.root
    exact this.2.1
  have hbeh : ∀ (i : Nat) (hi : i < (ordOf (shT (cls (sS ts)) ts) (lk (cls (sS ts)) v)).length) (p : List V), beh (sS (kT v ts)) p (tb i) = beh (shT (cls (sS ts)) ts) p (tb (ordOf (shT (cls (sS ts)) ts) (lk (cls (sS ts)) v))[i]) := fun i hi p => by
    have h1 := beh_cTs hcl p (tb (ordOf (shT (cls (sS ts)) ts) (lk (cls (sS ts)) v))[i]) (fun _ => by
      have : (tb (ordOf (shT (cls (sS ts)) ts) (lk (cls (sS ts)) v))[i]).a.toNat = (ordOf (shT (cls (sS ts)) ts) (lk (cls (sS ts)) v))[i] := by simp only [tb]; omega
      rw [this]; exact List.getElem_mem hi)
    rw [k_srt hg, (k_eq hg).2, ← h1]
    congr 1
    unfold ren
    rw [if_pos (show (tb _).k = 4 from rfl)]
    have : (tb (ordOf (shT (cls (sS ts)) ts) (lk (cls (sS ts)) v))[i]).a.toNat = (ordOf (shT (cls (sS ts)) ts) (lk (cls (sS ts)) v))[i] := by simp only [tb]; omega
    rw [this, hN.nodup.idxOf_getElem]
    rfl
  intro i hi
  have h1 := hG.le i hi
  have h2 := hG.idem i hi
  have h3 : at0 (cls (sS (kT v ts))) i < (kT v ts).length := Nat.lt_of_le_of_lt h1 hi
  have hb := (cls_iff hW (i := at0 (cls (sS (kT v ts))) i) (j := i) (by rw [List.length_map]; exact h3) (by rw [List.length_map]; exact hi)).1 h2
  rw [hlen] at hi h3
  have hb2 : Beq (shT (cls (sS ts)) ts) (shT (cls (sS ts)) ts) (tb (ordOf (shT (cls (sS ts)) ts) (lk (cls (sS ts)) v))[at0 (cls (sS (kT v ts))) i]) (tb (ordOf (shT (cls (sS ts)) ts) (lk (cls (sS ts)) v))[i]) := fun p => by rw [← hbeh _ h3 p, ← hbeh _ hi p]; exact hb p
  have := hM.dst _ _ (hall _ (List.getElem_mem h3)) (hall _ (List.getElem_mem hi)) hb2
  exact (List.getElem_inj hN.nodup).1 this
end
end Go.Proofs.YtkamfnmbidnhdaaDoor
