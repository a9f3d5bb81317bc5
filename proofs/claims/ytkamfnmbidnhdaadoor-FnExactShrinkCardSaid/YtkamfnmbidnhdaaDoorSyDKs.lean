/- spec.Shrink. No condition. -/
import Derived.Test.YtkamfnmbidnhdaaDoorSyDKo
import Derived.Test.YtkamfnmbidnhdaaDoorSqAV
set_option linter.unusedVariables false
set_option linter.unusedSimpArgs false
set_option linter.unusedSectionVars false
namespace Go.Proofs.YtkamfnmbidnhdaaDoor
open Go.Sy
set_option maxRecDepth 100000
set_option maxHeartbeats 8000000
set_option linter.unusedVariables false
set_option linter.unusedSimpArgs false
def shT (C : List Nat) (ts : List (List Pr)) : List (List Pr) := ts.map fun t => lookT C (srt t)
/-- What Shrink answers. -/
def kV (v : V) (ts : List (List Pr)) : V := if GOk v ts then cV (lk (cls (ts.map srt)) v) (shT (cls (ts.map srt)) ts) else V0
def kT (v : V) (ts : List (List Pr)) : List (List Pr) := if GOk v ts then cT (lk (cls (ts.map srt)) v) (shT (cls (ts.map srt)) ts) else []
theorem gok_shT {v : V} {ts : List (List Pr)} (hg : GOk v ts) : GOk (lk (cls (ts.map srt)) v) (shT (cls (ts.map srt)) ts) := by
  have h1 := (cls_fix (allin_srt (gok_in hg).1)).1
  rw [List.length_map] at h1
  exact gok_look hg (good_cin h1)
theorem lkP_yes {C : List Nat} {p : Pr} (h : p.val.k = 4) : (⟨p.key, lk C p.val⟩ : Pr) = ⟨p.key, ⟨p.val.k, p.val.n, p.val.s, (at0 C p.val.a.toNat : Nat)⟩⟩ := by unfold lk; rw [if_pos h]; rfl
theorem lkP_no {C : List Nat} {p : Pr} (h : p.val.k ≠ 4) : (⟨p.key, lk C p.val⟩ : Pr) = p := by unfold lk; rw [if_neg h]
theorem specShrink (v : V) (ts : List (List Pr)) (A : Option Addr) (n c : Nat) (h : Hp) (hP : Tabs h A n ts) (hr : RngG v ts) :
    TriS Tryd.prog 47 [.ag (gsv v A n c)] [] h (fun y : Option Addr × Nat => .ag (gsv (kV v ts) y.1 (kT v ts).length y.2)) (fun _ => []) (fun y h' => Tabs h' y.1 (kT v ts).length (kT v ts) ∧ Le h h') := by
  have hnn := hP.len
  subst hnn
  refine enterS Tryd.func47 rfl (n := 80) rfl rfl (fun k N => ?_)
  have hs1 := specOk v ts A ts.length c h hP
  by_cases hg : GOk v ts
  · rw [decide_eq_true hg] at hs1
    have hCl := gok_cl hg hr
    have hgS := gok_shT hg
    have hcl : (cls (ts.map srt)).length = ts.length := by rw [cls_len _ hCl.inSrt, List.length_map]
    have e1 : kV v ts = ren (ordOf (shT (cls (ts.map srt)) ts) (lk (cls (ts.map srt)) v)) (lk (cls (ts.map srt)) v) := (if_pos hg).trans (if_pos hgS)
    have e2 : kT v ts = cTs (shT (cls (ts.map srt)) ts) (ordOf (shT (cls (ts.map srt)) ts) (lk (cls (ts.map srt)) v)) := (if_pos hg).trans (if_pos hgS)
    rw [e1, e2]
    have hcc := classes86 ts A ts.length c h hP hCl
    have hia := (gok_in hg).2.1
    have hn2 := hg.1
    have hinS := (gok_in hgS).2.1
    have hshl : (shT (cls (ts.map srt)) ts).length = ts.length := by simp [shT]
    have hctl : (cTs (shT (cls (ts.map srt)) ts) (ordOf (shT (cls (ts.map srt)) ts) (lk (cls (ts.map srt)) v))).length = (ordOf (shT (cls (ts.map srt)) ts) (lk (cls (ts.map srt)) v)).length := by simp [cTs]
    rw [hctl]
    by_cases h4 : v.k = 4
    · have hva := hia h4
      have hlk : lk (cls (ts.map srt)) v = ⟨v.k, v.n, v.s, (at0 (cls (ts.map srt)) v.a.toNat : Nat)⟩ := by unfold lk; rw [if_pos h4]; rfl
      rw [hlk] at hinS hgS ⊢
      repeat' (first | (refine r_pure hT rfl rfl rfl rfl ?_) | (refine r_new hT rfl rfl rfl rfl ?_) | (refine r_write hT rfl rfl rfl ?_) | (refine r_nil ?_) | (refine q_nil ?_) | (refine p_call hs1 rfl rfl rfl rfl rfl (hC _ rfl) rfl rfl rfl ?_) | ((refine r_call hcc rfl rfl rfl rfl rfl (hC _ rfl) rfl rfl (fun y1 u1 hy1 => ?_) ; obtain ⟨hy1O, hy1L, hy1F⟩ := hy1 ; have hPc : Ints u1 y1.1 ts.length (cI (cls (ts.map srt))) := ⟨by rw [cI_len, hcl], hy1O.sl⟩)) | (refine r_build hT rfl rfl rfl (ps := [(0, .tmp 17)]) rfl rfl rfl rfl rfl rfl ?_) | (refine c_yes rfl h4 ?_) | (refine r_arith rfl rfl rfl rfl rfl rfl rfl (by omega) ?_) | (with_reducible refine r_seq ?_) | (with_reducible refine x_then ?_) | (with_reducible refine r_region ?_) | (with_reducible refine r_skip ?_) | (with_reducible refine r_ret ?_) | (with_reducible refine x_then_ret ?_) | (with_reducible refine r_block ?_) | (with_reducible refine x_block ?_) | (with_reducible refine x_block_ret ?_) | (with_reducible refine r_exit ?_) | (with_reducible refine x_then_exit ?_) | (with_reducible refine x_block_here ?_) | (refine x_block_past rfl ?_) | (refine c_yes rfl (by omega) ?_) | (refine c_no rfl (by omega) ?_) | (refine c_no rfl (fun h => h rfl) ?_) | (refine r_cond_false rfl ?_) | (refine r_cond_true rfl ?_) | (refine r_cond_dec rfl (fun _ => ?_) (fun _ => ?_)) | (refine r_cond_true rfl ?_) | (refine r_cond_false rfl ?_) | (refine c_not rfl (fun _ => ?_) (fun _ => ?_)) | (refine r_off rfl rfl rfl ?_) | (refine q_guard rfl rfl (fun _ => ?_) (fun _ => ?_)) | (refine q_guardn rfl rfl (fun _ => ?_) (fun _ => ?_)))
      obtain ⟨bq, offq, pq, eq1, _, hixq, _, hatq⟩ := hPc.elem Ic_len (i := v.a.toNat) (by rw [cI_len, hcl]; omega)
      obtain rfl := cI_get hixq
      obtain ⟨y1A, y1c⟩ := y1
      dsimp only at *
      subst eq1
      repeat' (first | (refine r_pure hT rfl rfl rfl rfl ?_) | (refine r_new hT rfl rfl rfl rfl ?_) | (refine r_write hT rfl rfl rfl ?_) | (refine r_nil ?_) | (refine q_nil ?_) | (refine r_index hT rfl rfl rfl rfl rfl rfl rfl rfl rfl hva.1 hva.2 ?_) | (refine r_load hT hatq rfl rfl rfl rfl rfl (Nat.add_zero _).symm rfl rfl rfl rfl rfl ?_) | (refine r_arith rfl rfl rfl rfl rfl rfl rfl (by omega) ?_) | (with_reducible refine r_seq ?_) | (with_reducible refine x_then ?_) | (with_reducible refine r_region ?_) | (with_reducible refine r_skip ?_) | (with_reducible refine r_ret ?_) | (with_reducible refine x_then_ret ?_) | (with_reducible refine r_block ?_) | (with_reducible refine x_block ?_) | (with_reducible refine x_block_ret ?_) | (with_reducible refine r_exit ?_) | (with_reducible refine x_then_exit ?_) | (with_reducible refine x_block_here ?_) | (refine x_block_past rfl ?_) | (refine c_yes rfl (by omega) ?_) | (refine c_no rfl (by omega) ?_) | (refine c_no rfl (fun h => h rfl) ?_) | (refine r_cond_false rfl ?_) | (refine r_cond_true rfl ?_) | (refine r_cond_dec rfl (fun _ => ?_) (fun _ => ?_)) | (refine r_cond_true rfl ?_) | (refine r_cond_false rfl ?_) | (refine c_not rfl (fun _ => ?_) (fun _ => ?_)) | (refine r_off rfl rfl rfl ?_) | (refine q_guard rfl rfl (fun _ => ?_) (fun _ => ?_)) | (refine q_guardn rfl rfl (fun _ => ?_) (fun _ => ?_)))
      refine r_loop (γ := (Nat × Hp) × ((Option Addr × Nat) × (List (List Pr) × (List Hd × Hp)))) (fun g => g.1.1 ≤ ts.length ∧ g.2.2.1 = shT (cls (ts.map srt)) (ts.take g.1.1) ∧ Gr u1 g.1.2 g.2.2.2.2 g.2.1.1 g.2.1.2 g.2.2.2.1 g.2.2.1)
        (fun g => [(2, .p 2 0), (3, .v (.slice (some ⟨bq, offq, none⟩) ts.length y1c)), (4, .p 4 0), (32, .v (.slice A ts.length c)), (33, .v (.int .i64 (ts.length : Int))), (34, .v (.int .i64 (g.1.1 : Int)))])
        (fun g => [(4, ⟨none, gsv (⟨v.k, v.n, v.s, (at0 (cls (ts.map srt)) v.a.toNat : Nat)⟩ : V) g.2.1.1 g.2.2.1.length g.2.1.2, 51⟩), (2, ⟨none, [.v (.int .i64 0), .v (.int .i64 0), .v (.string ⟨⟨[]⟩⟩), .v (.int .i64 0), .v (.slice none 0 0)], 51⟩)]) (fun g => g.1.2) (fun g => ts.length - g.1.1)
        ((0, u1), ((none, 0), ([], ([], u1)))) ⟨Nat.zero_le _, rfl, Gr.start u1⟩ (into rfl ⟨rfl, rfl, rfl, rfl, rfl, rfl, trivial⟩ ⟨rfl, rfl, trivial⟩ rfl rfl) ?_
      rintro ⟨⟨i, u⟩, ⟨⟨A2, c2⟩, ⟨L2, ⟨hs2, q2⟩⟩⟩⟩ ⟨hi, hL2, hG2⟩
      dsimp only at *
      have hL2l : L2.length ≤ 2000 := by rw [hL2]; simp [shT]; omega
      have hl1u := hG2.hq.trans hG2.qu
      by_cases hlt : i < ts.length
      · obtain ⟨b0, off0, A0, n0, c0, t, rfl, _, hix, hm0, hat, hc0, hp0⟩ := (hP.le (hy1L.trans hl1u)).elem hlt
        obtain rfl := hp0.1
        have htl := (hCl.tok t hm0).1
        have hsl := (srt_perm t).length_eq
        repeat' (first | (refine r_pure hT rfl rfl rfl rfl ?_) | (refine r_new hT rfl rfl rfl rfl ?_) | (refine r_write hT rfl rfl rfl ?_) | (refine r_nil ?_) | (refine q_nil ?_) | (refine r_indexN hT rfl rfl rfl rfl rfl rfl rfl rfl rfl hlt ?_) | (refine r_load hT hat rfl rfl rfl rfl rfl (Nat.add_zero _).symm rfl rfl rfl rfl rfl ?_) | (refine r_call (sorted90 t A0 t.length c0 u hp0 (fun p hp => hCl.ky hm0 hp) (by omega)) rfl rfl rfl rfl rfl (hC _ rfl) rfl rfl (fun y2 u2 hy2 => ?_)) | (refine r_arith rfl rfl rfl rfl rfl rfl rfl (by omega) ?_) | (with_reducible refine r_seq ?_) | (with_reducible refine x_then ?_) | (with_reducible refine r_region ?_) | (with_reducible refine r_skip ?_) | (with_reducible refine r_ret ?_) | (with_reducible refine x_then_ret ?_) | (with_reducible refine r_block ?_) | (with_reducible refine x_block ?_) | (with_reducible refine x_block_ret ?_) | (with_reducible refine r_exit ?_) | (with_reducible refine x_then_exit ?_) | (with_reducible refine x_block_here ?_) | (refine x_block_past rfl ?_) | (refine c_yes rfl (by omega) ?_) | (refine c_no rfl (by omega) ?_) | (refine c_no rfl (fun h => h rfl) ?_) | (refine r_cond_false rfl ?_) | (refine r_cond_true rfl ?_) | (refine r_cond_dec rfl (fun _ => ?_) (fun _ => ?_)) | (refine r_cond_true rfl ?_) | (refine r_cond_false rfl ?_) | (refine c_not rfl (fun _ => ?_) (fun _ => ?_)) | (refine r_off rfl rfl rfl ?_) | (refine q_guard rfl rfl (fun _ => ?_) (fun _ => ?_)) | (refine q_guardn rfl rfl (fun _ => ?_) (fun _ => ?_)))
        obtain ⟨ys, hz1, hz2, hz3, hz4, hz5⟩ := hy2
        obtain rfl := hCl.uniq hm0 hz1 hz2
        refine r_loop (γ := Nat × Hp) (fun g => g.1 ≤ t.length ∧ Own g.2 y2.1 t.length y2.2 61 8 ((lookT (cls (ts.map srt)) ((srt t).take g.1)).flatMap Pr.c ++ ((srt t).drop g.1).flatMap Pr.c) ∧ ∀ x, blk y2.1 ≠ some x → g.2 x = u2 x)
          (fun g => [(2, .p 2 0), (3, .v (.slice (some ⟨bq, offq, none⟩) ts.length y1c)), (4, .p 4 0), (32, .v (.slice (some ⟨b0, off0, none⟩) ts.length c)), (33, .v (.int .i64 (ts.length : Int))), (34, .v (.int .i64 (i : Int))), (7, .p 7 0), (42, .v (.int .i64 (t.length : Int))), (43, .v (.int .i64 (g.1 : Int)))])
          (fun _ => [(7, ⟨none, [.v (.slice y2.1 t.length y2.2)], 59⟩), (4, ⟨none, gsv (⟨v.k, v.n, v.s, (at0 (cls (ts.map srt)) v.a.toNat : Nat)⟩ : V) A2 L2.length c2, 51⟩), (2, ⟨none, [.v (.int .i64 0), .v (.int .i64 0), .v (.string ⟨⟨[]⟩⟩), .v (.int .i64 0), .v (.slice none 0 0)], 51⟩)]) (fun g => g.2) (fun g => t.length - g.1)
          (0, u2) ⟨Nat.zero_le _, by simpa [lookT] using hz3, fun _ _ => rfl⟩ (into rfl ⟨rfl, rfl, rfl, rfl, rfl, rfl, rfl, rfl, rfl, trivial⟩ ⟨rfl, rfl, rfl, trivial⟩ rfl rfl) ?_
        rintro ⟨kk, u5⟩ ⟨hk, hO5, hK5⟩
        dsimp only at *
        have hlu5 : Le u u5 := fun x o hx => by rw [hK5 x (fun e => by rw [hz5 x e] at hx; cases hx)]; exact hz4 x o hx
        by_cases hltk : kk < t.length
        · obtain ⟨b5, off5, e5⟩ := own_some hO5 (by omega : 0 < t.length)
          obtain ⟨p, hixp⟩ : ∃ p, (srt t)[kk]? = some p := ⟨_, List.getElem?_eq_getElem (by omega)⟩
          have hdp : (srt t).drop kk = p :: (srt t).drop (kk + 1) := by
            obtain ⟨g1, g2⟩ := List.getElem?_eq_some_iff.1 hixp
            rw [List.drop_eq_getElem_cons g1, g2]
          have hmp : p ∈ t := (srt_perm t).mem_iff.1 (List.mem_of_getElem? hixp)
          have hpre : ((lookT (cls (ts.map srt)) ((srt t).take kk)).flatMap Pr.c).length = kk * 8 := by rw [flat_length Pr.c_len]; simp [lookT]; omega
          rw [hdp, List.flatMap_cons] at hO5
          obtain ⟨y2A, y2c⟩ := y2
          dsimp only at *
          subst e5
          have hatp : At u5 b5 (off5 + kk * 8) p.c := by
            obtain ⟨_, arr, g1, _, g3⟩ := hO5.row _ rfl
            refine ⟨arr, _, _, g1, fun j x hj => ?_⟩
            rw [Nat.add_assoc]
            refine g3 (kk * 8 + j) x ?_
            rw [List.getElem?_append_right (by omega), hpre, show kk * 8 + j - kk * 8 = j by omega, List.getElem?_append_left (List.getElem?_eq_some_iff.1 hj).1]
            exact hj
          have fin : (lookT (cls (ts.map srt)) ((srt t).take (kk + 1))).flatMap Pr.c = (lookT (cls (ts.map srt)) ((srt t).take kk)).flatMap Pr.c ++ Pr.c ⟨p.key, lk (cls (ts.map srt)) p.val⟩ := by rw [take_snoc hixp]; simp [lookT]
          have hK6 : ∀ x, x ≠ b5 → u5 x = u2 x := fun x hx => hK5 x (fun e => hx (Option.some.inj e).symm)
          by_cases h5 : p.val.k = 4
          · have hva := hCl.inAll t hm0 p hmp h5
            obtain ⟨bc, offc, pc, ec, _, hixc, _, hatc⟩ := (hPc.le (hl1u.trans hlu5)).elem Ic_len (i := p.val.a.toNat) (by rw [cI_len, hcl]; omega)
            obtain rfl := cI_get hixc
            rw [lkP_yes h5] at fin
            have ec2 := Option.some.inj ec
            simp only [Addr.mk.injEq] at ec2
            obtain ⟨rfl, rfl, _⟩ := ec2
            repeat' (first | (refine r_pure hT rfl rfl rfl rfl ?_) | (refine r_new hT rfl rfl rfl rfl ?_) | (refine r_write hT rfl rfl rfl ?_) | (refine r_nil ?_) | (refine q_nil ?_) | (refine r_indexN hT rfl rfl rfl rfl rfl rfl rfl rfl rfl hltk ?_) | (refine r_load hT hatp rfl rfl rfl rfl rfl rfl rfl rfl rfl rfl rfl ?_) | (refine r_load (f := 7) hT hatp rfl rfl rfl rfl rfl (Nat.add_assoc _ 4 3) rfl rfl rfl rfl rfl ?_) | (refine c_yes rfl h5 ?_) | (refine r_manyD (id := 15) [0, 1, 2, 3, 4, 5, 6, 7, 8, 9, 10, 11, 12, 13, 14, 15] [16] u5 (Le.refl u5) hM (by kernel_rfl) rfl (by kernel_rfl) rfl rfl rfl (fun β0 => ?_)) | (refine r_index hT rfl rfl rfl rfl rfl rfl rfl rfl rfl hva.1 hva.2 ?_) | (refine r_load hT hatc rfl rfl rfl rfl rfl (Nat.add_zero _).symm rfl rfl rfl rfl rfl ?_) | (refine r_store_row2 (f1 := 4) (f2 := 3) hT hO5 hK6 rfl rfl rfl rfl (by rw [hpre]) rfl rfl rfl rfl rfl rfl rfl (fun u6 hO6 hK7 => ?_)) | (refine m_late rfl rfl ?_) | (refine r_arith rfl rfl rfl rfl rfl rfl rfl (by omega) ?_) | (with_reducible refine r_seq ?_) | (with_reducible refine x_then ?_) | (with_reducible refine r_region ?_) | (with_reducible refine r_skip ?_) | (with_reducible refine r_ret ?_) | (with_reducible refine x_then_ret ?_) | (with_reducible refine r_block ?_) | (with_reducible refine x_block ?_) | (with_reducible refine x_block_ret ?_) | (with_reducible refine r_exit ?_) | (with_reducible refine x_then_exit ?_) | (with_reducible refine x_block_here ?_) | (refine x_block_past rfl ?_) | (refine c_yes rfl (by omega) ?_) | (refine c_no rfl (by omega) ?_) | (refine c_no rfl (fun h => h rfl) ?_) | (refine r_cond_false rfl ?_) | (refine r_cond_true rfl ?_) | (refine r_cond_dec rfl (fun _ => ?_) (fun _ => ?_)) | (refine r_cond_true rfl ?_) | (refine r_cond_false rfl ?_) | (refine c_not rfl (fun _ => ?_) (fun _ => ?_)) | (refine r_off rfl rfl rfl ?_) | (refine q_guard rfl rfl (fun _ => ?_) (fun _ => ?_)) | (refine q_guardn rfl rfl (fun _ => ?_) (fun _ => ?_)) | (refine s_nil ?_) | (with_reducible refine a_full ?_) | (refine m_step rfl rfl (List.cons_ne_nil _ _) ?_) | (refine allR_cons rfl ?_ ?_) | (exact allR_nil) | (refine m_end rfl rfl rfl ?_))
            exact x_round (kk + 1, u6) ⟨hltk, own_eq (ds := (lookT (cls (ts.map srt)) ((srt t).take (kk + 1))).flatMap Pr.c ++ ((srt t).drop (kk + 1)).flatMap Pr.c) hO6 (by rw [fin, List.append_assoc]; rfl), fun x hx => hK7 x (fun e => hx (by rw [e]; rfl))⟩ (by dsimp only; omega) (into rfl ⟨rfl, rfl, rfl, rfl, rfl, rfl, rfl, rfl, rfl, trivial⟩ ⟨rfl, rfl, rfl, trivial⟩ rfl rfl)
          · rw [lkP_no h5] at fin
            repeat' (first | (refine r_pure hT rfl rfl rfl rfl ?_) | (refine r_new hT rfl rfl rfl rfl ?_) | (refine r_write hT rfl rfl rfl ?_) | (refine r_nil ?_) | (refine q_nil ?_) | (refine r_indexN hT rfl rfl rfl rfl rfl rfl rfl rfl rfl hltk ?_) | (refine r_load hT hatp rfl rfl rfl rfl rfl rfl rfl rfl rfl rfl rfl ?_) | (refine c_no rfl h5 ?_) | (refine r_arith rfl rfl rfl rfl rfl rfl rfl (by omega) ?_) | (with_reducible refine r_seq ?_) | (with_reducible refine x_then ?_) | (with_reducible refine r_region ?_) | (with_reducible refine r_skip ?_) | (with_reducible refine r_ret ?_) | (with_reducible refine x_then_ret ?_) | (with_reducible refine r_block ?_) | (with_reducible refine x_block ?_) | (with_reducible refine x_block_ret ?_) | (with_reducible refine r_exit ?_) | (with_reducible refine x_then_exit ?_) | (with_reducible refine x_block_here ?_) | (refine x_block_past rfl ?_) | (refine c_yes rfl (by omega) ?_) | (refine c_no rfl (by omega) ?_) | (refine c_no rfl (fun h => h rfl) ?_) | (refine r_cond_false rfl ?_) | (refine r_cond_true rfl ?_) | (refine r_cond_dec rfl (fun _ => ?_) (fun _ => ?_)) | (refine r_cond_true rfl ?_) | (refine r_cond_false rfl ?_) | (refine c_not rfl (fun _ => ?_) (fun _ => ?_)) | (refine r_off rfl rfl rfl ?_) | (refine q_guard rfl rfl (fun _ => ?_) (fun _ => ?_)) | (refine q_guardn rfl rfl (fun _ => ?_) (fun _ => ?_)))
            exact x_round (kk + 1, u5) ⟨hltk, own_eq (ds := (lookT (cls (ts.map srt)) ((srt t).take (kk + 1))).flatMap Pr.c ++ ((srt t).drop (kk + 1)).flatMap Pr.c) hO5 (by rw [fin, List.append_assoc]), hK5⟩ (by dsimp only; omega) (into rfl ⟨rfl, rfl, rfl, rfl, rfl, rfl, rfl, rfl, rfl, trivial⟩ ⟨rfl, rfl, rfl, trivial⟩ rfl rfl)
        · obtain rfl : kk = t.length := by omega
          rw [← hsl, List.take_length, List.drop_length, List.flatMap_nil, List.append_nil, hsl] at hO5
          repeat' (first | (refine r_pure hT rfl rfl rfl rfl ?_) | (refine r_new hT rfl rfl rfl rfl ?_) | (refine r_write hT rfl rfl rfl ?_) | (refine r_nil ?_) | (refine q_nil ?_) | (refine r_bslice (t := 49) hT (ps := [(0, .tmp 73)]) rfl rfl rfl rfl rfl rfl rfl (by simp) rfl rfl (by decide) (fun b3 hb3 => ?_)) | (refine r_append (t := 49) hT (cs := hs2.flatMap Hd.v) (news := [(⟨y2.1, t.length, y2.2⟩ : Hd)].flatMap Hd.v) rfl rfl rfl rfl rfl rfl rfl rfl rfl rfl rfl (own_fr (hG2.own.le fun b o _ => hlu5 b o) hb3) (sl_blk (upd_here ..) rfl) (heads_one _) (by dsimp only; omega) (by omega) (fun A6 c6 u6 hO6 hG6 => ?_)) | (refine r_arith rfl rfl rfl rfl rfl rfl rfl (by omega) ?_) | (with_reducible refine r_seq ?_) | (with_reducible refine x_then ?_) | (with_reducible refine r_region ?_) | (with_reducible refine r_skip ?_) | (with_reducible refine r_ret ?_) | (with_reducible refine x_then_ret ?_) | (with_reducible refine r_block ?_) | (with_reducible refine x_block ?_) | (with_reducible refine x_block_ret ?_) | (with_reducible refine r_exit ?_) | (with_reducible refine x_then_exit ?_) | (with_reducible refine x_block_here ?_) | (refine x_block_past rfl ?_) | (refine c_yes rfl (by omega) ?_) | (refine c_no rfl (by omega) ?_) | (refine c_no rfl (fun h => h rfl) ?_) | (refine r_cond_false rfl ?_) | (refine r_cond_true rfl ?_) | (refine r_cond_dec rfl (fun _ => ?_) (fun _ => ?_)) | (refine r_cond_true rfl ?_) | (refine r_cond_false rfl ?_) | (refine c_not rfl (fun _ => ?_) (fun _ => ?_)) | (refine r_off rfl rfl rfl ?_) | (refine q_guard rfl rfl (fun _ => ?_) (fun _ => ?_)) | (refine q_guardn rfl rfl (fun _ => ?_) (fun _ => ?_)))
          have hG7 := hG2.push (t := lookT (cls (ts.map srt)) (srt t)) hlu5 (le_frsh (Le.refl u5) hb3) (y := ⟨y2.1, t.length, y2.2⟩) hO5 hz5 hO6 hG6
          have hL3 : L2 ++ [lookT (cls (ts.map srt)) (srt t)] = shT (cls (ts.map srt)) (ts.take (i + 1)) := by rw [hL2, take_snoc hix]; simp [shT]
          exact x_round ((i + 1, u6), ((A6, c6), (L2 ++ [lookT (cls (ts.map srt)) (srt t)], (_, _)))) ⟨hlt, hL3, hG7⟩ (by dsimp only; omega) (into rfl ⟨rfl, rfl, rfl, rfl, rfl, rfl, trivial⟩ ⟨congrArg (fun z => some (⟨none, gsv (⟨v.k, v.n, v.s, (at0 (cls (ts.map srt)) v.a.toNat : Nat)⟩ : V) A6 z c6, 51⟩ : Blk)) (by simp), rfl, trivial⟩ rfl rfl)
      · obtain rfl : i = ts.length := by omega
        rw [List.take_length] at hL2
        subst L2
        repeat' (first | (refine r_pure hT rfl rfl rfl rfl ?_) | (refine r_new hT rfl rfl rfl rfl ?_) | (refine r_write hT rfl rfl rfl ?_) | (refine r_nil ?_) | (refine q_nil ?_) | (refine r_call (l2canon (⟨v.k, v.n, v.s, (at0 (cls (ts.map srt)) v.a.toNat : Nat)⟩ : V) (shT (cls (ts.map srt)) ts) A2 _ c2 u hG2.tabs (gok_in hgS).1 hinS (by omega) (fun t ht => Nat.le_trans ((gok_in hgS).2.2.2 t ht) (by decide))) rfl rfl rfl rfl rfl (hC _ rfl) rfl rfl (fun y8 u8 hy8 => ?_)) | (refine r_arith rfl rfl rfl rfl rfl rfl rfl (by omega) ?_) | (with_reducible refine r_seq ?_) | (with_reducible refine x_then ?_) | (with_reducible refine r_region ?_) | (with_reducible refine r_skip ?_) | (with_reducible refine r_ret ?_) | (with_reducible refine x_then_ret ?_) | (with_reducible refine r_block ?_) | (with_reducible refine x_block ?_) | (with_reducible refine x_block_ret ?_) | (with_reducible refine r_exit ?_) | (with_reducible refine x_then_exit ?_) | (with_reducible refine x_block_here ?_) | (refine x_block_past rfl ?_) | (refine c_yes rfl (by omega) ?_) | (refine c_no rfl (by omega) ?_) | (refine c_no rfl (fun h => h rfl) ?_) | (refine r_cond_false rfl ?_) | (refine r_cond_true rfl ?_) | (refine r_cond_dec rfl (fun _ => ?_) (fun _ => ?_)) | (refine r_cond_true rfl ?_) | (refine r_cond_false rfl ?_) | (refine c_not rfl (fun _ => ?_) (fun _ => ?_)) | (refine r_off rfl rfl rfl ?_) | (refine q_guard rfl rfl (fun _ => ?_) (fun _ => ?_)) | (refine q_guardn rfl rfl (fun _ => ?_) (fun _ => ?_)))
        exact r_fin hT rfl y8 rfl rfl rfl trivial rfl ⟨hy8.1, (hy1L.trans hl1u).trans hy8.2⟩
    · have hlk : lk (cls (ts.map srt)) v = v := by unfold lk; rw [if_neg h4]
      rw [hlk] at hinS hgS ⊢
      repeat' (first | (refine r_pure hT rfl rfl rfl rfl ?_) | (refine r_new hT rfl rfl rfl rfl ?_) | (refine r_write hT rfl rfl rfl ?_) | (refine r_nil ?_) | (refine q_nil ?_) | (refine p_call hs1 rfl rfl rfl rfl rfl (hC _ rfl) rfl rfl rfl ?_) | ((refine r_call hcc rfl rfl rfl rfl rfl (hC _ rfl) rfl rfl (fun y1 u1 hy1 => ?_) ; obtain ⟨hy1O, hy1L, hy1F⟩ := hy1 ; have hPc : Ints u1 y1.1 ts.length (cI (cls (ts.map srt))) := ⟨by rw [cI_len, hcl], hy1O.sl⟩)) | (refine r_build hT rfl rfl rfl (ps := [(0, .tmp 17)]) rfl rfl rfl rfl rfl rfl ?_) | (refine c_no rfl h4 ?_) | (refine r_arith rfl rfl rfl rfl rfl rfl rfl (by omega) ?_) | (with_reducible refine r_seq ?_) | (with_reducible refine x_then ?_) | (with_reducible refine r_region ?_) | (with_reducible refine r_skip ?_) | (with_reducible refine r_ret ?_) | (with_reducible refine x_then_ret ?_) | (with_reducible refine r_block ?_) | (with_reducible refine x_block ?_) | (with_reducible refine x_block_ret ?_) | (with_reducible refine r_exit ?_) | (with_reducible refine x_then_exit ?_) | (with_reducible refine x_block_here ?_) | (refine x_block_past rfl ?_) | (refine c_yes rfl (by omega) ?_) | (refine c_no rfl (by omega) ?_) | (refine c_no rfl (fun h => h rfl) ?_) | (refine r_cond_false rfl ?_) | (refine r_cond_true rfl ?_) | (refine r_cond_dec rfl (fun _ => ?_) (fun _ => ?_)) | (refine r_cond_true rfl ?_) | (refine r_cond_false rfl ?_) | (refine c_not rfl (fun _ => ?_) (fun _ => ?_)) | (refine r_off rfl rfl rfl ?_) | (refine q_guard rfl rfl (fun _ => ?_) (fun _ => ?_)) | (refine q_guardn rfl rfl (fun _ => ?_) (fun _ => ?_)))
      refine r_loop (γ := (Nat × Hp) × ((Option Addr × Nat) × (List (List Pr) × (List Hd × Hp)))) (fun g => g.1.1 ≤ ts.length ∧ g.2.2.1 = shT (cls (ts.map srt)) (ts.take g.1.1) ∧ Gr u1 g.1.2 g.2.2.2.2 g.2.1.1 g.2.1.2 g.2.2.2.1 g.2.2.1)
        (fun g => [(2, .p 2 0), (3, .v (.slice y1.1 ts.length y1.2)), (4, .p 4 0), (32, .v (.slice A ts.length c)), (33, .v (.int .i64 (ts.length : Int))), (34, .v (.int .i64 (g.1.1 : Int)))])
        (fun g => [(4, ⟨none, gsv v g.2.1.1 g.2.2.1.length g.2.1.2, 51⟩), (2, ⟨none, [.v (.int .i64 0), .v (.int .i64 0), .v (.string ⟨⟨[]⟩⟩), .v (.int .i64 0), .v (.slice none 0 0)], 51⟩)]) (fun g => g.1.2) (fun g => ts.length - g.1.1)
        ((0, u1), ((none, 0), ([], ([], u1)))) ⟨Nat.zero_le _, rfl, Gr.start u1⟩ (into rfl ⟨rfl, rfl, rfl, rfl, rfl, rfl, trivial⟩ ⟨rfl, rfl, trivial⟩ rfl rfl) ?_
      rintro ⟨⟨i, u⟩, ⟨⟨A2, c2⟩, ⟨L2, ⟨hs2, q2⟩⟩⟩⟩ ⟨hi, hL2, hG2⟩
      dsimp only at *
      have hL2l : L2.length ≤ 2000 := by rw [hL2]; simp [shT]; omega
      have hl1u := hG2.hq.trans hG2.qu
      by_cases hlt : i < ts.length
      · obtain ⟨b0, off0, A0, n0, c0, t, rfl, _, hix, hm0, hat, hc0, hp0⟩ := (hP.le (hy1L.trans hl1u)).elem hlt
        obtain rfl := hp0.1
        have htl := (hCl.tok t hm0).1
        have hsl := (srt_perm t).length_eq
        repeat' (first | (refine r_pure hT rfl rfl rfl rfl ?_) | (refine r_new hT rfl rfl rfl rfl ?_) | (refine r_write hT rfl rfl rfl ?_) | (refine r_nil ?_) | (refine q_nil ?_) | (refine r_indexN hT rfl rfl rfl rfl rfl rfl rfl rfl rfl hlt ?_) | (refine r_load hT hat rfl rfl rfl rfl rfl (Nat.add_zero _).symm rfl rfl rfl rfl rfl ?_) | (refine r_call (sorted90 t A0 t.length c0 u hp0 (fun p hp => hCl.ky hm0 hp) (by omega)) rfl rfl rfl rfl rfl (hC _ rfl) rfl rfl (fun y2 u2 hy2 => ?_)) | (refine r_arith rfl rfl rfl rfl rfl rfl rfl (by omega) ?_) | (with_reducible refine r_seq ?_) | (with_reducible refine x_then ?_) | (with_reducible refine r_region ?_) | (with_reducible refine r_skip ?_) | (with_reducible refine r_ret ?_) | (with_reducible refine x_then_ret ?_) | (with_reducible refine r_block ?_) | (with_reducible refine x_block ?_) | (with_reducible refine x_block_ret ?_) | (with_reducible refine r_exit ?_) | (with_reducible refine x_then_exit ?_) | (with_reducible refine x_block_here ?_) | (refine x_block_past rfl ?_) | (refine c_yes rfl (by omega) ?_) | (refine c_no rfl (by omega) ?_) | (refine c_no rfl (fun h => h rfl) ?_) | (refine r_cond_false rfl ?_) | (refine r_cond_true rfl ?_) | (refine r_cond_dec rfl (fun _ => ?_) (fun _ => ?_)) | (refine r_cond_true rfl ?_) | (refine r_cond_false rfl ?_) | (refine c_not rfl (fun _ => ?_) (fun _ => ?_)) | (refine r_off rfl rfl rfl ?_) | (refine q_guard rfl rfl (fun _ => ?_) (fun _ => ?_)) | (refine q_guardn rfl rfl (fun _ => ?_) (fun _ => ?_)))
        obtain ⟨ys, hz1, hz2, hz3, hz4, hz5⟩ := hy2
        obtain rfl := hCl.uniq hm0 hz1 hz2
        refine r_loop (γ := Nat × Hp) (fun g => g.1 ≤ t.length ∧ Own g.2 y2.1 t.length y2.2 61 8 ((lookT (cls (ts.map srt)) ((srt t).take g.1)).flatMap Pr.c ++ ((srt t).drop g.1).flatMap Pr.c) ∧ ∀ x, blk y2.1 ≠ some x → g.2 x = u2 x)
          (fun g => [(2, .p 2 0), (3, .v (.slice y1.1 ts.length y1.2)), (4, .p 4 0), (32, .v (.slice (some ⟨b0, off0, none⟩) ts.length c)), (33, .v (.int .i64 (ts.length : Int))), (34, .v (.int .i64 (i : Int))), (7, .p 7 0), (42, .v (.int .i64 (t.length : Int))), (43, .v (.int .i64 (g.1 : Int)))])
          (fun _ => [(7, ⟨none, [.v (.slice y2.1 t.length y2.2)], 59⟩), (4, ⟨none, gsv v A2 L2.length c2, 51⟩), (2, ⟨none, [.v (.int .i64 0), .v (.int .i64 0), .v (.string ⟨⟨[]⟩⟩), .v (.int .i64 0), .v (.slice none 0 0)], 51⟩)]) (fun g => g.2) (fun g => t.length - g.1)
          (0, u2) ⟨Nat.zero_le _, by simpa [lookT] using hz3, fun _ _ => rfl⟩ (into rfl ⟨rfl, rfl, rfl, rfl, rfl, rfl, rfl, rfl, rfl, trivial⟩ ⟨rfl, rfl, rfl, trivial⟩ rfl rfl) ?_
        rintro ⟨kk, u5⟩ ⟨hk, hO5, hK5⟩
        dsimp only at *
        have hlu5 : Le u u5 := fun x o hx => by rw [hK5 x (fun e => by rw [hz5 x e] at hx; cases hx)]; exact hz4 x o hx
        by_cases hltk : kk < t.length
        · obtain ⟨b5, off5, e5⟩ := own_some hO5 (by omega : 0 < t.length)
          obtain ⟨p, hixp⟩ : ∃ p, (srt t)[kk]? = some p := ⟨_, List.getElem?_eq_getElem (by omega)⟩
          have hdp : (srt t).drop kk = p :: (srt t).drop (kk + 1) := by
            obtain ⟨g1, g2⟩ := List.getElem?_eq_some_iff.1 hixp
            rw [List.drop_eq_getElem_cons g1, g2]
          have hmp : p ∈ t := (srt_perm t).mem_iff.1 (List.mem_of_getElem? hixp)
          have hpre : ((lookT (cls (ts.map srt)) ((srt t).take kk)).flatMap Pr.c).length = kk * 8 := by rw [flat_length Pr.c_len]; simp [lookT]; omega
          rw [hdp, List.flatMap_cons] at hO5
          obtain ⟨y2A, y2c⟩ := y2
          dsimp only at *
          subst e5
          have hatp : At u5 b5 (off5 + kk * 8) p.c := by
            obtain ⟨_, arr, g1, _, g3⟩ := hO5.row _ rfl
            refine ⟨arr, _, _, g1, fun j x hj => ?_⟩
            rw [Nat.add_assoc]
            refine g3 (kk * 8 + j) x ?_
            rw [List.getElem?_append_right (by omega), hpre, show kk * 8 + j - kk * 8 = j by omega, List.getElem?_append_left (List.getElem?_eq_some_iff.1 hj).1]
            exact hj
          have fin : (lookT (cls (ts.map srt)) ((srt t).take (kk + 1))).flatMap Pr.c = (lookT (cls (ts.map srt)) ((srt t).take kk)).flatMap Pr.c ++ Pr.c ⟨p.key, lk (cls (ts.map srt)) p.val⟩ := by rw [take_snoc hixp]; simp [lookT]
          have hK6 : ∀ x, x ≠ b5 → u5 x = u2 x := fun x hx => hK5 x (fun e => hx (Option.some.inj e).symm)
          by_cases h5 : p.val.k = 4
          · have hva := hCl.inAll t hm0 p hmp h5
            obtain ⟨bc, offc, pc, ec, _, hixc, _, hatc⟩ := (hPc.le (hl1u.trans hlu5)).elem Ic_len (i := p.val.a.toNat) (by rw [cI_len, hcl]; omega)
            obtain rfl := cI_get hixc
            rw [lkP_yes h5] at fin
            obtain ⟨y1A, y1c⟩ := y1
            dsimp only at *
            subst ec
            repeat' (first | (refine r_pure hT rfl rfl rfl rfl ?_) | (refine r_new hT rfl rfl rfl rfl ?_) | (refine r_write hT rfl rfl rfl ?_) | (refine r_nil ?_) | (refine q_nil ?_) | (refine r_indexN hT rfl rfl rfl rfl rfl rfl rfl rfl rfl hltk ?_) | (refine r_load hT hatp rfl rfl rfl rfl rfl rfl rfl rfl rfl rfl rfl ?_) | (refine r_load (f := 7) hT hatp rfl rfl rfl rfl rfl (Nat.add_assoc _ 4 3) rfl rfl rfl rfl rfl ?_) | (refine c_yes rfl h5 ?_) | (refine r_manyD (id := 15) [0, 1, 2, 3, 4, 5, 6, 7, 8, 9, 10, 11, 12, 13, 14, 15] [16] u5 (Le.refl u5) hM (by kernel_rfl) rfl (by kernel_rfl) rfl rfl rfl (fun β0 => ?_)) | (refine r_index hT rfl rfl rfl rfl rfl rfl rfl rfl rfl hva.1 hva.2 ?_) | (refine r_load hT hatc rfl rfl rfl rfl rfl (Nat.add_zero _).symm rfl rfl rfl rfl rfl ?_) | (refine r_store_row2 (f1 := 4) (f2 := 3) hT hO5 hK6 rfl rfl rfl rfl (by rw [hpre]) rfl rfl rfl rfl rfl rfl rfl (fun u6 hO6 hK7 => ?_)) | (refine m_late rfl rfl ?_) | (refine r_arith rfl rfl rfl rfl rfl rfl rfl (by omega) ?_) | (with_reducible refine r_seq ?_) | (with_reducible refine x_then ?_) | (with_reducible refine r_region ?_) | (with_reducible refine r_skip ?_) | (with_reducible refine r_ret ?_) | (with_reducible refine x_then_ret ?_) | (with_reducible refine r_block ?_) | (with_reducible refine x_block ?_) | (with_reducible refine x_block_ret ?_) | (with_reducible refine r_exit ?_) | (with_reducible refine x_then_exit ?_) | (with_reducible refine x_block_here ?_) | (refine x_block_past rfl ?_) | (refine c_yes rfl (by omega) ?_) | (refine c_no rfl (by omega) ?_) | (refine c_no rfl (fun h => h rfl) ?_) | (refine r_cond_false rfl ?_) | (refine r_cond_true rfl ?_) | (refine r_cond_dec rfl (fun _ => ?_) (fun _ => ?_)) | (refine r_cond_true rfl ?_) | (refine r_cond_false rfl ?_) | (refine c_not rfl (fun _ => ?_) (fun _ => ?_)) | (refine r_off rfl rfl rfl ?_) | (refine q_guard rfl rfl (fun _ => ?_) (fun _ => ?_)) | (refine q_guardn rfl rfl (fun _ => ?_) (fun _ => ?_)) | (refine s_nil ?_) | (with_reducible refine a_full ?_) | (refine m_step rfl rfl (List.cons_ne_nil _ _) ?_) | (refine allR_cons rfl ?_ ?_) | (exact allR_nil) | (refine m_end rfl rfl rfl ?_))
            exact x_round (kk + 1, u6) ⟨hltk, own_eq (ds := (lookT (cls (ts.map srt)) ((srt t).take (kk + 1))).flatMap Pr.c ++ ((srt t).drop (kk + 1)).flatMap Pr.c) hO6 (by rw [fin, List.append_assoc]; rfl), fun x hx => hK7 x (fun e => hx (by rw [e]; rfl))⟩ (by dsimp only; omega) (into rfl ⟨rfl, rfl, rfl, rfl, rfl, rfl, rfl, rfl, rfl, trivial⟩ ⟨rfl, rfl, rfl, trivial⟩ rfl rfl)
          · rw [lkP_no h5] at fin
            repeat' (first | (refine r_pure hT rfl rfl rfl rfl ?_) | (refine r_new hT rfl rfl rfl rfl ?_) | (refine r_write hT rfl rfl rfl ?_) | (refine r_nil ?_) | (refine q_nil ?_) | (refine r_indexN hT rfl rfl rfl rfl rfl rfl rfl rfl rfl hltk ?_) | (refine r_load hT hatp rfl rfl rfl rfl rfl rfl rfl rfl rfl rfl rfl ?_) | (refine c_no rfl h5 ?_) | (refine r_arith rfl rfl rfl rfl rfl rfl rfl (by omega) ?_) | (with_reducible refine r_seq ?_) | (with_reducible refine x_then ?_) | (with_reducible refine r_region ?_) | (with_reducible refine r_skip ?_) | (with_reducible refine r_ret ?_) | (with_reducible refine x_then_ret ?_) | (with_reducible refine r_block ?_) | (with_reducible refine x_block ?_) | (with_reducible refine x_block_ret ?_) | (with_reducible refine r_exit ?_) | (with_reducible refine x_then_exit ?_) | (with_reducible refine x_block_here ?_) | (refine x_block_past rfl ?_) | (refine c_yes rfl (by omega) ?_) | (refine c_no rfl (by omega) ?_) | (refine c_no rfl (fun h => h rfl) ?_) | (refine r_cond_false rfl ?_) | (refine r_cond_true rfl ?_) | (refine r_cond_dec rfl (fun _ => ?_) (fun _ => ?_)) | (refine r_cond_true rfl ?_) | (refine r_cond_false rfl ?_) | (refine c_not rfl (fun _ => ?_) (fun _ => ?_)) | (refine r_off rfl rfl rfl ?_) | (refine q_guard rfl rfl (fun _ => ?_) (fun _ => ?_)) | (refine q_guardn rfl rfl (fun _ => ?_) (fun _ => ?_)))
            exact x_round (kk + 1, u5) ⟨hltk, own_eq (ds := (lookT (cls (ts.map srt)) ((srt t).take (kk + 1))).flatMap Pr.c ++ ((srt t).drop (kk + 1)).flatMap Pr.c) hO5 (by rw [fin, List.append_assoc]), hK5⟩ (by dsimp only; omega) (into rfl ⟨rfl, rfl, rfl, rfl, rfl, rfl, rfl, rfl, rfl, trivial⟩ ⟨rfl, rfl, rfl, trivial⟩ rfl rfl)
        · obtain rfl : kk = t.length := by omega
          rw [← hsl, List.take_length, List.drop_length, List.flatMap_nil, List.append_nil, hsl] at hO5
          repeat' (first | (refine r_pure hT rfl rfl rfl rfl ?_) | (refine r_new hT rfl rfl rfl rfl ?_) | (refine r_write hT rfl rfl rfl ?_) | (refine r_nil ?_) | (refine q_nil ?_) | (refine r_bslice (t := 49) hT (ps := [(0, .tmp 73)]) rfl rfl rfl rfl rfl rfl rfl (by simp) rfl rfl (by decide) (fun b3 hb3 => ?_)) | (refine r_append (t := 49) hT (cs := hs2.flatMap Hd.v) (news := [(⟨y2.1, t.length, y2.2⟩ : Hd)].flatMap Hd.v) rfl rfl rfl rfl rfl rfl rfl rfl rfl rfl rfl (own_fr (hG2.own.le fun b o _ => hlu5 b o) hb3) (sl_blk (upd_here ..) rfl) (heads_one _) (by dsimp only; omega) (by omega) (fun A6 c6 u6 hO6 hG6 => ?_)) | (refine r_arith rfl rfl rfl rfl rfl rfl rfl (by omega) ?_) | (with_reducible refine r_seq ?_) | (with_reducible refine x_then ?_) | (with_reducible refine r_region ?_) | (with_reducible refine r_skip ?_) | (with_reducible refine r_ret ?_) | (with_reducible refine x_then_ret ?_) | (with_reducible refine r_block ?_) | (with_reducible refine x_block ?_) | (with_reducible refine x_block_ret ?_) | (with_reducible refine r_exit ?_) | (with_reducible refine x_then_exit ?_) | (with_reducible refine x_block_here ?_) | (refine x_block_past rfl ?_) | (refine c_yes rfl (by omega) ?_) | (refine c_no rfl (by omega) ?_) | (refine c_no rfl (fun h => h rfl) ?_) | (refine r_cond_false rfl ?_) | (refine r_cond_true rfl ?_) | (refine r_cond_dec rfl (fun _ => ?_) (fun _ => ?_)) | (refine r_cond_true rfl ?_) | (refine r_cond_false rfl ?_) | (refine c_not rfl (fun _ => ?_) (fun _ => ?_)) | (refine r_off rfl rfl rfl ?_) | (refine q_guard rfl rfl (fun _ => ?_) (fun _ => ?_)) | (refine q_guardn rfl rfl (fun _ => ?_) (fun _ => ?_)))
          have hG7 := hG2.push (t := lookT (cls (ts.map srt)) (srt t)) hlu5 (le_frsh (Le.refl u5) hb3) (y := ⟨y2.1, t.length, y2.2⟩) hO5 hz5 hO6 hG6
          have hL3 : L2 ++ [lookT (cls (ts.map srt)) (srt t)] = shT (cls (ts.map srt)) (ts.take (i + 1)) := by rw [hL2, take_snoc hix]; simp [shT]
          exact x_round ((i + 1, u6), ((A6, c6), (L2 ++ [lookT (cls (ts.map srt)) (srt t)], (_, _)))) ⟨hlt, hL3, hG7⟩ (by dsimp only; omega) (into rfl ⟨rfl, rfl, rfl, rfl, rfl, rfl, trivial⟩ ⟨congrArg (fun z => some (⟨none, gsv v A6 z c6, 51⟩ : Blk)) (by simp), rfl, trivial⟩ rfl rfl)
      · obtain rfl : i = ts.length := by omega
        rw [List.take_length] at hL2
        subst L2
        repeat' (first | (refine r_pure hT rfl rfl rfl rfl ?_) | (refine r_new hT rfl rfl rfl rfl ?_) | (refine r_write hT rfl rfl rfl ?_) | (refine r_nil ?_) | (refine q_nil ?_) | (refine r_call (l2canon v (shT (cls (ts.map srt)) ts) A2 _ c2 u hG2.tabs (gok_in hgS).1 hinS (by omega) (fun t ht => Nat.le_trans ((gok_in hgS).2.2.2 t ht) (by decide))) rfl rfl rfl rfl rfl (hC _ rfl) rfl rfl (fun y8 u8 hy8 => ?_)) | (refine r_arith rfl rfl rfl rfl rfl rfl rfl (by omega) ?_) | (with_reducible refine r_seq ?_) | (with_reducible refine x_then ?_) | (with_reducible refine r_region ?_) | (with_reducible refine r_skip ?_) | (with_reducible refine r_ret ?_) | (with_reducible refine x_then_ret ?_) | (with_reducible refine r_block ?_) | (with_reducible refine x_block ?_) | (with_reducible refine x_block_ret ?_) | (with_reducible refine r_exit ?_) | (with_reducible refine x_then_exit ?_) | (with_reducible refine x_block_here ?_) | (refine x_block_past rfl ?_) | (refine c_yes rfl (by omega) ?_) | (refine c_no rfl (by omega) ?_) | (refine c_no rfl (fun h => h rfl) ?_) | (refine r_cond_false rfl ?_) | (refine r_cond_true rfl ?_) | (refine r_cond_dec rfl (fun _ => ?_) (fun _ => ?_)) | (refine r_cond_true rfl ?_) | (refine r_cond_false rfl ?_) | (refine c_not rfl (fun _ => ?_) (fun _ => ?_)) | (refine r_off rfl rfl rfl ?_) | (refine q_guard rfl rfl (fun _ => ?_) (fun _ => ?_)) | (refine q_guardn rfl rfl (fun _ => ?_) (fun _ => ?_)))
        exact r_fin hT rfl y8 rfl rfl rfl trivial rfl ⟨hy8.1, (hy1L.trans hl1u).trans hy8.2⟩
  · rw [decide_eq_false hg] at hs1
    have e1 : kV v ts = V0 := if_neg hg
    have e2 : kT v ts = [] := if_neg hg
    rw [e1, e2]
    repeat' (first | (refine r_pure hT rfl rfl rfl rfl ?_) | (refine r_new hT rfl rfl rfl rfl ?_) | (refine r_write hT rfl rfl rfl ?_) | (refine r_nil ?_) | (refine q_nil ?_) | (refine p_call hs1 rfl rfl rfl rfl rfl (hC _ rfl) rfl rfl rfl ?_) | (refine r_build hT rfl rfl rfl (ps := []) rfl rfl rfl rfl rfl rfl ?_) | (refine r_arith rfl rfl rfl rfl rfl rfl rfl (by omega) ?_) | (with_reducible refine r_seq ?_) | (with_reducible refine x_then ?_) | (with_reducible refine r_region ?_) | (with_reducible refine r_skip ?_) | (with_reducible refine r_ret ?_) | (with_reducible refine x_then_ret ?_) | (with_reducible refine r_block ?_) | (with_reducible refine x_block ?_) | (with_reducible refine x_block_ret ?_) | (with_reducible refine r_exit ?_) | (with_reducible refine x_then_exit ?_) | (with_reducible refine x_block_here ?_) | (refine x_block_past rfl ?_) | (refine c_yes rfl (by omega) ?_) | (refine c_no rfl (by omega) ?_) | (refine c_no rfl (fun h => h rfl) ?_) | (refine r_cond_false rfl ?_) | (refine r_cond_true rfl ?_) | (refine r_cond_dec rfl (fun _ => ?_) (fun _ => ?_)) | (refine r_cond_true rfl ?_) | (refine r_cond_false rfl ?_) | (refine c_not rfl (fun _ => ?_) (fun _ => ?_)) | (refine r_off rfl rfl rfl ?_) | (refine q_guard rfl rfl (fun _ => ?_) (fun _ => ?_)) | (refine q_guardn rfl rfl (fun _ => ?_) (fun _ => ?_)))
    exact r_fin hT rfl ((none, 0) : Option Addr × Nat) rfl rfl rfl trivial rfl ⟨tabs_nil h, Le.refl h⟩
end Go.Proofs.YtkamfnmbidnhdaaDoor
