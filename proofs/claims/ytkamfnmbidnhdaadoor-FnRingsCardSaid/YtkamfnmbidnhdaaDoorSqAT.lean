/- impl.Shrink. No condition. -/
import Derived.Test.YtkamfnmbidnhdaaDoorSqAM
import Derived.Test.YtkamfnmbidnhdaaDoorSqAL
import Derived.Test.YtkamfnmbidnhdaaDoorSqAS
set_option linter.unusedVariables false
set_option linter.unusedSimpArgs false
set_option linter.unusedSectionVars false
namespace Go.Proofs.YtkamfnmbidnhdaaDoor
open Go.Sy
set_option maxRecDepth 100000
set_option maxHeartbeats 8000000
set_option linter.unusedVariables false
set_option linter.unusedSimpArgs false
theorem lead77 (v : V) (C : List Nat) (A : Option Addr) (n cc pc : Nat) (h : Hp) (hpc : At h pc 0 [.slice A n cc]) (hP : Ints h A n (cI C)) (hv : In C.length v) :
    Pur Tryd.prog 77 [.ag v.sv, .v (.pointer (some ⟨pc, 0, none⟩))] h (fun y : V => .ag y.sv) (lk C v) := by
  have hnn := hP.1
  rw [cI_len] at hnn
  subst hnn
  refine enterS Tryd.func77 rfl (n := 14) rfl rfl (fun k N => ?_)
  by_cases h4 : v.k = 4
  · have hva := hv h4
    have hlk : lk C v = ⟨v.k, v.n, v.s, (at0 C v.a.toNat : Nat)⟩ := by unfold lk; rw [if_pos h4]; rfl
    obtain ⟨b, off, q, rfl, _, hix, _, hat⟩ := hP.elem Ic_len (i := v.a.toNat) (by rw [cI_len]; omega)
    obtain rfl := cI_get hix
    repeat' (first | (refine r_pure hT rfl rfl rfl rfl ?_) | (refine r_new hT rfl rfl rfl rfl ?_) | (refine r_write hT rfl rfl rfl ?_) | (refine r_nil ?_) | (refine q_nil ?_) | (refine c_yes rfl h4 ?_) | (refine r_load hT hpc rfl rfl rfl rfl rfl (Nat.add_zero _).symm rfl rfl rfl rfl rfl ?_) | (refine r_index hT rfl rfl rfl rfl rfl rfl rfl rfl rfl hva.1 hva.2 ?_) | (refine r_load hT hat rfl rfl rfl rfl rfl (Nat.add_zero _).symm rfl rfl rfl rfl rfl ?_) | (refine r_arith rfl rfl rfl rfl rfl rfl rfl (by omega) ?_) | (with_reducible refine r_seq ?_) | (with_reducible refine x_then ?_) | (with_reducible refine r_region ?_) | (refine r_draw hM (by kernel_rfl) ?_) | (with_reducible refine r_skip ?_) | (with_reducible refine r_ret ?_) | (with_reducible refine x_then_ret ?_) | (with_reducible refine r_block ?_) | (with_reducible refine x_block ?_) | (with_reducible refine x_block_ret ?_) | (with_reducible refine r_exit ?_) | (with_reducible refine x_then_exit ?_) | (with_reducible refine x_block_here ?_) | (refine x_block_past rfl ?_) | (refine c_yes rfl (by omega) ?_) | (refine c_no rfl (by omega) ?_) | (refine c_no rfl (fun h => h rfl) ?_) | (refine r_cond_false rfl ?_) | (refine r_cond_true rfl ?_) | (refine r_cond_dec rfl (fun _ => ?_) (fun _ => ?_)) | (refine r_cond_true rfl ?_) | (refine r_cond_false rfl ?_) | (refine c_not rfl (fun _ => ?_) (fun _ => ?_)) | (refine r_off rfl rfl rfl ?_) | (refine q_guard rfl rfl (fun _ => ?_) (fun _ => ?_)) | (refine q_guardn rfl rfl (fun _ => ?_) (fun _ => ?_)))
    exact r_fin hT rfl (⟨v.k, v.n, v.s, (at0 C v.a.toNat : Nat)⟩ : V) rfl rfl rfl trivial rfl ⟨hlk.symm, rfl⟩
  · have hlk : lk C v = v := by unfold lk; rw [if_neg h4]
    repeat' (first | (refine r_pure hT rfl rfl rfl rfl ?_) | (refine r_new hT rfl rfl rfl rfl ?_) | (refine r_write hT rfl rfl rfl ?_) | (refine r_nil ?_) | (refine q_nil ?_) | (refine c_no rfl h4 ?_) | (refine r_arith rfl rfl rfl rfl rfl rfl rfl (by omega) ?_) | (with_reducible refine r_seq ?_) | (with_reducible refine x_then ?_) | (with_reducible refine r_region ?_) | (refine r_draw hM (by kernel_rfl) ?_) | (with_reducible refine r_skip ?_) | (with_reducible refine r_ret ?_) | (with_reducible refine x_then_ret ?_) | (with_reducible refine r_block ?_) | (with_reducible refine x_block ?_) | (with_reducible refine x_block_ret ?_) | (with_reducible refine r_exit ?_) | (with_reducible refine x_then_exit ?_) | (with_reducible refine x_block_here ?_) | (refine x_block_past rfl ?_) | (refine c_yes rfl (by omega) ?_) | (refine c_no rfl (by omega) ?_) | (refine c_no rfl (fun h => h rfl) ?_) | (refine r_cond_false rfl ?_) | (refine r_cond_true rfl ?_) | (refine r_cond_dec rfl (fun _ => ?_) (fun _ => ?_)) | (refine r_cond_true rfl ?_) | (refine r_cond_false rfl ?_) | (refine c_not rfl (fun _ => ?_) (fun _ => ?_)) | (refine r_off rfl rfl rfl ?_) | (refine q_guard rfl rfl (fun _ => ?_) (fun _ => ?_)) | (refine q_guardn rfl rfl (fun _ => ?_) (fun _ => ?_)))
    exact r_fin hT rfl v rfl rfl rfl trivial rfl ⟨hlk.symm, rfl⟩
theorem implShrink (v : V) (ts : List (List Pr)) (A : Option Addr) (n c : Nat) (h : Hp) (hP : Tabs h A n ts) (hr : RngG v ts) (ht10 : Tab10 h) :
    TriS Tryd.prog 36 [.ag (gsv v A n c)] [] h (fun y : OY => .ag (gsv (kV v ts) y.1.1 (kT v ts).length y.1.2)) (fun _ => []) (fun y h' => OT h' 59 61 y.1.1 (kT v ts).length y.1.2 y.2 (kT v ts) ∧ Le h h' ∧ OffAll h y.1.1 y.2) := by
  have hnn := hP.len
  subst hnn
  refine enterS Tryd.func36 rfl (n := 59) rfl rfl (fun k N => ?_)
  have hk1 := implOk v ts A ts.length c h hP
  by_cases hg : GOk v ts
  · simp only [decide_eq_true hg] at hk1
    have hCl := gok_cl hg hr
    have hgS := gok_shT hg
    have hcl : (cls (ts.map srt)).length = ts.length := by rw [cls_len _ hCl.inSrt, List.length_map]
    have e1 : kV v ts = cV (lk (cls (ts.map srt)) v) (shT (cls (ts.map srt)) ts) := if_pos hg
    have e2 : kT v ts = cT (lk (cls (ts.map srt)) v) (shT (cls (ts.map srt)) ts) := if_pos hg
    rw [e1, e2]
    have hia := (gok_in hg).2.1
    have hn2 := hg.1
    have hinv : In (cls (ts.map srt)).length v := fun e => by have := hia e; omega
    repeat' (first | (refine r_pure hT rfl rfl rfl rfl ?_) | (refine r_new hT rfl rfl rfl rfl ?_) | (refine r_write hT rfl rfl rfl ?_) | (refine r_nil ?_) | (refine q_nil ?_) | ((refine r_call hk1 rfl rfl rfl rfl rfl (hC _ rfl) rfl rfl (fun y0 u0 hy0 => ?_) ; obtain ⟨hy0, hle0⟩ := hy0 ; subst hy0)) | ((refine r_call (classes76 ts A ts.length c _ (hP.le hle0) hCl (ht10.le hle0)) rfl rfl rfl rfl rfl (hC _ rfl) rfl rfl (fun y1 u1 hy1 => ?_) ; obtain ⟨hy1O, hy1L, hy1F⟩ := hy1 ; have hPc1 : Ints u1 y1.1 ts.length (cI (cls (ts.map srt))) := ⟨by rw [cI_len, hcl], hy1O.sl⟩)) | (refine r_arith rfl rfl rfl rfl rfl rfl rfl (by omega) ?_) | (with_reducible refine r_seq ?_) | (with_reducible refine x_then ?_) | (with_reducible refine r_region ?_) | (refine r_draw hM (by kernel_rfl) ?_) | (with_reducible refine r_skip ?_) | (with_reducible refine r_ret ?_) | (with_reducible refine x_then_ret ?_) | (with_reducible refine r_block ?_) | (with_reducible refine x_block ?_) | (with_reducible refine x_block_ret ?_) | (with_reducible refine r_exit ?_) | (with_reducible refine x_then_exit ?_) | (with_reducible refine x_block_here ?_) | (refine x_block_past rfl ?_) | (refine c_yes rfl (by omega) ?_) | (refine c_no rfl (by omega) ?_) | (refine c_no rfl (fun h => h rfl) ?_) | (refine r_cond_false rfl ?_) | (refine r_cond_true rfl ?_) | (refine r_cond_dec rfl (fun _ => ?_) (fun _ => ?_)) | (refine r_cond_true rfl ?_) | (refine r_cond_false rfl ?_) | (refine c_not rfl (fun _ => ?_) (fun _ => ?_)) | (refine r_off rfl rfl rfl ?_) | (refine q_guard rfl rfl (fun _ => ?_) (fun _ => ?_)) | (refine q_guardn rfl rfl (fun _ => ?_) (fun _ => ?_)))
    refine r_pub 3 (fun _ => [Value.slice y1.1 ts.length y1.2]) rfl rfl (fun _ => rfl) (fun pc hpc => ?_)
    change u1 pc = none at hpc
    have hAtc : At (upd u1 pc (.cells [Value.slice y1.1 ts.length y1.2].toArray 25 (0, 0))) pc 0 [.slice y1.1 ts.length y1.2] := ⟨_, _, _, upd_here .., fun j v hj => by simpa using hj⟩
    have hl01 := hle0.trans hy1L
    have hlpc := le_frsh (o := (.cells [Value.slice y1.1 ts.length y1.2].toArray 25 (0, 0))) (Le.refl u1) hpc
    have hPc := hPc1.le hlpc
    have hPB := hP.le (hl01.trans hlpc)
    have h0B : Le h (upd u1 pc (.cells [Value.slice y1.1 ts.length y1.2].toArray 25 (0, 0))) := hl01.trans hlpc
    have htB := ht10.le h0B
    generalize upd u1 pc (.cells [Value.slice y1.1 ts.length y1.2].toArray 25 (0, 0)) = uB at *
    repeat' (first | (refine r_pure hT rfl rfl rfl rfl ?_) | (refine r_new hT rfl rfl rfl rfl ?_) | (refine r_write hT rfl rfl rfl ?_) | (refine r_nil ?_) | (refine q_nil ?_) | ((refine r_callF (lead77 v (cls (ts.map srt)) y1.1 ts.length y1.2 pc uB hAtc hPc hinv) rfl rfl rfl rfl rfl (hC 77 rfl) rfl rfl (fun yz uz hyz => ?_) ; obtain ⟨hyz1, hyz2⟩ := hyz ; subst hyz1 ; subst uz)) | (refine r_build hT rfl rfl rfl (ps := [(0, .tmp 21)]) rfl rfl rfl rfl rfl rfl ?_) | (refine r_arith rfl rfl rfl rfl rfl rfl rfl (by omega) ?_) | (with_reducible refine r_seq ?_) | (with_reducible refine x_then ?_) | (with_reducible refine r_region ?_) | (refine r_draw hM (by kernel_rfl) ?_) | (with_reducible refine r_skip ?_) | (with_reducible refine r_ret ?_) | (with_reducible refine x_then_ret ?_) | (with_reducible refine r_block ?_) | (with_reducible refine x_block ?_) | (with_reducible refine x_block_ret ?_) | (with_reducible refine r_exit ?_) | (with_reducible refine x_then_exit ?_) | (with_reducible refine x_block_here ?_) | (refine x_block_past rfl ?_) | (refine c_yes rfl (by omega) ?_) | (refine c_no rfl (by omega) ?_) | (refine c_no rfl (fun h => h rfl) ?_) | (refine r_cond_false rfl ?_) | (refine r_cond_true rfl ?_) | (refine r_cond_dec rfl (fun _ => ?_) (fun _ => ?_)) | (refine r_cond_true rfl ?_) | (refine r_cond_false rfl ?_) | (refine c_not rfl (fun _ => ?_) (fun _ => ?_)) | (refine r_off rfl rfl rfl ?_) | (refine q_guard rfl rfl (fun _ => ?_) (fun _ => ?_)) | (refine q_guardn rfl rfl (fun _ => ?_) (fun _ => ?_)))
    refine r_loop (γ := (Nat × Hp) × ((Option Addr × Nat) × (List (List Pr) × (List Hd × Hp)))) (fun g => g.1.1 ≤ ts.length ∧ g.2.2.1 = shT (cls (ts.map srt)) (ts.take g.1.1) ∧ Gr uB g.1.2 g.2.2.2.2 g.2.1.1 g.2.1.2 g.2.2.2.1 g.2.2.1)
      (fun g => [(2, .p 2 0), (4, .fn (.func 77) [] [.v (.pointer (some ⟨pc, 0, none⟩))]), (5, .p 5 0), (24, .v (.slice A ts.length c)), (25, .v (.int .i64 (ts.length : Int))), (26, .v (.int .i64 (g.1.1 : Int)))])
      (fun g => [(5, ⟨none, gsv (lk (cls (ts.map srt)) v) g.2.1.1 g.2.2.1.length g.2.1.2, 51⟩), (2, ⟨none, [.v (.int .i64 0), .v (.int .i64 0), .v (.string ⟨⟨[]⟩⟩), .v (.int .i64 0), .v (.slice none 0 0)], 51⟩)]) (fun g => g.1.2) (fun g => ts.length - g.1.1)
      ((0, uB), ((none, 0), ([], ([], uB)))) ⟨Nat.zero_le _, rfl, Gr.start uB⟩ (into rfl ⟨rfl, rfl, rfl, rfl, rfl, rfl, trivial⟩ ⟨rfl, rfl, trivial⟩ rfl rfl) ?_
    rintro ⟨⟨i, u⟩, ⟨⟨A2, c2⟩, ⟨L2, ⟨hs2, q2⟩⟩⟩⟩ ⟨hi, hL2, hG2⟩
    dsimp only at *
    have hL2l : L2.length ≤ 2000 := by rw [hL2]; simp [shT]; omega
    have hlBu := hG2.hq.trans hG2.qu
    by_cases hlt : i < ts.length
    · obtain ⟨b0, off0, A0, n0, c0, t, rfl, _, hix, hm0, hat, hc0, hp0⟩ := (hPB.le hlBu).elem hlt
      obtain rfl := hp0.1
      have htl := (hCl.tok t hm0).1
      have hsl := (srt_perm t).length_eq
      repeat' (first | (refine r_pure hT rfl rfl rfl rfl ?_) | (refine r_new hT rfl rfl rfl rfl ?_) | (refine r_write hT rfl rfl rfl ?_) | (refine r_nil ?_) | (refine q_nil ?_) | (refine r_indexN hT rfl rfl rfl rfl rfl rfl rfl rfl rfl hlt ?_) | (refine r_load hT hat rfl rfl rfl rfl rfl (Nat.add_zero _).symm rfl rfl rfl rfl rfl ?_) | (refine r_call (sorted78 t A0 t.length c0 u hp0 (fun p hp => hCl.kd hm0 hp) (by omega)) rfl rfl rfl rfl rfl (hC _ rfl) rfl rfl (fun y2 u2 hy2 => ?_)) | (refine r_arith rfl rfl rfl rfl rfl rfl rfl (by omega) ?_) | (with_reducible refine r_seq ?_) | (with_reducible refine x_then ?_) | (with_reducible refine r_region ?_) | (with_reducible refine r_skip ?_) | (with_reducible refine r_ret ?_) | (with_reducible refine x_then_ret ?_) | (with_reducible refine r_block ?_) | (with_reducible refine x_block ?_) | (with_reducible refine x_block_ret ?_) | (with_reducible refine r_exit ?_) | (with_reducible refine x_then_exit ?_) | (with_reducible refine x_block_here ?_) | (refine x_block_past rfl ?_) | (refine c_yes rfl (by omega) ?_) | (refine c_no rfl (by omega) ?_) | (refine c_no rfl (fun h => h rfl) ?_) | (refine r_cond_false rfl ?_) | (refine r_cond_true rfl ?_) | (refine r_cond_dec rfl (fun _ => ?_) (fun _ => ?_)) | (refine r_cond_true rfl ?_) | (refine r_cond_false rfl ?_) | (refine c_not rfl (fun _ => ?_) (fun _ => ?_)) | (refine r_off rfl rfl rfl ?_) | (refine q_guard rfl rfl (fun _ => ?_) (fun _ => ?_)) | (refine q_guardn rfl rfl (fun _ => ?_) (fun _ => ?_)))
      obtain ⟨ys, hz1, hz2, hz3, hz4, hz5⟩ := hy2
      obtain rfl := hCl.uniq hm0 hz1 hz2
      refine r_loop (γ := Nat × Hp) (fun g => g.1 ≤ t.length ∧ Own g.2 y2.1 t.length y2.2 61 8 ((lookT (cls (ts.map srt)) ((srt t).take g.1)).flatMap Pr.c ++ ((srt t).drop g.1).flatMap Pr.c) ∧ ∀ x, blk y2.1 ≠ some x → g.2 x = u2 x)
        (fun g => [(2, .p 2 0), (4, .fn (.func 77) [] [.v (.pointer (some ⟨pc, 0, none⟩))]), (5, .p 5 0), (24, .v (.slice (some ⟨b0, off0, none⟩) ts.length c)), (25, .v (.int .i64 (ts.length : Int))), (26, .v (.int .i64 (i : Int))), (8, .v (.slice y2.1 t.length y2.2)), (33, .v (.int .i64 (t.length : Int))), (34, .v (.int .i64 (g.1 : Int)))])
        (fun _ => [(5, ⟨none, gsv (lk (cls (ts.map srt)) v) A2 L2.length c2, 51⟩), (2, ⟨none, [.v (.int .i64 0), .v (.int .i64 0), .v (.string ⟨⟨[]⟩⟩), .v (.int .i64 0), .v (.slice none 0 0)], 51⟩)]) (fun g => g.2) (fun g => t.length - g.1)
        (0, u2) ⟨Nat.zero_le _, by simpa [lookT] using hz3, fun _ _ => rfl⟩ (into rfl ⟨rfl, rfl, rfl, rfl, rfl, rfl, rfl, rfl, rfl, trivial⟩ ⟨rfl, rfl, trivial⟩ rfl rfl) ?_
      rintro ⟨kk, u5⟩ ⟨hk, hO5, hK5⟩
      dsimp only at *
      have hlu5 : Le u u5 := fun x o hx => by rw [hK5 x (fun e => by rw [hz5 x e] at hx; cases hx)]; exact hz4 x o hx
      by_cases hltk : kk < t.length
      · obtain ⟨b5, off5, e5⟩ := own_some hO5 (by omega : 0 < t.length)
        obtain ⟨p, hixp⟩ : ∃ p, (srt t)[kk]? = some p := ⟨_, List.getElem?_eq_getElem (by omega)⟩
        have hdp : (srt t).drop kk = p :: (srt t).drop (kk + 1) := by
          obtain ⟨g1, g2⟩ := List.getElem?_eq_some_iff.1 hixp
          rw [List.drop_eq_getElem_cons g1, g2]
        have hmp : p ∈ t := (srt_perm t).mem_iff.1 (List.mem_of_getElem? hixp)
        have hpre : ((lookT (cls (ts.map srt)) ((srt t).take kk)).flatMap Pr.c).length = kk * 8 := by rw [flat_length Pr.c_len]; simp [lookT]; omega
        rw [hdp, List.flatMap_cons] at hO5
        obtain ⟨y2A, y2c⟩ := y2
        dsimp only at *
        subst e5
        have hatp : At u5 b5 (off5 + kk * 8) p.c := by
          obtain ⟨_, arr, g1, _, g3⟩ := hO5.row _ rfl
          refine ⟨arr, _, _, g1, fun j x hj => ?_⟩
          rw [Nat.add_assoc]
          refine g3 (kk * 8 + j) x ?_
          rw [List.getElem?_append_right (by omega), hpre, show kk * 8 + j - kk * 8 = j by omega, List.getElem?_append_left (List.getElem?_eq_some_iff.1 hj).1]
          exact hj
        have fin : (lookT (cls (ts.map srt)) ((srt t).take (kk + 1))).flatMap Pr.c = (lookT (cls (ts.map srt)) ((srt t).take kk)).flatMap Pr.c ++ Pr.c ⟨p.key, lk (cls (ts.map srt)) p.val⟩ := by rw [take_snoc hixp]; simp [lookT]
        have hK6 : ∀ x, x ≠ b5 → u5 x = u2 x := fun x hx => hK5 x (fun e => hx (Option.some.inj e).symm)
        have hinp : In (cls (ts.map srt)).length p.val := fun e => by have := hCl.inAll t hm0 p hmp e; omega
        have hld := lead77 p.val (cls (ts.map srt)) y1.1 ts.length y1.2 pc u5 (hAtc.le (hlBu.trans hlu5)) (hPc.le (hlBu.trans hlu5)) hinp
        generalize hlv : lk (cls (ts.map srt)) p.val = lv at *
        repeat' (first | (refine r_pure hT rfl rfl rfl rfl ?_) | (refine r_new hT rfl rfl rfl rfl ?_) | (refine r_write hT rfl rfl rfl ?_) | (refine r_nil ?_) | (refine q_nil ?_) | (refine r_indexN hT rfl rfl rfl rfl rfl rfl rfl rfl rfl hltk ?_) | (refine r_load hT hatp rfl rfl rfl rfl rfl rfl rfl rfl rfl rfl rfl ?_) | ((refine r_callF hld rfl rfl rfl rfl rfl (hC 77 rfl) rfl rfl (fun yz uz hyz => ?_) ; obtain ⟨hyz1, hyz2⟩ := hyz ; subst hyz1 ; subst uz)) | (refine r_store_row1 (f1 := 4) hT hO5 hK6 rfl rfl rfl rfl (by rw [hpre]) rfl rfl rfl rfl rfl rfl rfl (fun u6 hO6 hK7 => ?_)) | (refine r_arith rfl rfl rfl rfl rfl rfl rfl (by omega) ?_) | (with_reducible refine r_seq ?_) | (with_reducible refine x_then ?_) | (with_reducible refine r_region ?_) | (with_reducible refine r_skip ?_) | (with_reducible refine r_ret ?_) | (with_reducible refine x_then_ret ?_) | (with_reducible refine r_block ?_) | (with_reducible refine x_block ?_) | (with_reducible refine x_block_ret ?_) | (with_reducible refine r_exit ?_) | (with_reducible refine x_then_exit ?_) | (with_reducible refine x_block_here ?_) | (refine x_block_past rfl ?_) | (refine c_yes rfl (by omega) ?_) | (refine c_no rfl (by omega) ?_) | (refine c_no rfl (fun h => h rfl) ?_) | (refine r_cond_false rfl ?_) | (refine r_cond_true rfl ?_) | (refine r_cond_dec rfl (fun _ => ?_) (fun _ => ?_)) | (refine r_cond_true rfl ?_) | (refine r_cond_false rfl ?_) | (refine c_not rfl (fun _ => ?_) (fun _ => ?_)) | (refine r_off rfl rfl rfl ?_) | (refine q_guard rfl rfl (fun _ => ?_) (fun _ => ?_)) | (refine q_guardn rfl rfl (fun _ => ?_) (fun _ => ?_)))
        exact x_round (kk + 1, u6) ⟨hltk, own_eq (ds := (lookT (cls (ts.map srt)) ((srt t).take (kk + 1))).flatMap Pr.c ++ ((srt t).drop (kk + 1)).flatMap Pr.c) hO6 (by rw [fin, List.append_assoc]; rfl), fun x hx => hK7 x (fun e => hx (by rw [e]; rfl))⟩ (by dsimp only; omega) (into rfl ⟨rfl, rfl, rfl, rfl, rfl, rfl, rfl, rfl, rfl, trivial⟩ ⟨rfl, rfl, trivial⟩ rfl rfl)
      · obtain rfl : kk = t.length := by omega
        rw [← hsl, List.take_length, List.drop_length, List.flatMap_nil, List.append_nil, hsl] at hO5
        repeat' (first | (refine r_pure hT rfl rfl rfl rfl ?_) | (refine r_new hT rfl rfl rfl rfl ?_) | (refine r_write hT rfl rfl rfl ?_) | (refine r_nil ?_) | (refine q_nil ?_) | (refine r_build hT rfl rfl rfl (ps := [(0, .tmp 51)]) rfl rfl rfl rfl rfl rfl ?_) | (refine r_bslice (t := 49) hT (ps := [(0, .tmp 52)]) rfl rfl rfl rfl rfl rfl rfl (by simp) rfl rfl (by decide) (fun b3 hb3 => ?_)) | (refine r_append (t := 49) hT (cs := hs2.flatMap Hd.v) (news := [(⟨y2.1, t.length, y2.2⟩ : Hd)].flatMap Hd.v) rfl rfl rfl rfl rfl rfl rfl rfl rfl rfl rfl (own_fr (hG2.own.le fun b o _ => hlu5 b o) hb3) (sl_blk (upd_here ..) rfl) (heads_one _) (by dsimp only; omega) (by omega) (fun A6 c6 u6 hO6 hG6 => ?_)) | (refine r_arith rfl rfl rfl rfl rfl rfl rfl (by omega) ?_) | (with_reducible refine r_seq ?_) | (with_reducible refine x_then ?_) | (with_reducible refine r_region ?_) | (with_reducible refine r_skip ?_) | (with_reducible refine r_ret ?_) | (with_reducible refine x_then_ret ?_) | (with_reducible refine r_block ?_) | (with_reducible refine x_block ?_) | (with_reducible refine x_block_ret ?_) | (with_reducible refine r_exit ?_) | (with_reducible refine x_then_exit ?_) | (with_reducible refine x_block_here ?_) | (refine x_block_past rfl ?_) | (refine c_yes rfl (by omega) ?_) | (refine c_no rfl (by omega) ?_) | (refine c_no rfl (fun h => h rfl) ?_) | (refine r_cond_false rfl ?_) | (refine r_cond_true rfl ?_) | (refine r_cond_dec rfl (fun _ => ?_) (fun _ => ?_)) | (refine r_cond_true rfl ?_) | (refine r_cond_false rfl ?_) | (refine c_not rfl (fun _ => ?_) (fun _ => ?_)) | (refine r_off rfl rfl rfl ?_) | (refine q_guard rfl rfl (fun _ => ?_) (fun _ => ?_)) | (refine q_guardn rfl rfl (fun _ => ?_) (fun _ => ?_)))
        have hG7 := hG2.push (t := lookT (cls (ts.map srt)) (srt t)) hlu5 (le_frsh (Le.refl u5) hb3) (y := ⟨y2.1, t.length, y2.2⟩) hO5 hz5 hO6 hG6
        have hL3 : L2 ++ [lookT (cls (ts.map srt)) (srt t)] = shT (cls (ts.map srt)) (ts.take (i + 1)) := by rw [hL2, take_snoc hix]; simp [shT]
        exact x_round ((i + 1, u6), ((A6, c6), (L2 ++ [lookT (cls (ts.map srt)) (srt t)], (_, _)))) ⟨hlt, hL3, hG7⟩ (by dsimp only; omega) (into rfl ⟨rfl, rfl, rfl, rfl, rfl, rfl, trivial⟩ ⟨congrArg (fun z => some (⟨none, gsv (lk (cls (ts.map srt)) v) A6 z c6, 51⟩ : Blk)) (by simp), rfl, trivial⟩ rfl rfl)
    · obtain rfl : i = ts.length := by omega
      rw [List.take_length] at hL2
      subst L2
      repeat' (first | (refine r_pure hT rfl rfl rfl rfl ?_) | (refine r_new hT rfl rfl rfl rfl ?_) | (refine r_write hT rfl rfl rfl ?_) | (refine r_nil ?_) | (refine q_nil ?_) | (refine r_call (implCanon (lk (cls (ts.map srt)) v) (shT (cls (ts.map srt)) ts) A2 _ c2 u hG2.tabs) rfl rfl rfl rfl rfl (hC _ rfl) rfl rfl (fun y8 u8 hy8 => ?_)) | (refine r_arith rfl rfl rfl rfl rfl rfl rfl (by omega) ?_) | (with_reducible refine r_seq ?_) | (with_reducible refine x_then ?_) | (with_reducible refine r_region ?_) | (with_reducible refine r_skip ?_) | (with_reducible refine r_ret ?_) | (with_reducible refine x_then_ret ?_) | (with_reducible refine r_block ?_) | (with_reducible refine x_block ?_) | (with_reducible refine x_block_ret ?_) | (with_reducible refine r_exit ?_) | (with_reducible refine x_then_exit ?_) | (with_reducible refine x_block_here ?_) | (refine x_block_past rfl ?_) | (refine c_yes rfl (by omega) ?_) | (refine c_no rfl (by omega) ?_) | (refine c_no rfl (fun h => h rfl) ?_) | (refine r_cond_false rfl ?_) | (refine r_cond_true rfl ?_) | (refine r_cond_dec rfl (fun _ => ?_) (fun _ => ?_)) | (refine r_cond_true rfl ?_) | (refine r_cond_false rfl ?_) | (refine c_not rfl (fun _ => ?_) (fun _ => ?_)) | (refine r_off rfl rfl rfl ?_) | (refine q_guard rfl rfl (fun _ => ?_) (fun _ => ?_)) | (refine q_guardn rfl rfl (fun _ => ?_) (fun _ => ?_)))
      have hl8 := h0B.trans hlBu
      exact r_fin hT rfl y8 rfl rfl rfl trivial rfl ⟨hy8.1, hl8.trans hy8.2.1, ⟨fun b hb => none_of hl8 (hy8.2.2.1 b hb), fun x hx b hb => none_of hl8 (hy8.2.2.2 x hx b hb)⟩⟩
  · simp only [decide_eq_false hg] at hk1
    have e1 : kV v ts = V0 := if_neg hg
    have e2 : kT v ts = [] := if_neg hg
    rw [e1, e2]
    repeat' (first | (refine r_pure hT rfl rfl rfl rfl ?_) | (refine r_new hT rfl rfl rfl rfl ?_) | (refine r_write hT rfl rfl rfl ?_) | (refine r_nil ?_) | (refine q_nil ?_) | ((refine r_call hk1 rfl rfl rfl rfl rfl (hC _ rfl) rfl rfl (fun y0 u0 hy0 => ?_) ; obtain ⟨hy0, hle0⟩ := hy0 ; subst hy0)) | (refine r_build hT rfl rfl rfl (ps := []) rfl rfl rfl rfl rfl rfl ?_) | (refine r_arith rfl rfl rfl rfl rfl rfl rfl (by omega) ?_) | (with_reducible refine r_seq ?_) | (with_reducible refine x_then ?_) | (with_reducible refine r_region ?_) | (with_reducible refine r_skip ?_) | (with_reducible refine r_ret ?_) | (with_reducible refine x_then_ret ?_) | (with_reducible refine r_block ?_) | (with_reducible refine x_block ?_) | (with_reducible refine x_block_ret ?_) | (with_reducible refine r_exit ?_) | (with_reducible refine x_then_exit ?_) | (with_reducible refine x_block_here ?_) | (refine x_block_past rfl ?_) | (refine c_yes rfl (by omega) ?_) | (refine c_no rfl (by omega) ?_) | (refine c_no rfl (fun h => h rfl) ?_) | (refine r_cond_false rfl ?_) | (refine r_cond_true rfl ?_) | (refine r_cond_dec rfl (fun _ => ?_) (fun _ => ?_)) | (refine r_cond_true rfl ?_) | (refine r_cond_false rfl ?_) | (refine c_not rfl (fun _ => ?_) (fun _ => ?_)) | (refine r_off rfl rfl rfl ?_) | (refine q_guard rfl rfl (fun _ => ?_) (fun _ => ?_)) | (refine q_guardn rfl rfl (fun _ => ?_) (fun _ => ?_)))
    exact r_fin hT rfl (((none, 0), []) : OY) rfl rfl rfl trivial rfl ⟨⟨rfl, own_nil, ORows.nil⟩, hle0, ⟨off_nil, fun x hx => by cases hx⟩⟩
end Go.Proofs.YtkamfnmbidnhdaaDoor
/- impl.Same. No condition. -/
namespace Go.Proofs.YtkamfnmbidnhdaaDoor
open Go.Sy
set_option maxRecDepth 100000
set_option maxHeartbeats 8000000
set_option linter.unusedVariables false
set_option linter.unusedSimpArgs false
theorem same_plain {C : List Nat} {n : Nat} {v v' : V} (h : v.k ≠ 4 ∨ v'.k ≠ 4) : alike C v (shV n v') = vEq v v' := by
  have hk : (shV n v').k = v'.k := by unfold shV; split <;> rfl
  have hne : v.k ≠ v'.k → vEq v v' = false := fun e => by
    cases hv : vEq v v' with
    | false => rfl
    | true => rw [vEq_iff.1 hv] at e; exact absurd rfl e
  unfold alike
  rw [hk]
  by_cases e : v.k = v'.k
  · have h4 : v.k ≠ 4 := by omega
    have h4' : v'.k ≠ 4 := by omega
    rw [if_pos e, if_neg h4]
    have : shV n v' = v' := if_neg h4'
    rw [this]
  · rw [if_neg e, hne e]
theorem implSame (v v' : V) (a b : List (List Pr)) (A B : Option Addr) (n c m d : Nat) (h : Hp) (hPa : Tabs h A n a) (hPb : Tabs h B m b) (hr : RngG v a) (hr' : RngG v' b) (ht10 : Tab10 h) :
    TriS Tryd.prog 35 [.ag (gsv v A n c), .ag (gsv v' B m d)] [] h (fun y : Bool => .v (.bool y)) (fun _ => []) (fun y h' => y = sameB v v' a b ∧ Le h h') := by
  have hna := hPa.len
  have hnb := hPb.len
  subst hna
  subst hnb
  refine enterS Tryd.func35 rfl (n := 95) rfl rfl (fun k N => ?_)
  have hk1 := implOk v a A a.length c h hPa
  have hk2 := fun (u : Hp) (hu : Tabs u B b.length b) => implOk v' b B b.length d u hu
  by_cases hg : GOk v a
  · simp only [decide_eq_true hg] at hk1
    by_cases hg' : GOk v' b
    · simp only [decide_eq_true hg'] at hk2
      have hsb0 : sameB v v' a b = alike (cls ((both a b).map srt)) v (shV a.length v') := if_pos ⟨hg, hg'⟩
      by_cases h4 : v.k = 4
      · by_cases h4' : v'.k = 4
        · obtain ⟨hCl, hcl⟩ := clsB_len hg hg' hr hr'
          obtain ⟨hB, hR⟩ := gok_rows hg'
          have hva := (gok_in hg).2.1 h4
          have hvb := (gok_in hg').2.1 h4'
          have hb := hg'.1
          have ha := hg.1
          have hbl := both_len a b
          obtain ⟨hs1', hl1, hrd, hrows⟩ := hPa
          have hcl75 := fun (u : Hp) (hu : Rd Hd.v 1 u A a.length hs1') => clone75 hs1' A a.length c u hu (by omega)
          simp only [hl1] at hcl75
          repeat' (first | (refine r_pure hT rfl rfl rfl rfl ?_) | (refine r_new hT rfl rfl rfl rfl ?_) | (refine r_write hT rfl rfl rfl ?_) | (refine r_nil ?_) | (refine q_nil ?_) | ((refine r_call hk1 rfl rfl rfl rfl rfl (hC _ rfl) rfl rfl (fun y1 u1 hy1 => ?_) ; obtain ⟨hy1, hle1⟩ := hy1 ; subst hy1)) | ((refine r_call (hk2 u1 (hPb.le hle1)) rfl rfl rfl rfl rfl (hC _ rfl) rfl rfl (fun y2 u2 hy2 => ?_) ; obtain ⟨hy2, hle2⟩ := hy2 ; subst hy2)) | (refine q_guard rfl rfl (fun hx => absurd h4 hx) (fun _ => ?_)) | (refine c_no rfl (fun h => h h4') ?_) | (refine r_call (hcl75 u2 (hrd.le (hle1.trans hle2))) rfl rfl rfl rfl rfl (hC _ rfl) rfl rfl (fun y u hy => ?_)) | (refine r_arith rfl rfl rfl rfl rfl rfl rfl (by omega) ?_) | (with_reducible refine r_seq ?_) | (with_reducible refine x_then ?_) | (with_reducible refine r_region ?_) | (refine r_draw hM (by kernel_rfl) ?_) | (with_reducible refine r_skip ?_) | (with_reducible refine r_ret ?_) | (with_reducible refine x_then_ret ?_) | (with_reducible refine r_block ?_) | (with_reducible refine x_block ?_) | (with_reducible refine x_block_ret ?_) | (with_reducible refine r_exit ?_) | (with_reducible refine x_then_exit ?_) | (with_reducible refine x_block_here ?_) | (refine x_block_past rfl ?_) | (refine c_yes rfl (by omega) ?_) | (refine c_no rfl (by omega) ?_) | (refine c_no rfl (fun h => h rfl) ?_) | (refine r_cond_false rfl ?_) | (refine r_cond_true rfl ?_) | (refine r_cond_dec rfl (fun _ => ?_) (fun _ => ?_)) | (refine r_cond_true rfl ?_) | (refine r_cond_false rfl ?_) | (refine c_not rfl (fun _ => ?_) (fun _ => ?_)) | (refine r_off rfl rfl rfl ?_))
          have hl12 := hle1.trans hle2
          obtain ⟨hyO, hyL, hyF⟩ := hy
          have hG1 : Gr h u u2 y.1 y.2 hs1' a := ⟨hl12, hyL, hyF, hyO, hl1, fun i x t hx ht => ⟨(hrows i x t hx ht).1, (hrows i x t hx ht).2.le hl12⟩⟩
          refine r_loop (γ := (Nat × Hp) × ((Option Addr × Nat) × (List (List Pr) × (List Hd × Hp)))) (fun g => g.1.1 ≤ b.length ∧ g.2.2.1 = a ++ (b.take g.1.1).map (fun t => t.map (shP a.length)) ∧ Gr h g.1.2 g.2.2.2.2 g.2.1.1 g.2.1.2 g.2.2.2.1 g.2.2.1)
            (fun g => [(2, .p 2 0), (3, .p 3 0), (39, .v (.slice B b.length d)), (40, .v (.int .i64 (b.length : Int))), (5, .v (.slice g.2.1.1 g.2.2.1.length g.2.1.2)), (41, .v (.int .i64 (g.1.1 : Int)))]) (fun _ => [(3, ⟨none, gsv v' B b.length d, 51⟩), (2, ⟨none, gsv v A a.length c, 51⟩)]) (fun g => g.1.2) (fun g => b.length - g.1.1)
            ((0, u), ((y.1, y.2), (a, (hs1', u2)))) ⟨Nat.zero_le _, by simp, hG1⟩ (into rfl ⟨rfl, rfl, rfl, rfl, rfl, rfl, trivial⟩ ⟨rfl, rfl, trivial⟩ rfl rfl) ?_
          rintro ⟨⟨j, w⟩, ⟨⟨A2, c2⟩, ⟨L2, ⟨hs2, q2⟩⟩⟩⟩ ⟨hj, hL2, hG2⟩
          dsimp only at *
          have hL2l : L2.length ≤ 2000 := by rw [hL2]; simp; omega
          by_cases hlt2 : j < b.length
          · obtain ⟨b4, off4, A4, n4, c4, t, rfl, _, hix4, hm4, hat4, hc4, hp4⟩ := (hPb.le (hG2.hq.trans hG2.qu)).elem hlt2
            obtain rfl := hp4.1
            have htl := hB t hm4
            repeat' (first | (refine r_pure hT rfl rfl rfl rfl ?_) | (refine r_new hT rfl rfl rfl rfl ?_) | (refine r_write hT rfl rfl rfl ?_) | (refine r_nil ?_) | (refine q_nil ?_) | (refine r_indexN hT rfl rfl rfl rfl rfl rfl rfl rfl rfl hlt2 ?_) | (refine r_load hT hat4 rfl rfl rfl rfl rfl (Nat.add_zero _).symm rfl rfl rfl rfl rfl ?_) | (refine r_arith rfl rfl rfl rfl rfl rfl rfl (by omega) ?_) | (with_reducible refine r_seq ?_) | (with_reducible refine x_then ?_) | (with_reducible refine r_region ?_) | (refine r_draw hM (by kernel_rfl) ?_) | (with_reducible refine r_skip ?_) | (with_reducible refine r_ret ?_) | (with_reducible refine x_then_ret ?_) | (with_reducible refine r_block ?_) | (with_reducible refine x_block ?_) | (with_reducible refine x_block_ret ?_) | (with_reducible refine r_exit ?_) | (with_reducible refine x_then_exit ?_) | (with_reducible refine x_block_here ?_) | (refine x_block_past rfl ?_) | (refine c_yes rfl (by omega) ?_) | (refine c_no rfl (by omega) ?_) | (refine c_no rfl (fun h => h rfl) ?_) | (refine r_cond_false rfl ?_) | (refine r_cond_true rfl ?_) | (refine r_cond_dec rfl (fun _ => ?_) (fun _ => ?_)) | (refine r_cond_true rfl ?_) | (refine r_cond_false rfl ?_) | (refine c_not rfl (fun _ => ?_) (fun _ => ?_)) | (refine r_off rfl rfl rfl ?_) | (refine q_guard rfl rfl (fun _ => ?_) (fun _ => ?_)) | (refine q_guardn rfl rfl (fun _ => ?_) (fun _ => ?_)))
            refine r_loop (γ := (Nat × Hp) × (Option Addr × Nat)) (fun g => g.1.1 ≤ t.length ∧ Le w g.1.2 ∧ Off w g.2.1 ∧ Own g.1.2 g.2.1 g.1.1 g.2.2 61 8 (((t.take g.1.1).map (shP a.length)).flatMap Pr.c))
              (fun g => [(2, .p 2 0), (3, .p 3 0), (39, .v (.slice (some ⟨b4, off4, none⟩) b.length d)), (40, .v (.int .i64 (b.length : Int))), (5, .v (.slice A2 L2.length c2)), (41, .v (.int .i64 (j : Int))), (46, .v (.slice A4 t.length c4)), (47, .v (.int .i64 (t.length : Int))), (48, .v (.int .i64 (g.1.1 : Int))), (8, .v (.slice g.2.1 g.1.1 g.2.2))]) (fun _ => [(3, ⟨none, gsv v' (some ⟨b4, off4, none⟩) b.length d, 51⟩), (2, ⟨none, gsv v A a.length c, 51⟩)]) (fun g => g.1.2) (fun g => t.length - g.1.1)
              ((0, w), (none, 0)) ⟨Nat.zero_le _, Le.refl w, off_nil, own_nil⟩ (into rfl ⟨rfl, rfl, rfl, rfl, rfl, rfl, rfl, rfl, rfl, rfl, trivial⟩ ⟨rfl, rfl, trivial⟩ rfl rfl) ?_
            rintro ⟨⟨k3, u5⟩, ⟨A5, c5⟩⟩ ⟨hk3, hw5, hof5, hO5⟩
            dsimp only at *
            by_cases hltk : k3 < t.length
            · obtain ⟨b7, off7, p, rfl, _, hixp, hmp, hatp⟩ := (hp4.le hw5).elem Pr.c_len hltk
              have hpf := hR t hm4 p hmp
              have fin : ∀ u6 (A6 : Option Addr) c6 b3 o, u5 b3 = none → Grown (upd u5 b3 o) u6 A5 A6 → Own u6 A6 (k3 + 1) c6 61 8 (((t.take k3).map (shP a.length)).flatMap Pr.c ++ [shP a.length p].flatMap Pr.c) → Le w u6 ∧ Off w A6 ∧ Own u6 A6 (k3 + 1) c6 61 8 (((t.take (k3 + 1)).map (shP a.length)).flatMap Pr.c) := fun u6 A6 c6 b3 o hb3 hG6 hO6 => by
                have hk := hG6 w (hw5.trans (le_frsh (Le.refl u5) hb3)) hof5
                refine ⟨hk.1, hk.2, own_eq hO6 ?_⟩
                rw [take_snoc hixp]; simp
              by_cases h4 : p.val.k = 4
              · have hva := hpf h4
                rw [shP_yes h4] at fin
                repeat' (first | (refine r_pure hT rfl rfl rfl rfl ?_) | (refine r_new hT rfl rfl rfl rfl ?_) | (refine r_write hT rfl rfl rfl ?_) | (refine r_nil ?_) | (refine q_nil ?_) | (refine r_indexN hT rfl rfl rfl rfl rfl rfl rfl rfl rfl hltk ?_) | (refine r_load hT hatp rfl rfl rfl rfl rfl (Nat.add_zero _).symm rfl rfl rfl rfl rfl ?_) | (refine c_yes rfl h4 ?_) | (refine r_bslice (t := 57) hT (ps := [(0, .tmp 66)]) rfl rfl rfl rfl rfl rfl rfl (by simp) rfl rfl (by decide) (fun b3 hb3 => ?_)) | (refine r_append (t := 57) hT (cs := ((t.take k3).map (shP a.length)).flatMap Pr.c) (news := [(⟨p.key, ⟨p.val.k, p.val.n, p.val.s, p.val.a + (a.length : Int)⟩⟩ : Pr)].flatMap Pr.c) rfl rfl rfl rfl rfl rfl rfl rfl rfl rfl rfl (own_fr hO5 hb3) (sl_blk (upd_here ..) rfl) (Pr.one _) (by dsimp only; omega) (by omega) (fun A6 c6 u6 hO6 hG6 => ?_)) | (refine r_arith rfl rfl rfl rfl rfl rfl rfl (by omega) ?_) | (with_reducible refine r_seq ?_) | (with_reducible refine x_then ?_) | (with_reducible refine r_region ?_) | (refine r_draw hM (by kernel_rfl) ?_) | (with_reducible refine r_skip ?_) | (with_reducible refine r_ret ?_) | (with_reducible refine x_then_ret ?_) | (with_reducible refine r_block ?_) | (with_reducible refine x_block ?_) | (with_reducible refine x_block_ret ?_) | (with_reducible refine r_exit ?_) | (with_reducible refine x_then_exit ?_) | (with_reducible refine x_block_here ?_) | (refine x_block_past rfl ?_) | (refine c_yes rfl (by omega) ?_) | (refine c_no rfl (by omega) ?_) | (refine c_no rfl (fun h => h rfl) ?_) | (refine r_cond_false rfl ?_) | (refine r_cond_true rfl ?_) | (refine r_cond_dec rfl (fun _ => ?_) (fun _ => ?_)) | (refine r_cond_true rfl ?_) | (refine r_cond_false rfl ?_) | (refine c_not rfl (fun _ => ?_) (fun _ => ?_)) | (refine r_off rfl rfl rfl ?_) | (refine q_guard rfl rfl (fun _ => ?_) (fun _ => ?_)) | (refine q_guardn rfl rfl (fun _ => ?_) (fun _ => ?_)))
                obtain ⟨f1, f2, f3⟩ := fin u6 A6 c6 b3 _ hb3 hG6 hO6
                exact x_round ((k3 + 1, u6), (A6, c6)) ⟨hltk, f1, f2, f3⟩ (by dsimp only; omega) (into rfl ⟨rfl, rfl, rfl, rfl, rfl, rfl, rfl, rfl, rfl, rfl, trivial⟩ ⟨rfl, rfl, trivial⟩ rfl rfl)
              · rw [shP_no h4] at fin
                repeat' (first | (refine r_pure hT rfl rfl rfl rfl ?_) | (refine r_new hT rfl rfl rfl rfl ?_) | (refine r_write hT rfl rfl rfl ?_) | (refine r_nil ?_) | (refine q_nil ?_) | (refine r_indexN hT rfl rfl rfl rfl rfl rfl rfl rfl rfl hltk ?_) | (refine r_load hT hatp rfl rfl rfl rfl rfl (Nat.add_zero _).symm rfl rfl rfl rfl rfl ?_) | (refine c_no rfl h4 ?_) | (refine r_bslice (t := 57) hT (ps := [(0, .tmp 66)]) rfl rfl rfl rfl rfl rfl rfl (by simp) rfl rfl (by decide) (fun b3 hb3 => ?_)) | (refine r_append (t := 57) hT (cs := ((t.take k3).map (shP a.length)).flatMap Pr.c) (news := [p].flatMap Pr.c) rfl rfl rfl rfl rfl rfl rfl rfl rfl rfl rfl (own_fr hO5 hb3) (sl_blk (upd_here ..) rfl) (Pr.one _) (by dsimp only; omega) (by omega) (fun A6 c6 u6 hO6 hG6 => ?_)) | (refine r_arith rfl rfl rfl rfl rfl rfl rfl (by omega) ?_) | (with_reducible refine r_seq ?_) | (with_reducible refine x_then ?_) | (with_reducible refine r_region ?_) | (refine r_draw hM (by kernel_rfl) ?_) | (with_reducible refine r_skip ?_) | (with_reducible refine r_ret ?_) | (with_reducible refine x_then_ret ?_) | (with_reducible refine r_block ?_) | (with_reducible refine x_block ?_) | (with_reducible refine x_block_ret ?_) | (with_reducible refine r_exit ?_) | (with_reducible refine x_then_exit ?_) | (with_reducible refine x_block_here ?_) | (refine x_block_past rfl ?_) | (refine c_yes rfl (by omega) ?_) | (refine c_no rfl (by omega) ?_) | (refine c_no rfl (fun h => h rfl) ?_) | (refine r_cond_false rfl ?_) | (refine r_cond_true rfl ?_) | (refine r_cond_dec rfl (fun _ => ?_) (fun _ => ?_)) | (refine r_cond_true rfl ?_) | (refine r_cond_false rfl ?_) | (refine c_not rfl (fun _ => ?_) (fun _ => ?_)) | (refine r_off rfl rfl rfl ?_) | (refine q_guard rfl rfl (fun _ => ?_) (fun _ => ?_)) | (refine q_guardn rfl rfl (fun _ => ?_) (fun _ => ?_)))
                obtain ⟨f1, f2, f3⟩ := fin u6 A6 c6 b3 _ hb3 hG6 hO6
                exact x_round ((k3 + 1, u6), (A6, c6)) ⟨hltk, f1, f2, f3⟩ (by dsimp only; omega) (into rfl ⟨rfl, rfl, rfl, rfl, rfl, rfl, rfl, rfl, rfl, rfl, trivial⟩ ⟨rfl, rfl, trivial⟩ rfl rfl)
            · obtain rfl : k3 = t.length := by omega
              rw [List.take_length] at hO5
              repeat' (first | (refine r_pure hT rfl rfl rfl rfl ?_) | (refine r_new hT rfl rfl rfl rfl ?_) | (refine r_write hT rfl rfl rfl ?_) | (refine r_nil ?_) | (refine q_nil ?_) | (refine r_build hT rfl rfl rfl (ps := [(0, .tmp 71)]) rfl rfl rfl rfl rfl rfl ?_) | (refine r_bslice (t := 49) hT (ps := [(0, .tmp 72)]) rfl rfl rfl rfl rfl rfl rfl (by simp) rfl rfl (by decide) (fun b3 hb3 => ?_)) | (refine r_append (t := 49) hT (cs := hs2.flatMap Hd.v) (news := [(⟨A5, t.length, c5⟩ : Hd)].flatMap Hd.v) rfl rfl rfl rfl rfl rfl rfl rfl rfl rfl rfl (own_fr (hG2.own.le fun b o _ => hw5 b o) hb3) (sl_blk (upd_here ..) rfl) (heads_one _) (by dsimp only; omega) (by omega) (fun A6 c6 u6 hO6 hG6 => ?_)) | (refine r_arith rfl rfl rfl rfl rfl rfl rfl (by omega) ?_) | (with_reducible refine r_seq ?_) | (with_reducible refine x_then ?_) | (with_reducible refine r_region ?_) | (refine r_draw hM (by kernel_rfl) ?_) | (with_reducible refine r_skip ?_) | (with_reducible refine r_ret ?_) | (with_reducible refine x_then_ret ?_) | (with_reducible refine r_block ?_) | (with_reducible refine x_block ?_) | (with_reducible refine x_block_ret ?_) | (with_reducible refine r_exit ?_) | (with_reducible refine x_then_exit ?_) | (with_reducible refine x_block_here ?_) | (refine x_block_past rfl ?_) | (refine c_yes rfl (by omega) ?_) | (refine c_no rfl (by omega) ?_) | (refine c_no rfl (fun h => h rfl) ?_) | (refine r_cond_false rfl ?_) | (refine r_cond_true rfl ?_) | (refine r_cond_dec rfl (fun _ => ?_) (fun _ => ?_)) | (refine r_cond_true rfl ?_) | (refine r_cond_false rfl ?_) | (refine c_not rfl (fun _ => ?_) (fun _ => ?_)) | (refine r_off rfl rfl rfl ?_) | (refine q_guard rfl rfl (fun _ => ?_) (fun _ => ?_)) | (refine q_guardn rfl rfl (fun _ => ?_) (fun _ => ?_)))
              have hG7 := hG2.push (t := t.map (shP a.length)) hw5 (le_frsh (Le.refl u5) hb3) (y := ⟨A5, t.length, c5⟩) hO5 hof5 hO6 hG6
              have hL3 : L2 ++ [t.map (shP a.length)] = a ++ (b.take (j + 1)).map (fun t => t.map (shP a.length)) := by rw [hL2, take_snoc hix4]; simp
              exact x_round ((j + 1, u6), ((A6, c6), (L2 ++ [t.map (shP a.length)], (_, _)))) ⟨hlt2, hL3, hG7⟩ (by dsimp only; omega) (into rfl ⟨rfl, rfl, rfl, rfl, congrArg (fun z => some (SV.v (.slice A6 z c6))) (by simp), rfl, trivial⟩ ⟨rfl, rfl, trivial⟩ rfl rfl)
          · obtain rfl : j = b.length := by omega
            rw [List.take_length] at hL2
            have hbo : L2 = both a b := hL2
            subst hbo
            have htw : Tab10 w := ht10.le (hG2.hq.trans hG2.qu)
            have hc76 := classes76 (both a b) A2 (both a b).length c2 w hG2.tabs hCl htw
            repeat' (first | (refine r_pure hT rfl rfl rfl rfl ?_) | (refine r_new hT rfl rfl rfl rfl ?_) | (refine r_write hT rfl rfl rfl ?_) | (refine r_nil ?_) | (refine q_nil ?_) | (refine r_call hc76 rfl rfl rfl rfl rfl (hC _ rfl) rfl rfl (fun y3 u3 hy3 => ?_)) | (refine r_arith rfl rfl rfl rfl rfl rfl rfl (by omega) ?_) | (with_reducible refine r_seq ?_) | (with_reducible refine x_then ?_) | (with_reducible refine r_region ?_) | (with_reducible refine r_skip ?_) | (with_reducible refine r_ret ?_) | (with_reducible refine x_then_ret ?_) | (with_reducible refine r_block ?_) | (with_reducible refine x_block ?_) | (with_reducible refine x_block_ret ?_) | (with_reducible refine r_exit ?_) | (with_reducible refine x_then_exit ?_) | (with_reducible refine x_block_here ?_) | (refine x_block_past rfl ?_) | (refine c_yes rfl (by omega) ?_) | (refine c_no rfl (by omega) ?_) | (refine c_no rfl (fun h => h rfl) ?_) | (refine r_cond_false rfl ?_) | (refine r_cond_true rfl ?_) | (refine r_cond_dec rfl (fun _ => ?_) (fun _ => ?_)) | (refine r_cond_true rfl ?_) | (refine r_cond_false rfl ?_) | (refine c_not rfl (fun _ => ?_) (fun _ => ?_)) | (refine r_off rfl rfl rfl ?_) | (refine q_guard rfl rfl (fun _ => ?_) (fun _ => ?_)) | (refine q_guardn rfl rfl (fun _ => ?_) (fun _ => ?_)))
            obtain ⟨g1, g2, g3⟩ := hy3
            have hPc : Ints u3 y3.1 (both a b).length (cI (cls ((both a b).map srt))) := ⟨by rw [cI_len, hcl, hbl], g1.sl⟩
            obtain ⟨b8, off8, p8, e8, _, hix8, _, hat8⟩ := hPc.elem Ic_len (i := v.a.toNat) (by rw [cI_len, hcl]; omega)
            obtain ⟨b9, off9, p9, e9, _, hix9, _, hat9⟩ := hPc.elem Ic_len (i := (v'.a + (a.length : Int)).toNat) (by rw [cI_len, hcl]; omega)
            obtain rfl := cI_get hix8
            obtain rfl := cI_get hix9
            obtain ⟨yA, yc⟩ := y3
            dsimp only at *
            subst e8
            have e10 := Option.some.inj e9
            simp only [Addr.mk.injEq] at e10
            obtain ⟨rfl, rfl, _⟩ := e10
            repeat' (first | (refine r_pure hT rfl rfl rfl rfl ?_) | (refine r_new hT rfl rfl rfl rfl ?_) | (refine r_write hT rfl rfl rfl ?_) | (refine r_nil ?_) | (refine q_nil ?_) | (refine r_index hT rfl rfl rfl rfl rfl rfl rfl rfl rfl hva.1 (by rw [hbl]; omega) ?_) | (refine r_index hT rfl rfl rfl rfl rfl rfl rfl rfl rfl (by omega) (by rw [hbl]; omega) ?_) | (refine r_load hT hat8 rfl rfl rfl rfl rfl (Nat.add_zero _).symm rfl rfl rfl rfl rfl ?_) | (refine r_load hT hat9 rfl rfl rfl rfl rfl (Nat.add_zero _).symm rfl rfl rfl rfl rfl ?_) | (refine r_arith rfl rfl rfl rfl rfl rfl rfl (by omega) ?_) | (with_reducible refine r_seq ?_) | (with_reducible refine x_then ?_) | (with_reducible refine r_region ?_) | (refine r_draw hM (by kernel_rfl) ?_) | (with_reducible refine r_skip ?_) | (with_reducible refine r_ret ?_) | (with_reducible refine x_then_ret ?_) | (with_reducible refine r_block ?_) | (with_reducible refine x_block ?_) | (with_reducible refine x_block_ret ?_) | (with_reducible refine r_exit ?_) | (with_reducible refine x_then_exit ?_) | (with_reducible refine x_block_here ?_) | (refine x_block_past rfl ?_) | (refine c_yes rfl (by omega) ?_) | (refine c_no rfl (by omega) ?_) | (refine c_no rfl (fun h => h rfl) ?_) | (refine r_cond_false rfl ?_) | (refine r_cond_true rfl ?_) | (refine r_cond_dec rfl (fun _ => ?_) (fun _ => ?_)) | (refine r_cond_true rfl ?_) | (refine r_cond_false rfl ?_) | (refine c_not rfl (fun _ => ?_) (fun _ => ?_)) | (refine r_off rfl rfl rfl ?_) | (refine q_guard rfl rfl (fun _ => ?_) (fun _ => ?_)) | (refine q_guardn rfl rfl (fun _ => ?_) (fun _ => ?_)))
            refine r_fin hT rfl _ rfl rfl rfl trivial rfl ⟨?_, (hG2.hq.trans hG2.qu).trans g2⟩
            rw [hsb0]
            have hsh : shV a.length v' = ⟨v'.k, v'.n, v'.s, v'.a + (a.length : Int)⟩ := if_pos h4'
            rw [hsh]
            unfold alike
            rw [if_pos (by rw [h4]; exact h4'.symm), if_pos h4, decide_eq_decide]
            simp only
            omega
        · have hsb : sameB v v' a b = vEq v v' := hsb0.trans (same_plain (.inr h4'))
          repeat' (first | (refine r_pure hT rfl rfl rfl rfl ?_) | (refine r_new hT rfl rfl rfl rfl ?_) | (refine r_write hT rfl rfl rfl ?_) | (refine r_nil ?_) | (refine q_nil ?_) | ((refine r_call hk1 rfl rfl rfl rfl rfl (hC _ rfl) rfl rfl (fun y1 u1 hy1 => ?_) ; obtain ⟨hy1, hle1⟩ := hy1 ; subst hy1)) | ((refine r_call (hk2 u1 (hPb.le hle1)) rfl rfl rfl rfl rfl (hC _ rfl) rfl rfl (fun y2 u2 hy2 => ?_) ; obtain ⟨hy2, hle2⟩ := hy2 ; subst hy2)) | (refine q_guard rfl rfl (fun hx => absurd h4 hx) (fun _ => ?_)) | (refine c_yes rfl h4' ?_) | (refine r_eqs (fun z => eq29f z _ _ _ _ v') (by kernel_rfl) (.inl rfl) rfl rfl rfl rfl rfl rfl rfl rfl ?_) | (refine r_arith rfl rfl rfl rfl rfl rfl rfl (by omega) ?_) | (with_reducible refine r_seq ?_) | (with_reducible refine x_then ?_) | (with_reducible refine r_region ?_) | (refine r_draw hM (by kernel_rfl) ?_) | (with_reducible refine r_skip ?_) | (with_reducible refine r_ret ?_) | (with_reducible refine x_then_ret ?_) | (with_reducible refine r_block ?_) | (with_reducible refine x_block ?_) | (with_reducible refine x_block_ret ?_) | (with_reducible refine r_exit ?_) | (with_reducible refine x_then_exit ?_) | (with_reducible refine x_block_here ?_) | (refine x_block_past rfl ?_) | (refine c_yes rfl (by omega) ?_) | (refine c_no rfl (by omega) ?_) | (refine c_no rfl (fun h => h rfl) ?_) | (refine r_cond_false rfl ?_) | (refine r_cond_true rfl ?_) | (refine r_cond_dec rfl (fun _ => ?_) (fun _ => ?_)) | (refine r_cond_true rfl ?_) | (refine r_cond_false rfl ?_) | (refine c_not rfl (fun _ => ?_) (fun _ => ?_)) | (refine r_off rfl rfl rfl ?_))
          exact r_fin hT rfl _ rfl rfl rfl trivial rfl ⟨by rw [hsb]; exact vEq_dec, hle1.trans hle2⟩
      · have hsb : sameB v v' a b = vEq v v' := hsb0.trans (same_plain (.inl h4))
        repeat' (first | (refine r_pure hT rfl rfl rfl rfl ?_) | (refine r_new hT rfl rfl rfl rfl ?_) | (refine r_write hT rfl rfl rfl ?_) | (refine r_nil ?_) | (refine q_nil ?_) | ((refine r_call hk1 rfl rfl rfl rfl rfl (hC _ rfl) rfl rfl (fun y1 u1 hy1 => ?_) ; obtain ⟨hy1, hle1⟩ := hy1 ; subst hy1)) | ((refine r_call (hk2 u1 (hPb.le hle1)) rfl rfl rfl rfl rfl (hC _ rfl) rfl rfl (fun y2 u2 hy2 => ?_) ; obtain ⟨hy2, hle2⟩ := hy2 ; subst hy2)) | (refine q_guard rfl rfl (fun _ => ?_) (fun hx => absurd h4 hx)) | (refine r_eqs (fun z => eq29f z _ _ _ _ v') (by kernel_rfl) (.inl rfl) rfl rfl rfl rfl rfl rfl rfl rfl ?_) | (refine r_arith rfl rfl rfl rfl rfl rfl rfl (by omega) ?_) | (with_reducible refine r_seq ?_) | (with_reducible refine x_then ?_) | (with_reducible refine r_region ?_) | (refine r_draw hM (by kernel_rfl) ?_) | (with_reducible refine r_skip ?_) | (with_reducible refine r_ret ?_) | (with_reducible refine x_then_ret ?_) | (with_reducible refine r_block ?_) | (with_reducible refine x_block ?_) | (with_reducible refine x_block_ret ?_) | (with_reducible refine r_exit ?_) | (with_reducible refine x_then_exit ?_) | (with_reducible refine x_block_here ?_) | (refine x_block_past rfl ?_) | (refine c_yes rfl (by omega) ?_) | (refine c_no rfl (by omega) ?_) | (refine c_no rfl (fun h => h rfl) ?_) | (refine r_cond_false rfl ?_) | (refine r_cond_true rfl ?_) | (refine r_cond_dec rfl (fun _ => ?_) (fun _ => ?_)) | (refine r_cond_true rfl ?_) | (refine r_cond_false rfl ?_) | (refine c_not rfl (fun _ => ?_) (fun _ => ?_)) | (refine r_off rfl rfl rfl ?_))
        exact r_fin hT rfl _ rfl rfl rfl trivial rfl ⟨by rw [hsb]; exact vEq_dec, hle1.trans hle2⟩
    · simp only [decide_eq_false hg'] at hk2
      have hsb : sameB v v' a b = false := if_neg (fun x => hg' x.2)
      repeat' (first | (refine r_pure hT rfl rfl rfl rfl ?_) | (refine r_new hT rfl rfl rfl rfl ?_) | (refine r_write hT rfl rfl rfl ?_) | (refine r_nil ?_) | (refine q_nil ?_) | ((refine r_call hk1 rfl rfl rfl rfl rfl (hC _ rfl) rfl rfl (fun y1 u1 hy1 => ?_) ; obtain ⟨hy1, hle1⟩ := hy1 ; subst hy1)) | ((refine r_call (hk2 u1 (hPb.le hle1)) rfl rfl rfl rfl rfl (hC _ rfl) rfl rfl (fun y2 u2 hy2 => ?_) ; obtain ⟨hy2, hle2⟩ := hy2 ; subst hy2)) | (refine r_arith rfl rfl rfl rfl rfl rfl rfl (by omega) ?_) | (with_reducible refine r_seq ?_) | (with_reducible refine x_then ?_) | (with_reducible refine r_region ?_) | (refine r_draw hM (by kernel_rfl) ?_) | (with_reducible refine r_skip ?_) | (with_reducible refine r_ret ?_) | (with_reducible refine x_then_ret ?_) | (with_reducible refine r_block ?_) | (with_reducible refine x_block ?_) | (with_reducible refine x_block_ret ?_) | (with_reducible refine r_exit ?_) | (with_reducible refine x_then_exit ?_) | (with_reducible refine x_block_here ?_) | (refine x_block_past rfl ?_) | (refine c_yes rfl (by omega) ?_) | (refine c_no rfl (by omega) ?_) | (refine c_no rfl (fun h => h rfl) ?_) | (refine r_cond_false rfl ?_) | (refine r_cond_true rfl ?_) | (refine r_cond_dec rfl (fun _ => ?_) (fun _ => ?_)) | (refine r_cond_true rfl ?_) | (refine r_cond_false rfl ?_) | (refine c_not rfl (fun _ => ?_) (fun _ => ?_)) | (refine r_off rfl rfl rfl ?_) | (refine q_guard rfl rfl (fun _ => ?_) (fun _ => ?_)) | (refine q_guardn rfl rfl (fun _ => ?_) (fun _ => ?_)))
      exact r_fin hT rfl (false : Bool) rfl rfl rfl trivial rfl ⟨hsb.symm, hle1.trans hle2⟩
  · simp only [decide_eq_false hg] at hk1
    have hsb : sameB v v' a b = false := if_neg (fun x => hg x.1)
    repeat' (first | (refine r_pure hT rfl rfl rfl rfl ?_) | (refine r_new hT rfl rfl rfl rfl ?_) | (refine r_write hT rfl rfl rfl ?_) | (refine r_nil ?_) | (refine q_nil ?_) | ((refine r_call hk1 rfl rfl rfl rfl rfl (hC _ rfl) rfl rfl (fun y1 u1 hy1 => ?_) ; obtain ⟨hy1, hle1⟩ := hy1 ; subst hy1)) | (refine r_arith rfl rfl rfl rfl rfl rfl rfl (by omega) ?_) | (with_reducible refine r_seq ?_) | (with_reducible refine x_then ?_) | (with_reducible refine r_region ?_) | (refine r_draw hM (by kernel_rfl) ?_) | (with_reducible refine r_skip ?_) | (with_reducible refine r_ret ?_) | (with_reducible refine x_then_ret ?_) | (with_reducible refine r_block ?_) | (with_reducible refine x_block ?_) | (with_reducible refine x_block_ret ?_) | (with_reducible refine r_exit ?_) | (with_reducible refine x_then_exit ?_) | (with_reducible refine x_block_here ?_) | (refine x_block_past rfl ?_) | (refine c_yes rfl (by omega) ?_) | (refine c_no rfl (by omega) ?_) | (refine c_no rfl (fun h => h rfl) ?_) | (refine r_cond_false rfl ?_) | (refine r_cond_true rfl ?_) | (refine r_cond_dec rfl (fun _ => ?_) (fun _ => ?_)) | (refine r_cond_true rfl ?_) | (refine r_cond_false rfl ?_) | (refine c_not rfl (fun _ => ?_) (fun _ => ?_)) | (refine r_off rfl rfl rfl ?_) | (refine q_guard rfl rfl (fun _ => ?_) (fun _ => ?_)) | (refine q_guardn rfl rfl (fun _ => ?_) (fun _ => ?_)))
    exact r_fin hT rfl (false : Bool) rfl rfl rfl trivial rfl ⟨hsb.symm, hle1⟩
end Go.Proofs.YtkamfnmbidnhdaaDoor
