/- impl.classes. No condition. -/
import Derived.Test.YtkamfnmbidnhdaaDoorSqAJ
set_option linter.unusedVariables false
set_option linter.unusedSimpArgs false
set_option linter.unusedSectionVars false
namespace Go.Proofs.YtkamfnmbidnhdaaDoor
open Go.Sy
set_option maxRecDepth 100000
set_option maxHeartbeats 8000000
set_option linter.unusedVariables false
set_option linter.unusedSimpArgs false
theorem at0_cI {c : List Nat} {i : Nat} (h : i < c.length) : (cI c)[i]? = some ((at0 c i : Nat) : Int) := by
  unfold cI at0
  rw [List.getElem?_map, List.getD_eq_getElem?_getD, List.getElem?_eq_getElem h]
  rfl
theorem cI_zero (n : Nat) : (cI (List.replicate n 0)).flatMap Ic = reps n [Value.int .i64 0] := by
  induction n with
  | zero => rfl
  | succ n ih => rw [List.replicate_succ]; simp only [cI, List.map_cons, List.flatMap_cons] at ih ⊢; rw [ih]; rfl
theorem kss_bs {st : List (List Pr)} {c : List Nat} {i : Nat} {t : List Pr} (h : st[i]? = some t) : ∃ hi : i < (kss st c).length, (kss st c)[i] = keyS c t := by
  obtain ⟨g1, g2⟩ := List.getElem?_eq_some_iff.1 h
  refine ⟨by rw [kss_len]; exact g1, ?_⟩
  rw [kss_get g1, g2]
theorem nxt_idx {st : List (List Pr)} {c : List Nat} {i : Nat} {t : List Pr} (h : st[i]? = some t) : ((kss st c).idxOf (keyS c t)) = at0 (nxt st c) i := by
  obtain ⟨g1, g2⟩ := List.getElem?_eq_some_iff.1 h
  rw [nxt_at g1, kss_get g1, g2]
theorem cls_nil {st : List (List Pr)} (h : st.length = 0) : cls st = [] := by
  have : st = [] := List.length_eq_zero_iff.1 h
  subst this
  rfl
theorem lies93c : LiesB 93 [] [] := by unfold LiesB; kernel_rfl
theorem keyS_snoc {c : List Nat} {t : List Pr} {j : Nat} {p : Pr} (h : t[j]? = some p) : keyS c (t.take (j + 1)) = (keyS c (t.take j) ++ tx1 p.key) ++ tx1 (lk c p.val) := by
  rw [take_snoc h]
  simp [keyS, lookT, tx2]
theorem keyS_len {c : List Nat} : ∀ {l : List Pr}, (∀ p ∈ l, Tf p.key ∧ Tf (lk c p.val)) → (keyS c l).length ≤ l.length * 1200
  | [], _ => by simp [keyS, lookT]
  | p :: r, h => by
    have ih := keyS_len (c := c) (l := r) (fun q hq => h q (.tail _ hq))
    have h1 := tx1_len (h p (.head _)).1
    have h2 := tx1_len (h p (.head _)).2
    have e : keyS c (p :: r) = (tx1 p.key ++ tx1 (lk c p.val)) ++ keyS c r := by simp [keyS, lookT, tx2]
    rw [e, List.length_append, List.length_append, List.length_cons]
    omega
abbrev Vs (u : Hp) (A : Option Addr) (n : Nat) (xs : List V) : Prop := Rd V.c 4 u A n xs
theorem take_flat {xs : List V} {k : Nat} {z : V} (h : xs[k]? = some z) : (xs.take (k + 1)).flatMap tx1 = (xs.take k).flatMap tx1 ++ tx1 z := by
  rw [take_snoc h]; simp
theorem cats (z : V) (hs : z.s.size ≤ 500) (d1 : (dec z.k).size ≤ 21) (d2 : (dec z.n).size ≤ 21) (d3 : (dec z.a).size ≤ 21) (d4 : (dec (z.s.size : Int)).size ≤ 21) :
    (dec z.k).size + comma.size ≤ 9223372036854775807 ∧ (dec z.k ++ comma).size + (dec z.n).size ≤ 9223372036854775807 ∧ ((dec z.k ++ comma) ++ dec z.n).size + comma.size ≤ 9223372036854775807 ∧ (((dec z.k ++ comma) ++ dec z.n) ++ comma).size + (dec z.a).size ≤ 9223372036854775807 ∧
    ((((dec z.k ++ comma) ++ dec z.n) ++ comma) ++ dec z.a).size + comma.size ≤ 9223372036854775807 ∧ (((((dec z.k ++ comma) ++ dec z.n) ++ comma) ++ dec z.a) ++ comma).size + (dec (z.s.size : Int)).size ≤ 9223372036854775807 ∧
    ((((((dec z.k ++ comma) ++ dec z.n) ++ comma) ++ dec z.a) ++ comma) ++ dec (z.s.size : Int)).size + colon.size ≤ 9223372036854775807 ∧ (((((((dec z.k ++ comma) ++ dec z.n) ++ comma) ++ dec z.a) ++ comma) ++ dec (z.s.size : Int)) ++ colon).size + z.s.size ≤ 9223372036854775807 ∧ (txB z).size ≤ 1000 := by
  have c1 : comma.size = 1 := rfl
  have c2 : colon.size = 1 := rfl
  unfold txB
  simp only [ByteArray.size_append, c1, c2]
  omega
theorem classes76 (ts : List (List Pr)) (A : Option Addr) (n cA : Nat) (h : Hp) (hP : Tabs h A n ts) (hCl : ClOk ts) (htab : Tab10 h) :
    TriS Tryd.prog 76 [.v (.slice A n cA)] [] h (fun y : Option Addr × Nat => .v (.slice y.1 ts.length y.2)) (fun _ => []) (fun y h' => Own h' y.1 ts.length y.2 3 1 ((cI (cls (ts.map srt))).flatMap Ic) ∧ Le h h' ∧ Off h y.1) := by
  obtain rfl := hP.len
  have hnum := hCl.num
  have hstl : (ts.map srt).length = ts.length := List.length_map _
  refine enterS Tryd.func76 rfl (n := 130) rfl rfl (fun k N => ?_)
  repeat' (first | (refine r_pure hT rfl rfl rfl rfl ?_) | (refine r_new hT rfl rfl rfl rfl ?_) | (refine r_write hT rfl rfl rfl ?_) | (refine r_nil ?_) | (refine q_nil ?_) | (refine r_makeN (t := 25) hT rfl rfl rfl rfl rfl rfl rfl (by simp) rfl rfl (by dsimp only; omega) (by omega) (fun b1 (hb1 : h b1 = none) => ?_)) | (refine r_makeN (t := 153) hT rfl rfl rfl rfl rfl rfl rfl (by simp) rfl rfl (by dsimp only; omega) (by omega) (fun b2 hb2 => ?_)) | (refine r_arith rfl rfl rfl rfl rfl rfl rfl (by omega) ?_) | (with_reducible refine r_seq ?_) | (with_reducible refine x_then ?_) | (with_reducible refine r_region ?_) | (refine r_draw hM (by kernel_rfl) ?_) | (with_reducible refine r_skip ?_) | (with_reducible refine r_ret ?_) | (with_reducible refine x_then_ret ?_) | (with_reducible refine r_block ?_) | (with_reducible refine x_block ?_) | (with_reducible refine x_block_ret ?_) | (with_reducible refine r_exit ?_) | (with_reducible refine x_then_exit ?_) | (with_reducible refine x_block_here ?_) | (refine x_block_past rfl ?_) | (refine c_yes rfl (by omega) ?_) | (refine c_no rfl (by omega) ?_) | (refine c_no rfl (fun h => h rfl) ?_) | (refine r_cond_false rfl ?_) | (refine r_cond_true rfl ?_) | (refine r_cond_dec rfl (fun _ => ?_) (fun _ => ?_)) | (refine r_cond_true rfl ?_) | (refine r_cond_false rfl ?_) | (refine c_not rfl (fun _ => ?_) (fun _ => ?_)) | (refine r_off rfl rfl rfl ?_) | (refine q_guard rfl rfl (fun _ => ?_) (fun _ => ?_)) | (refine q_guardn rfl rfl (fun _ => ?_) (fun _ => ?_)))
  replace hb2 : upd h b1 (.cells (reps ts.length [Value.int .i64 0]).toArray 3 (0, 0)) b2 = none := hb2
  have n12 : b2 ≠ b1 := fun e => by rw [e, upd_here] at hb2; cases hb2
  have hb20 : h b2 = none := by rw [upd_ne n12] at hb2; exact hb2
  have hl2 := le_frsh (o := (.cells (reps ts.length zT).toArray 57 (0, 0))) (le_frsh (o := (.cells (reps ts.length [Value.int .i64 0]).toArray 3 (0, 0))) (Le.refl h) hb1) hb2
  have hO1 : Own (upd (upd h b1 (.cells (reps ts.length [Value.int .i64 0]).toArray 3 (0, 0))) b2 (.cells (reps ts.length zT).toArray 57 (0, 0))) (some ⟨b1, 0, none⟩) ts.length ts.length 3 1 (reps ts.length [Value.int .i64 0]) := own_fr (own_made rfl) hb2
  have hO2 : Own (upd (upd h b1 (.cells (reps ts.length [Value.int .i64 0]).toArray 3 (0, 0))) b2 (.cells (reps ts.length zT).toArray 57 (0, 0))) (some ⟨b2, 0, none⟩) ts.length ts.length 57 1 (reps ts.length zT) := own_made rfl
  refine r_loop (γ := (Nat × Hp) × List Hd) (fun g => g.1.1 ≤ ts.length ∧ g.2.length = g.1.1 ∧ Le h g.1.2 ∧ Own g.1.2 (some ⟨b1, 0, none⟩) ts.length ts.length 3 1 (reps ts.length [Value.int .i64 0]) ∧ Own g.1.2 (some ⟨b2, 0, none⟩) ts.length ts.length 57 1 (g.2.flatMap Hd.v ++ reps (ts.length - g.1.1) zT) ∧ ORows g.1.2 61 (some b2) g.2 ((ts.map srt).take g.1.1))
    (fun g => [(0, .v (.slice A ts.length cA)), (3, .v (.slice (some ⟨b1, 0, none⟩) ts.length ts.length)), (4, .v (.slice (some ⟨b2, 0, none⟩) ts.length ts.length)), (26, .v (.slice A ts.length cA)), (27, .v (.int .i64 (ts.length : Int))), (28, .v (.int .i64 (g.1.1 : Int)))]) (fun _ => []) (fun g => g.1.2) (fun g => ts.length - g.1.1)
    ((0, _), []) ⟨Nat.zero_le _, rfl, hl2, hO1, by simp only [List.flatMap_nil, List.nil_append, Nat.sub_zero]; exact hO2, ORows.nil⟩ (into rfl ⟨rfl, rfl, rfl, rfl, rfl, rfl, trivial⟩ trivial rfl rfl) ?_
  rintro ⟨⟨i, v⟩, hs⟩ ⟨hi, hlen, hle, hOc, hO, hR⟩
  dsimp only at *
  by_cases hlt : i < ts.length
  · obtain ⟨b, off, A1, n1, c1, t, rfl, hd, hix, hm, hat, hc1, hp1⟩ := (hP.le hle).elem hlt
    have htl := (hCl.tok t hm).1
    repeat' (first | (refine r_pure hT rfl rfl rfl rfl ?_) | (refine r_new hT rfl rfl rfl rfl ?_) | (refine r_write hT rfl rfl rfl ?_) | (refine r_nil ?_) | (refine q_nil ?_) | (refine r_indexN hT rfl rfl rfl rfl rfl rfl rfl rfl rfl (by omega) ?_) | (refine r_load hT hat rfl rfl rfl rfl rfl (Nat.add_zero _).symm rfl rfl rfl rfl rfl ?_) | (refine r_call (sorted78 t A1 n1 c1 _ hp1 (fun p hp => hCl.kd hm hp) (by omega)) rfl rfl rfl rfl rfl (YtkamfnmbidnhdaaDoor.hC _ rfl) rfl rfl (fun y u1 hy => ?_)) | (refine r_store_own (o := i * 1) hT (hO.le fun b o hb => hy.choose_spec.2.2.2.1 b o) rfl rfl rfl rfl rfl rfl rfl rfl rfl rfl rfl (by rw [hO.len]; show i * 1 + 1 ≤ ts.length * 1; omega) (fun u' hO' hu' => ?_)) | (refine r_arith rfl rfl rfl rfl rfl rfl rfl (by omega) ?_) | (with_reducible refine r_seq ?_) | (with_reducible refine x_then ?_) | (with_reducible refine r_region ?_) | (refine r_draw hM (by kernel_rfl) ?_) | (with_reducible refine r_skip ?_) | (with_reducible refine r_ret ?_) | (with_reducible refine x_then_ret ?_) | (with_reducible refine r_block ?_) | (with_reducible refine x_block ?_) | (with_reducible refine x_block_ret ?_) | (with_reducible refine r_exit ?_) | (with_reducible refine x_then_exit ?_) | (with_reducible refine x_block_here ?_) | (refine x_block_past rfl ?_) | (refine c_yes rfl (by omega) ?_) | (refine c_no rfl (by omega) ?_) | (refine c_no rfl (fun h => h rfl) ?_) | (refine r_cond_false rfl ?_) | (refine r_cond_true rfl ?_) | (refine r_cond_dec rfl (fun _ => ?_) (fun _ => ?_)) | (refine r_cond_true rfl ?_) | (refine r_cond_false rfl ?_) | (refine c_not rfl (fun _ => ?_) (fun _ => ?_)) | (refine r_off rfl rfl rfl ?_) | (refine q_guard rfl rfl (fun _ => ?_) (fun _ => ?_)) | (refine q_guardn rfl rfl (fun _ => ?_) (fun _ => ?_)))
    obtain ⟨ys, hy1, hy2, hy3, hy4, hy5⟩ := hy
    obtain rfl := hCl.uniq hm hy1 hy2
    have hvb : v b2 ≠ none := hO.live rfl
    have hyb : ∀ b, blk y.1 = some b → some b2 ≠ some b ∧ v b = none := fun b hb => ⟨fun e => by have e := Option.some.inj e; subst e; exact hvb (hy5 _ hb), hy5 b hb⟩
    have hkeep : ∀ b o, b ≠ b2 → v b = some o → u' b = some o := fun b o hb hv => by rw [hu' b hb]; exact hy4 b o hv
    rw [show [Value.slice y.1 t.length y.2] = Hd.v ⟨y.1, t.length, y.2⟩ from rfl, set_snoc Hd.v_len rfl ⟨y.1, t.length, y.2⟩ hlen hlt] at hO'
    refine x_round ((i + 1, u'), hs ++ [⟨y.1, t.length, y.2⟩]) ⟨hlt, by simp [hlen], fun x o hx => hkeep x o (fun e => by subst e; rw [hb20] at hx; cases hx) (hle x o hx), hOc.le fun b o hb => hkeep b o (fun e => n12 (by rw [← e]; exact (Option.some.inj hb).symm)), hO', ?_⟩ (by simp; omega) (into rfl ⟨rfl, rfl, rfl, rfl, rfl, rfl, trivial⟩ trivial rfl rfl)
    show ORows u' 61 (some b2) (hs ++ [⟨y.1, t.length, y.2⟩]) ((ts.map srt).take (i + 1))
    have htk : (ts.map srt).take (i + 1) = (ts.map srt).take i ++ [srt t] := by rw [List.take_add_one, ClOk.srt_mem hix]; rfl
    rw [htk]
    refine hR.snoc (fun b o ⟨x, hx, hb⟩ hv => hkeep b o (fun e => ?_) hv) (y := ⟨y.1, t.length, y.2⟩) (srt_perm t).length_eq.symm (hy3.le fun b o hb ho => by rw [hu' b (fun e => (hyb b hb).1 (by rw [e]))]; exact ho) hyb
    obtain ⟨j, hj, e'⟩ := List.getElem_of_mem hx
    exact (hR.apart j x b (by rw [List.getElem?_eq_getElem hj, e']) hb).1 (by rw [e])
  · obtain rfl : i = ts.length := by omega
    have htk : (ts.map srt).take ts.length = ts.map srt := by rw [← hstl, List.take_length]
    rw [htk] at hR
    simp only [Nat.sub_self, reps, List.append_nil] at hO
    repeat' (first | (refine r_pure hT rfl rfl rfl rfl ?_) | (refine r_new hT rfl rfl rfl rfl ?_) | (refine r_write hT rfl rfl rfl ?_) | (refine r_nil ?_) | (refine q_nil ?_) | (refine r_arith rfl rfl rfl rfl rfl rfl rfl (by omega) ?_) | (with_reducible refine r_seq ?_) | (with_reducible refine x_then ?_) | (with_reducible refine r_region ?_) | (refine r_draw hM (by kernel_rfl) ?_) | (with_reducible refine r_skip ?_) | (with_reducible refine r_ret ?_) | (with_reducible refine x_then_ret ?_) | (with_reducible refine r_block ?_) | (with_reducible refine x_block ?_) | (with_reducible refine x_block_ret ?_) | (with_reducible refine r_exit ?_) | (with_reducible refine x_then_exit ?_) | (with_reducible refine x_block_here ?_) | (refine x_block_past rfl ?_) | (refine c_yes rfl (by omega) ?_) | (refine c_no rfl (by omega) ?_) | (refine c_no rfl (fun h => h rfl) ?_) | (refine r_cond_false rfl ?_) | (refine r_cond_true rfl ?_) | (refine r_cond_dec rfl (fun _ => ?_) (fun _ => ?_)) | (refine r_cond_true rfl ?_) | (refine r_cond_false rfl ?_) | (refine c_not rfl (fun _ => ?_) (fun _ => ?_)) | (refine r_off rfl rfl rfl ?_) | (refine q_guard rfl rfl (fun _ => ?_) (fun _ => ?_)) | (refine q_guardn rfl rfl (fun _ => ?_) (fun _ => ?_)))
    have hSR : Rd Hd.v 1 v (some ⟨b2, 0, none⟩) ts.length hs := ⟨hlen.symm, hO.sl⟩
    have hIn := hCl.inSrt
    refine r_loop (γ := ((Nat × Nat) × List Nat) × (Hp × (Option Addr × Nat))) (fun g => Rch (ts.map srt) g.1.1.1 g.1.2 ∧ (ts.length ≠ 0 → g.1.1.2 = cnt ts.length g.1.2) ∧ g.1.1.2 ≤ 1000000 ∧ Le v g.2.1 ∧ Own g.2.1 g.2.2.1 ts.length g.2.2.2 3 1 ((cI g.1.2).flatMap Ic) ∧ Off h g.2.2.1)
      (fun g => [(0, .v (.slice A ts.length cA)), (3, .v (.slice g.2.2.1 ts.length g.2.2.2)), (4, .v (.slice (some ⟨b2, 0, none⟩) ts.length ts.length)), (7, .v (.int .i64 (g.1.1.2 : Int)))]) (fun _ => []) (fun g => g.2.1) (fun g => if ts.length = 0 then g.1.1.2 else g.1.1.1)
      (((ts.length + 1, 1), List.replicate ts.length 0), (v, (some ⟨b1, 0, none⟩, ts.length)))
      ⟨by have := rch_start (ts.map srt); rwa [hstl] at this, fun hn => (cnt_zero hn).symm, by dsimp only; omega, Le.refl v, by dsimp only; rw [cI_zero]; exact hOc, fun b hb => by have e := Option.some.inj hb; subst e; exact hb1⟩ (into rfl ⟨rfl, rfl, rfl, rfl, trivial⟩ trivial rfl rfl) ?_
    rintro ⟨⟨⟨f, cn⟩, c⟩, ⟨u0, ⟨Ac, cc⟩⟩⟩ ⟨hRch, hcn, hcn2, hl0, hOw, hoff⟩
    dsimp only at *
    have hGc := hRch.good
    rw [hstl] at hGc
    have hcl := hGc.len
    have hcin : CIn ts.length c := good_cin hGc
    have hPc : Ints u0 Ac ts.length (cI c) := ⟨by rw [cI_len, hcl], hOw.sl⟩
    repeat' (first | (refine r_pure hT rfl rfl rfl rfl ?_) | (refine r_new hT rfl rfl rfl rfl ?_) | (refine r_write hT rfl rfl rfl ?_) | (refine r_nil ?_) | (refine q_nil ?_) | (refine r_mkmap rfl rfl rfl rfl (fun gm hgm => ?_)) | (refine r_makeN (t := 25) hT rfl rfl rfl rfl rfl rfl rfl (by simp) rfl rfl (by dsimp only; omega) (by omega) (fun b9 hb9 => ?_)) | (refine r_arith rfl rfl rfl rfl rfl rfl rfl (by omega) ?_) | (with_reducible refine r_seq ?_) | (with_reducible refine x_then ?_) | (with_reducible refine r_region ?_) | (refine r_draw hM (by kernel_rfl) ?_) | (with_reducible refine r_skip ?_) | (with_reducible refine r_ret ?_) | (with_reducible refine x_then_ret ?_) | (with_reducible refine r_block ?_) | (with_reducible refine x_block ?_) | (with_reducible refine x_block_ret ?_) | (with_reducible refine r_exit ?_) | (with_reducible refine x_then_exit ?_) | (with_reducible refine x_block_here ?_) | (refine x_block_past rfl ?_) | (refine c_yes rfl (by omega) ?_) | (refine c_no rfl (by omega) ?_) | (refine c_no rfl (fun h => h rfl) ?_) | (refine r_cond_false rfl ?_) | (refine r_cond_true rfl ?_) | (refine r_cond_dec rfl (fun _ => ?_) (fun _ => ?_)) | (refine r_cond_true rfl ?_) | (refine r_cond_false rfl ?_) | (refine c_not rfl (fun _ => ?_) (fun _ => ?_)) | (refine r_off rfl rfl rfl ?_) | (refine q_guard rfl rfl (fun _ => ?_) (fun _ => ?_)) | (refine q_guardn rfl rfl (fun _ => ?_) (fun _ => ?_)))
    replace hb9 : upd u0 gm (.map #[] 0) b9 = none := hb9
    have n9 : b9 ≠ gm := fun e => by rw [e, upd_here] at hb9; cases hb9
    have hb90 : u0 b9 = none := by rw [upd_ne n9] at hb9; exact hb9
    have hl9 := le_frsh (o := (.cells (reps ts.length [Value.int .i64 0]).toArray 3 (0, 0))) (le_frsh (o := (.map #[] 0)) (Le.refl u0) hgm) hb9
    have hM9 : MAt Tryd.prog sKey (upd (upd u0 gm (.map #[] 0)) b9 (.cells (reps ts.length [Value.int .i64 0]).toArray 3 (0, 0))) gm [] := (MAt.made Tryd.prog sKey u0 gm).le (le_frsh (Le.refl _) hb9)
    refine r_loop (γ := (Nat × Hp) × List (ByteArray × Int)) (fun g => g.1.1 ≤ ts.length ∧ Le u0 g.1.2 ∧ MAt Tryd.prog sKey g.1.2 gm g.2 ∧ LM (kss (ts.map srt) c) g.1.1 g.2 ∧ Own g.1.2 (some ⟨b9, 0, none⟩) ts.length ts.length 3 1 (((cI (nxt (ts.map srt) c)).take g.1.1).flatMap Ic ++ reps (ts.length - g.1.1) [Value.int .i64 0]))
      (fun g => [(0, .v (.slice A ts.length cA)), (3, .v (.slice Ac ts.length cc)), (4, .v (.slice (some ⟨b2, 0, none⟩) ts.length ts.length)), (7, .v (.int .i64 (cn : Int))), (8, .v (.map (some gm))), (9, .v (.slice (some ⟨b9, 0, none⟩) ts.length ts.length)), (44, .v (.int .i64 (ts.length : Int))), (45, .v (.int .i64 (g.1.1 : Int)))]) (fun _ => []) (fun g => g.1.2) (fun g => ts.length - g.1.1)
      ((0, _), []) ⟨Nat.zero_le _, hl9, hM9, LM.start _, by simp only [List.take_zero, List.flatMap_nil, List.nil_append, Nat.sub_zero]; exact own_made rfl⟩ (into rfl ⟨rfl, rfl, rfl, rfl, rfl, rfl, rfl, rfl, trivial⟩ trivial rfl rfl) ?_
    rintro ⟨⟨i, w⟩, m⟩ ⟨hi, hlw, hMw, hLM, hOn⟩
    dsimp only at *
    have hnl : (nxt (ts.map srt) c).length = ts.length := by rw [nxt_len, hstl]
    by_cases hlt : i < ts.length
    · obtain ⟨t, hix⟩ : ∃ t, ts[i]? = some t := ⟨_, List.getElem?_eq_getElem hlt⟩
      have hmt := List.mem_of_getElem? hix
      have hst := ClOk.srt_mem hix
      obtain ⟨b', off', x, e2, _, hxi, _, hatS⟩ := hSR.elem Hd.v_len (i := i) (by omega)
      have e3 := Option.some.inj e2
      simp only [Addr.mk.injEq] at e3
      obtain ⟨rfl, rfl, _⟩ := e3
      obtain ⟨hxn, hxo⟩ := hR.rows i x (srt t) hxi hst
      obtain ⟨xA, xn, xc⟩ := x
      dsimp only at hxn hxo
      subst hxn
      have hlvw : Le v w := hl0.trans hlw
      have hcap := hxo.cap
      have htl := (hCl.tok t hmt).1
      have hsl := (srt_perm t).length_eq
      have hTf : ∀ p ∈ srt t, Tf p.key ∧ Tf (lk c p.val) := fun p hp => ⟨hCl.tfk hmt ((srt_perm t).mem_iff.1 hp), hCl.tfv hmt ((srt_perm t).mem_iff.1 hp) hcin⟩
      repeat' (first | (refine r_pure hT rfl rfl rfl rfl ?_) | (refine r_new hT rfl rfl rfl rfl ?_) | (refine r_write hT rfl rfl rfl ?_) | (refine r_nil ?_) | (refine q_nil ?_) | (refine r_indexN hT rfl rfl rfl rfl rfl rfl rfl rfl rfl (by omega) ?_) | (refine r_load hT (hatS.le hlvw) rfl rfl rfl rfl rfl (Nat.add_zero _).symm rfl rfl rfl rfl rfl ?_) | (refine r_arith rfl rfl rfl rfl rfl rfl rfl (by omega) ?_) | (with_reducible refine r_seq ?_) | (with_reducible refine x_then ?_) | (with_reducible refine r_region ?_) | (with_reducible refine r_skip ?_) | (with_reducible refine r_ret ?_) | (with_reducible refine x_then_ret ?_) | (with_reducible refine r_block ?_) | (with_reducible refine x_block ?_) | (with_reducible refine x_block_ret ?_) | (with_reducible refine r_exit ?_) | (with_reducible refine x_then_exit ?_) | (with_reducible refine x_block_here ?_) | (refine x_block_past rfl ?_) | (refine c_yes rfl (by omega) ?_) | (refine c_no rfl (by omega) ?_) | (refine c_no rfl (fun h => h rfl) ?_) | (refine r_cond_false rfl ?_) | (refine r_cond_true rfl ?_) | (refine r_cond_dec rfl (fun _ => ?_) (fun _ => ?_)) | (refine r_cond_true rfl ?_) | (refine r_cond_false rfl ?_) | (refine c_not rfl (fun _ => ?_) (fun _ => ?_)) | (refine r_off rfl rfl rfl ?_) | (refine q_guard rfl rfl (fun _ => ?_) (fun _ => ?_)) | (refine q_guardn rfl rfl (fun _ => ?_) (fun _ => ?_)))
      refine St.pub 11 rfl rfl rfl (fun pb hpb => ?_)
      have hB0 : BSt w (upd w pb (.cells (bdC [] [] (.pointer none) none 0 0).toArray 93 (0, 0))) pb 93 [] [] (.pointer none) none 0 [] := ⟨upd_here .., own_nil, fun a ha => (by cases ha), .inl rfl, le_frsh (Le.refl w) hpb, hpb, off_nil, by simp [blk]⟩
      refine r_loop (γ := (Nat × Hp) × ((Option Addr × Nat) × Value)) (fun g => g.1.1 ≤ (srt t).length ∧ BSt w g.1.2 pb 93 [] [] g.2.2 g.2.1.1 g.2.1.2 (keyS c ((srt t).take g.1.1)) ∧ (keyS c ((srt t).take g.1.1) = [] → g.2.1.1 = none))
        (fun g => [(0, .v (.slice A ts.length cA)), (3, .v (.slice Ac ts.length cc)), (4, .v (.slice (some ⟨b2, 0, none⟩) ts.length ts.length)), (7, .v (.int .i64 (cn : Int))), (8, .v (.map (some gm))), (9, .v (.slice (some ⟨b9, 0, none⟩) ts.length ts.length)), (44, .v (.int .i64 (ts.length : Int))), (45, .v (.int .i64 (i : Int))), (10, .v (.int .i64 (i : Int))), (11, .v (.pointer (some ⟨pb, 0, none⟩))), (51, .v (.slice xA (srt t).length xc)), (52, .v (.int .i64 ((srt t).length : Int))), (53, .v (.int .i64 (g.1.1 : Int)))]) (fun _ => []) (fun g => g.1.2) (fun g => (srt t).length - g.1.1)
        ((0, _), ((none, 0), .pointer none)) ⟨Nat.zero_le _, hB0, fun _ => rfl⟩ (into rfl ⟨rfl, rfl, rfl, rfl, rfl, rfl, rfl, rfl, rfl, rfl, rfl, rfl, rfl, trivial⟩ trivial rfl rfl) ?_
      rintro ⟨⟨j, w2⟩, ⟨⟨Ab2, cb2⟩, ad2⟩⟩ ⟨hj, hBs, hz2⟩
      dsimp only at *
      have hol : (keyS c ((srt t).take j)).length ≤ 120000 := by
        have h1 := keyS_len (c := c) (l := (srt t).take j) (fun p hp => hTf p (List.mem_of_mem_take hp))
        have h2 := List.length_take_le j (srt t)
        have h3 : ((srt t).take j).length ≤ 100 := by omega
        omega
      by_cases hltj : j < (srt t).length
      · obtain ⟨b4, off4, p, rfl, _, hixp, hmp, hatp⟩ := (own_pairs hxo).elem Pr.c_len hltj
        replace hatp := hatp.le (hlvw.trans hBs.base)
        have hTk := (hTf p hmp).1
        have hTv := (hTf p hmp).2
        have hpt := (srt_perm t).mem_iff.1 hmp
        have hva := hCl.inAll t hmt p hpt
        generalize ho2 : keyS c ((srt t).take j) = o at *
        by_cases h4 : p.val.k = 4
        · have hva' := hva h4
          obtain ⟨b7, off7, q, rfl, _, hixq, _, hatc⟩ := hPc.elem Ic_len (i := p.val.a.toNat) (by rw [cI_len, hcl]; omega)
          obtain rfl := cI_get hixq
          replace hatc := hatc.le (hlw.trans hBs.base)
          have hlk : (⟨p.val.k, p.val.n, p.val.s, (at0 c p.val.a.toNat : Nat)⟩ : V) = lk c p.val := by unfold lk; rw [if_pos h4]; rfl
          rw [← hlk] at hTv
          repeat' (first | (refine r_pure hT rfl rfl rfl rfl ?_) | (refine r_new hT rfl rfl rfl rfl ?_) | (refine r_write hT rfl rfl rfl ?_) | (refine r_nil ?_) | (refine q_nil ?_) | (refine r_indexN hT rfl rfl rfl rfl rfl rfl rfl rfl rfl (by omega) ?_) | (refine r_load hT hatp rfl rfl rfl rfl rfl (Nat.add_zero _).symm rfl rfl rfl rfl rfl ?_) | (refine c_yes rfl h4 ?_) | (refine r_index hT rfl rfl rfl rfl rfl rfl rfl rfl rfl hva'.1 hva'.2 ?_) | (refine r_load hT hatc rfl rfl rfl rfl rfl (Nat.add_zero _).symm rfl rfl rfl rfl rfl ?_) | (refine r_bslice hT (ps := [(0, .tmp 69), (1, .tmp 70)]) rfl rfl rfl rfl rfl rfl rfl (by simp) rfl rfl (by decide) (fun bv hbv => ?_)) | (refine r_arith rfl rfl rfl rfl rfl rfl rfl (by omega) ?_) | (with_reducible refine r_seq ?_) | (with_reducible refine x_then ?_) | (with_reducible refine r_region ?_) | (with_reducible refine r_skip ?_) | (with_reducible refine r_ret ?_) | (with_reducible refine x_then_ret ?_) | (with_reducible refine r_block ?_) | (with_reducible refine x_block ?_) | (with_reducible refine x_block_ret ?_) | (with_reducible refine r_exit ?_) | (with_reducible refine x_then_exit ?_) | (with_reducible refine x_block_here ?_) | (refine x_block_past rfl ?_) | (refine c_yes rfl (by omega) ?_) | (refine c_no rfl (by omega) ?_) | (refine c_no rfl (fun h => h rfl) ?_) | (refine r_cond_false rfl ?_) | (refine r_cond_true rfl ?_) | (refine r_cond_dec rfl (fun _ => ?_) (fun _ => ?_)) | (refine r_cond_true rfl ?_) | (refine r_cond_false rfl ?_) | (refine c_not rfl (fun _ => ?_) (fun _ => ?_)) | (refine r_off rfl rfl rfl ?_) | (refine q_guard rfl rfl (fun _ => ?_) (fun _ => ?_)) | (refine q_guardn rfl rfl (fun _ => ?_) (fun _ => ?_)))
          have hB2 : BSt (upd w bv (.cells (p.key.c ++ (⟨p.val.k, p.val.n, p.val.s, (at0 c p.val.a.toNat : Nat)⟩ : V).c).toArray 48 (0, 0))) (upd w2 bv (.cells (p.key.c ++ (⟨p.val.k, p.val.n, p.val.s, (at0 c p.val.a.toNat : Nat)⟩ : V).c).toArray 48 (0, 0))) pb 93 [] [] ad2 Ab2 cb2 o := hBs.beside _ hbv
          have hVs : Vs (upd w bv (.cells (p.key.c ++ (⟨p.val.k, p.val.n, p.val.s, (at0 c p.val.a.toNat : Nat)⟩ : V).c).toArray 48 (0, 0))) (some ⟨bv, 0, none⟩) 2 [p.key, (⟨p.val.k, p.val.n, p.val.s, (at0 c p.val.a.toNat : Nat)⟩ : V)] := ⟨rfl, sl_blk (upd_here ..) rfl⟩
          have hwbv : w bv = none := none_of hBs.base hbv
          refine r_loop (γ := (Nat × Hp) × ((Option Addr × Nat) × Value)) (fun g => g.1.1 ≤ 2 ∧ BSt (upd w bv (.cells (p.key.c ++ (⟨p.val.k, p.val.n, p.val.s, (at0 c p.val.a.toNat : Nat)⟩ : V).c).toArray 48 (0, 0))) g.1.2 pb 93 [] [] g.2.2 g.2.1.1 g.2.1.2 (o ++ ([p.key, (⟨p.val.k, p.val.n, p.val.s, (at0 c p.val.a.toNat : Nat)⟩ : V)].take g.1.1).flatMap tx1))
            (fun g => [(0, .v (.slice A ts.length cA)), (3, .v (.slice (some ⟨b7, off7, none⟩) ts.length cc)), (4, .v (.slice (some ⟨b2, 0, none⟩) ts.length ts.length)), (7, .v (.int .i64 (cn : Int))), (8, .v (.map (some gm))), (9, .v (.slice (some ⟨b9, 0, none⟩) ts.length ts.length)), (44, .v (.int .i64 (ts.length : Int))), (45, .v (.int .i64 (i : Int))), (10, .v (.int .i64 (i : Int))), (11, .v (.pointer (some ⟨pb, 0, none⟩))), (51, .v (.slice (some ⟨b4, off4, none⟩) (srt t).length xc)), (52, .v (.int .i64 ((srt t).length : Int))), (53, .v (.int .i64 (j : Int))), (71, .v (.slice (some ⟨bv, 0, none⟩) 2 2)), (72, .v (.int .i64 2)), (73, .v (.int .i64 (g.1.1 : Int)))]) (fun _ => []) (fun g => g.1.2) (fun g => 2 - g.1.1)
            ((0, upd w2 bv (.cells (p.key.c ++ (⟨p.val.k, p.val.n, p.val.s, (at0 c p.val.a.toNat : Nat)⟩ : V).c).toArray 48 (0, 0))), ((Ab2, cb2), ad2)) ⟨Nat.zero_le 2, by show BSt _ _ pb 93 [] [] ad2 Ab2 cb2 (o ++ []); rw [List.append_nil]; exact hB2⟩ (into rfl ⟨rfl, rfl, rfl, rfl, rfl, rfl, rfl, rfl, rfl, rfl, rfl, rfl, rfl, rfl, rfl, rfl, trivial⟩ trivial rfl rfl) ?_
          rintro ⟨⟨k3, uv⟩, ⟨⟨Ab3, cb3⟩, ad3⟩⟩ ⟨hk3, hB3⟩
          dsimp only at *
          have htv : Tab10 uv := (htab.le hle).le ((hl0.trans hlw).trans ((le_frsh (Le.refl w) hwbv).trans hB3.base))
          by_cases hlt3 : k3 < 2
          · obtain ⟨b5, off5, z, e5, _, hzx, hzm, hatz⟩ := (hVs.le hB3.base).elem V.c_len (i := k3) hlt3
            have e6 := Option.some.inj e5
            simp only [Addr.mk.injEq] at e6
            obtain ⟨rfl, rfl, _⟩ := e6
            have hz : Tf z := by
              rcases List.mem_cons.1 hzm with rfl | hz
              · exact hTk
              · rw [List.mem_singleton.1 hz]; exact hTv
            have hzk := hz.k
            have hza := hz.a
            have hzs := hz.s
            have d1 := dec_size (n := z.k) (by omega) (by omega)
            have d2 := dec_size hz.n.1 hz.n.2
            have d3 := dec_size (n := z.a) (by omega) (by omega)
            have d4 := dec_size (n := (z.s.size : Int)) (by omega) (by omega)
            obtain ⟨hcat1, hcat2, hcat3, hcat4, hcat5, hcat6, hcat7, hcat8, hcat9⟩ := cats z hzs d1 d2 d3 d4
            have hol3 : (o ++ ([p.key, (⟨p.val.k, p.val.n, p.val.s, (at0 c p.val.a.toNat : Nat)⟩ : V)].take k3).flatMap tx1).length ≤ 1000000 := by
              have q1 := tx1_len hTk
              have q2 := tx1_len hTv
              rw [List.length_append]
              rcases (show k3 = 0 ∨ k3 = 1 by omega) with rfl | rfl
              · simp; omega
              · simp only [List.take_succ_cons, List.take_zero, List.flatMap_cons, List.flatMap_nil, List.append_nil]; omega
            have hcl1 := itoa115 z.k (by omega) (by omega) uv htv
            have hcl2 := fmt111 z.n hz.n.1 hz.n.2 uv htv
            have hcl3 := itoa115 z.a (by omega) (by omega) uv htv
            have hcl4 := itoa115 (z.s.size : Int) (by omega) (by omega) uv htv
            have hwr := writeS _ uv pb 93 [] [] ad3 Ab3 cb3 (o ++ ([p.key, (⟨p.val.k, p.val.n, p.val.s, (at0 c p.val.a.toNat : Nat)⟩ : V)].take k3).flatMap tx1) (txB z) hB3 lies93c (by omega)
            clear hz hzm hTf
            repeat' (first | (refine r_pure hT rfl rfl rfl rfl ?_) | (refine r_new hT rfl rfl rfl rfl ?_) | (refine r_write hT rfl rfl rfl ?_) | (refine r_nil ?_) | (refine q_nil ?_) | (refine r_indexN hT rfl rfl rfl rfl rfl rfl rfl rfl rfl hlt3 ?_) | (refine r_load hT hatz rfl rfl rfl rfl rfl (Nat.add_zero _).symm rfl rfl rfl rfl rfl ?_) | (refine r_manyD (id := 24) [0, 1, 4, 5, 9, 10, 14, 15, 16, 20, 21] [23] uv (Le.refl uv) hM (by kernel_rfl) rfl (by kernel_rfl) rfl rfl rfl (fun β0 => ?_)) | (refine m_stillD (fuel := 11) [3] (by kernel_rfl) rfl (by kernel_rfl) rfl (Le.refl uv) rfl ?_) | (refine m_stillD (fuel := 8) [7, 8] (by kernel_rfl) rfl (by kernel_rfl) rfl (Le.refl uv) rfl ?_) | (refine m_stillD (fuel := 5) [12, 13] (by kernel_rfl) rfl (by kernel_rfl) rfl (Le.refl uv) rfl ?_) | (refine m_stillD (fuel := 1) [18, 19, 22] (by kernel_rfl) rfl (by kernel_rfl) rfl (Le.refl uv) rfl ?_) | (refine p_call (hcl1) rfl rfl rfl rfl rfl (YtkamfnmbidnhdaaDoor.hC _ rfl) rfl rfl rfl ?_) | (refine p_call (hcl2) rfl rfl rfl rfl rfl (YtkamfnmbidnhdaaDoor.hC _ rfl) rfl rfl rfl ?_) | (refine p_call (hcl3) rfl rfl rfl rfl rfl (YtkamfnmbidnhdaaDoor.hC _ rfl) rfl rfl rfl ?_) | (refine p_call (hcl4) rfl rfl rfl rfl rfl (YtkamfnmbidnhdaaDoor.hC _ rfl) rfl rfl rfl ?_) | (refine m_keep (Le.refl uv) ⟨rfl, trivial⟩ rfl rfl ?_) | (refine r_concat rfl rfl rfl rfl rfl rfl (by first | with_reducible exact hcat1 | with_reducible exact hcat2 | with_reducible exact hcat3 | with_reducible exact hcat4 | with_reducible exact hcat5 | with_reducible exact hcat6 | with_reducible exact hcat7 | with_reducible exact hcat8) ?_) | (refine r_call hwr rfl rfl rfl rfl rfl (YtkamfnmbidnhdaaDoor.hC _ rfl) rfl rfl (fun y4 u4 hy4 => ?_)) | (refine m_late rfl rfl ?_) | (refine r_arith rfl rfl rfl rfl rfl rfl rfl (by omega) ?_) | (with_reducible refine r_seq ?_) | (with_reducible refine x_then ?_) | (with_reducible refine r_region ?_) | (with_reducible refine r_skip ?_) | (with_reducible refine r_ret ?_) | (with_reducible refine x_then_ret ?_) | (with_reducible refine r_block ?_) | (with_reducible refine x_block ?_) | (with_reducible refine x_block_ret ?_) | (with_reducible refine r_exit ?_) | (with_reducible refine x_then_exit ?_) | (with_reducible refine x_block_here ?_) | (refine x_block_past rfl ?_) | (refine c_yes rfl (by omega) ?_) | (refine c_no rfl (by omega) ?_) | (refine c_no rfl (fun h => h rfl) ?_) | (refine r_cond_false rfl ?_) | (refine r_cond_true rfl ?_) | (refine r_cond_dec rfl (fun _ => ?_) (fun _ => ?_)) | (refine r_cond_true rfl ?_) | (refine r_cond_false rfl ?_) | (refine c_not rfl (fun _ => ?_) (fun _ => ?_)) | (refine r_off rfl rfl rfl ?_) | (refine q_guard rfl rfl (fun _ => ?_) (fun _ => ?_)) | (refine q_guardn rfl rfl (fun _ => ?_) (fun _ => ?_)) | (refine s_nil ?_) | (with_reducible refine a_full ?_) | (refine m_step rfl rfl (List.cons_ne_nil _ _) ?_) | (refine allR_cons rfl ?_ ?_) | (exact allR_nil) | (refine m_end rfl rfl rfl ?_))
            obtain ⟨hB4, hK4⟩ := hy4
            rw [txB_list, List.append_assoc, ← take_flat hzx] at hB4
            exact x_round ((k3 + 1, u4), (y4, _)) ⟨hlt3, hB4⟩ (by dsimp only; omega) (into rfl ⟨rfl, rfl, rfl, rfl, rfl, rfl, rfl, rfl, rfl, rfl, rfl, rfl, rfl, rfl, rfl, rfl, trivial⟩ trivial rfl rfl)
          · obtain rfl : k3 = 2 := by omega
            repeat' (first | (refine r_pure hT rfl rfl rfl rfl ?_) | (refine r_new hT rfl rfl rfl rfl ?_) | (refine r_write hT rfl rfl rfl ?_) | (refine r_nil ?_) | (refine q_nil ?_) | (refine r_arith rfl rfl rfl rfl rfl rfl rfl (by omega) ?_) | (with_reducible refine r_seq ?_) | (with_reducible refine x_then ?_) | (with_reducible refine r_region ?_) | (refine r_draw hM (by kernel_rfl) ?_) | (with_reducible refine r_skip ?_) | (with_reducible refine r_ret ?_) | (with_reducible refine x_then_ret ?_) | (with_reducible refine r_block ?_) | (with_reducible refine x_block ?_) | (with_reducible refine x_block_ret ?_) | (with_reducible refine r_exit ?_) | (with_reducible refine x_then_exit ?_) | (with_reducible refine x_block_here ?_) | (refine x_block_past rfl ?_) | (refine c_yes rfl (by omega) ?_) | (refine c_no rfl (by omega) ?_) | (refine c_no rfl (fun h => h rfl) ?_) | (refine r_cond_false rfl ?_) | (refine r_cond_true rfl ?_) | (refine r_cond_dec rfl (fun _ => ?_) (fun _ => ?_)) | (refine r_cond_true rfl ?_) | (refine r_cond_false rfl ?_) | (refine c_not rfl (fun _ => ?_) (fun _ => ?_)) | (refine r_off rfl rfl rfl ?_) | (refine q_guard rfl rfl (fun _ => ?_) (fun _ => ?_)) | (refine q_guardn rfl rfl (fun _ => ?_) (fun _ => ?_)))
            have hB5 := hB3.weak (le_frsh (o := (.cells (p.key.c ++ (⟨p.val.k, p.val.n, p.val.s, (at0 c p.val.a.toNat : Nat)⟩ : V).c).toArray 48 (0, 0))) (Le.refl w) hwbv)
            have e7 : o ++ ([p.key, (⟨p.val.k, p.val.n, p.val.s, (at0 c p.val.a.toNat : Nat)⟩ : V)].take 2).flatMap tx1 = keyS c ((srt t).take (j + 1)) := by rw [keyS_snoc hixp, ← hlk]; simp [ho2]
            rw [e7] at hB5
            refine x_round ((j + 1, uv), ((Ab3, cb3), ad3)) ⟨hltj, hB5, fun e => ?_⟩ (by dsimp only; omega) (into rfl ⟨rfl, rfl, rfl, rfl, rfl, rfl, rfl, rfl, rfl, rfl, rfl, rfl, rfl, trivial⟩ trivial rfl rfl)
            rw [keyS_snoc hixp] at e
            exact absurd (List.append_eq_nil_iff.1 e).2 (tx1_ne _)
        · have hlk : p.val = lk c p.val := by unfold lk; rw [if_neg h4]
          rw [← hlk] at hTv
          repeat' (first | (refine r_pure hT rfl rfl rfl rfl ?_) | (refine r_new hT rfl rfl rfl rfl ?_) | (refine r_write hT rfl rfl rfl ?_) | (refine r_nil ?_) | (refine q_nil ?_) | (refine r_indexN hT rfl rfl rfl rfl rfl rfl rfl rfl rfl (by omega) ?_) | (refine r_load hT hatp rfl rfl rfl rfl rfl (Nat.add_zero _).symm rfl rfl rfl rfl rfl ?_) | (refine c_no rfl h4 ?_) | (refine r_bslice hT (ps := [(0, .tmp 69), (1, .tmp 70)]) rfl rfl rfl rfl rfl rfl rfl (by simp) rfl rfl (by decide) (fun bv hbv => ?_)) | (refine r_arith rfl rfl rfl rfl rfl rfl rfl (by omega) ?_) | (with_reducible refine r_seq ?_) | (with_reducible refine x_then ?_) | (with_reducible refine r_region ?_) | (with_reducible refine r_skip ?_) | (with_reducible refine r_ret ?_) | (with_reducible refine x_then_ret ?_) | (with_reducible refine r_block ?_) | (with_reducible refine x_block ?_) | (with_reducible refine x_block_ret ?_) | (with_reducible refine r_exit ?_) | (with_reducible refine x_then_exit ?_) | (with_reducible refine x_block_here ?_) | (refine x_block_past rfl ?_) | (refine c_yes rfl (by omega) ?_) | (refine c_no rfl (by omega) ?_) | (refine c_no rfl (fun h => h rfl) ?_) | (refine r_cond_false rfl ?_) | (refine r_cond_true rfl ?_) | (refine r_cond_dec rfl (fun _ => ?_) (fun _ => ?_)) | (refine r_cond_true rfl ?_) | (refine r_cond_false rfl ?_) | (refine c_not rfl (fun _ => ?_) (fun _ => ?_)) | (refine r_off rfl rfl rfl ?_) | (refine q_guard rfl rfl (fun _ => ?_) (fun _ => ?_)) | (refine q_guardn rfl rfl (fun _ => ?_) (fun _ => ?_)))
          have hB2 : BSt (upd w bv (.cells (p.key.c ++ p.val.c).toArray 48 (0, 0))) (upd w2 bv (.cells (p.key.c ++ p.val.c).toArray 48 (0, 0))) pb 93 [] [] ad2 Ab2 cb2 o := hBs.beside _ hbv
          have hVs : Vs (upd w bv (.cells (p.key.c ++ p.val.c).toArray 48 (0, 0))) (some ⟨bv, 0, none⟩) 2 [p.key, p.val] := ⟨rfl, sl_blk (upd_here ..) rfl⟩
          have hwbv : w bv = none := none_of hBs.base hbv
          refine r_loop (γ := (Nat × Hp) × ((Option Addr × Nat) × Value)) (fun g => g.1.1 ≤ 2 ∧ BSt (upd w bv (.cells (p.key.c ++ p.val.c).toArray 48 (0, 0))) g.1.2 pb 93 [] [] g.2.2 g.2.1.1 g.2.1.2 (o ++ ([p.key, p.val].take g.1.1).flatMap tx1))
            (fun g => [(0, .v (.slice A ts.length cA)), (3, .v (.slice Ac ts.length cc)), (4, .v (.slice (some ⟨b2, 0, none⟩) ts.length ts.length)), (7, .v (.int .i64 (cn : Int))), (8, .v (.map (some gm))), (9, .v (.slice (some ⟨b9, 0, none⟩) ts.length ts.length)), (44, .v (.int .i64 (ts.length : Int))), (45, .v (.int .i64 (i : Int))), (10, .v (.int .i64 (i : Int))), (11, .v (.pointer (some ⟨pb, 0, none⟩))), (51, .v (.slice (some ⟨b4, off4, none⟩) (srt t).length xc)), (52, .v (.int .i64 ((srt t).length : Int))), (53, .v (.int .i64 (j : Int))), (71, .v (.slice (some ⟨bv, 0, none⟩) 2 2)), (72, .v (.int .i64 2)), (73, .v (.int .i64 (g.1.1 : Int)))]) (fun _ => []) (fun g => g.1.2) (fun g => 2 - g.1.1)
            ((0, upd w2 bv (.cells (p.key.c ++ p.val.c).toArray 48 (0, 0))), ((Ab2, cb2), ad2)) ⟨Nat.zero_le 2, by show BSt _ _ pb 93 [] [] ad2 Ab2 cb2 (o ++ []); rw [List.append_nil]; exact hB2⟩ (into rfl ⟨rfl, rfl, rfl, rfl, rfl, rfl, rfl, rfl, rfl, rfl, rfl, rfl, rfl, rfl, rfl, rfl, trivial⟩ trivial rfl rfl) ?_
          rintro ⟨⟨k3, uv⟩, ⟨⟨Ab3, cb3⟩, ad3⟩⟩ ⟨hk3, hB3⟩
          dsimp only at *
          have htv : Tab10 uv := (htab.le hle).le ((hl0.trans hlw).trans ((le_frsh (Le.refl w) hwbv).trans hB3.base))
          by_cases hlt3 : k3 < 2
          · obtain ⟨b5, off5, z, e5, _, hzx, hzm, hatz⟩ := (hVs.le hB3.base).elem V.c_len (i := k3) hlt3
            have e6 := Option.some.inj e5
            simp only [Addr.mk.injEq] at e6
            obtain ⟨rfl, rfl, _⟩ := e6
            have hz : Tf z := by
              rcases List.mem_cons.1 hzm with rfl | hz
              · exact hTk
              · rw [List.mem_singleton.1 hz]; exact hTv
            have hzk := hz.k
            have hza := hz.a
            have hzs := hz.s
            have d1 := dec_size (n := z.k) (by omega) (by omega)
            have d2 := dec_size hz.n.1 hz.n.2
            have d3 := dec_size (n := z.a) (by omega) (by omega)
            have d4 := dec_size (n := (z.s.size : Int)) (by omega) (by omega)
            obtain ⟨hcat1, hcat2, hcat3, hcat4, hcat5, hcat6, hcat7, hcat8, hcat9⟩ := cats z hzs d1 d2 d3 d4
            have hol3 : (o ++ ([p.key, p.val].take k3).flatMap tx1).length ≤ 1000000 := by
              have q1 := tx1_len hTk
              have q2 := tx1_len hTv
              rw [List.length_append]
              rcases (show k3 = 0 ∨ k3 = 1 by omega) with rfl | rfl
              · simp; omega
              · simp only [List.take_succ_cons, List.take_zero, List.flatMap_cons, List.flatMap_nil, List.append_nil]; omega
            have hcl1 := itoa115 z.k (by omega) (by omega) uv htv
            have hcl2 := fmt111 z.n hz.n.1 hz.n.2 uv htv
            have hcl3 := itoa115 z.a (by omega) (by omega) uv htv
            have hcl4 := itoa115 (z.s.size : Int) (by omega) (by omega) uv htv
            have hwr := writeS _ uv pb 93 [] [] ad3 Ab3 cb3 (o ++ ([p.key, p.val].take k3).flatMap tx1) (txB z) hB3 lies93c (by omega)
            clear hz hzm hTf
            repeat' (first | (refine r_pure hT rfl rfl rfl rfl ?_) | (refine r_new hT rfl rfl rfl rfl ?_) | (refine r_write hT rfl rfl rfl ?_) | (refine r_nil ?_) | (refine q_nil ?_) | (refine r_indexN hT rfl rfl rfl rfl rfl rfl rfl rfl rfl hlt3 ?_) | (refine r_load hT hatz rfl rfl rfl rfl rfl (Nat.add_zero _).symm rfl rfl rfl rfl rfl ?_) | (refine r_manyD (id := 24) [0, 1, 4, 5, 9, 10, 14, 15, 16, 20, 21] [23] uv (Le.refl uv) hM (by kernel_rfl) rfl (by kernel_rfl) rfl rfl rfl (fun β0 => ?_)) | (refine m_stillD (fuel := 11) [3] (by kernel_rfl) rfl (by kernel_rfl) rfl (Le.refl uv) rfl ?_) | (refine m_stillD (fuel := 8) [7, 8] (by kernel_rfl) rfl (by kernel_rfl) rfl (Le.refl uv) rfl ?_) | (refine m_stillD (fuel := 5) [12, 13] (by kernel_rfl) rfl (by kernel_rfl) rfl (Le.refl uv) rfl ?_) | (refine m_stillD (fuel := 1) [18, 19, 22] (by kernel_rfl) rfl (by kernel_rfl) rfl (Le.refl uv) rfl ?_) | (refine p_call (hcl1) rfl rfl rfl rfl rfl (YtkamfnmbidnhdaaDoor.hC _ rfl) rfl rfl rfl ?_) | (refine p_call (hcl2) rfl rfl rfl rfl rfl (YtkamfnmbidnhdaaDoor.hC _ rfl) rfl rfl rfl ?_) | (refine p_call (hcl3) rfl rfl rfl rfl rfl (YtkamfnmbidnhdaaDoor.hC _ rfl) rfl rfl rfl ?_) | (refine p_call (hcl4) rfl rfl rfl rfl rfl (YtkamfnmbidnhdaaDoor.hC _ rfl) rfl rfl rfl ?_) | (refine m_keep (Le.refl uv) ⟨rfl, trivial⟩ rfl rfl ?_) | (refine r_concat rfl rfl rfl rfl rfl rfl (by first | with_reducible exact hcat1 | with_reducible exact hcat2 | with_reducible exact hcat3 | with_reducible exact hcat4 | with_reducible exact hcat5 | with_reducible exact hcat6 | with_reducible exact hcat7 | with_reducible exact hcat8) ?_) | (refine r_call hwr rfl rfl rfl rfl rfl (YtkamfnmbidnhdaaDoor.hC _ rfl) rfl rfl (fun y4 u4 hy4 => ?_)) | (refine m_late rfl rfl ?_) | (refine r_arith rfl rfl rfl rfl rfl rfl rfl (by omega) ?_) | (with_reducible refine r_seq ?_) | (with_reducible refine x_then ?_) | (with_reducible refine r_region ?_) | (with_reducible refine r_skip ?_) | (with_reducible refine r_ret ?_) | (with_reducible refine x_then_ret ?_) | (with_reducible refine r_block ?_) | (with_reducible refine x_block ?_) | (with_reducible refine x_block_ret ?_) | (with_reducible refine r_exit ?_) | (with_reducible refine x_then_exit ?_) | (with_reducible refine x_block_here ?_) | (refine x_block_past rfl ?_) | (refine c_yes rfl (by omega) ?_) | (refine c_no rfl (by omega) ?_) | (refine c_no rfl (fun h => h rfl) ?_) | (refine r_cond_false rfl ?_) | (refine r_cond_true rfl ?_) | (refine r_cond_dec rfl (fun _ => ?_) (fun _ => ?_)) | (refine r_cond_true rfl ?_) | (refine r_cond_false rfl ?_) | (refine c_not rfl (fun _ => ?_) (fun _ => ?_)) | (refine r_off rfl rfl rfl ?_) | (refine q_guard rfl rfl (fun _ => ?_) (fun _ => ?_)) | (refine q_guardn rfl rfl (fun _ => ?_) (fun _ => ?_)) | (refine s_nil ?_) | (with_reducible refine a_full ?_) | (refine m_step rfl rfl (List.cons_ne_nil _ _) ?_) | (refine allR_cons rfl ?_ ?_) | (exact allR_nil) | (refine m_end rfl rfl rfl ?_))
            obtain ⟨hB4, hK4⟩ := hy4
            rw [txB_list, List.append_assoc, ← take_flat hzx] at hB4
            exact x_round ((k3 + 1, u4), (y4, _)) ⟨hlt3, hB4⟩ (by dsimp only; omega) (into rfl ⟨rfl, rfl, rfl, rfl, rfl, rfl, rfl, rfl, rfl, rfl, rfl, rfl, rfl, rfl, rfl, rfl, trivial⟩ trivial rfl rfl)
          · obtain rfl : k3 = 2 := by omega
            repeat' (first | (refine r_pure hT rfl rfl rfl rfl ?_) | (refine r_new hT rfl rfl rfl rfl ?_) | (refine r_write hT rfl rfl rfl ?_) | (refine r_nil ?_) | (refine q_nil ?_) | (refine r_arith rfl rfl rfl rfl rfl rfl rfl (by omega) ?_) | (with_reducible refine r_seq ?_) | (with_reducible refine x_then ?_) | (with_reducible refine r_region ?_) | (refine r_draw hM (by kernel_rfl) ?_) | (with_reducible refine r_skip ?_) | (with_reducible refine r_ret ?_) | (with_reducible refine x_then_ret ?_) | (with_reducible refine r_block ?_) | (with_reducible refine x_block ?_) | (with_reducible refine x_block_ret ?_) | (with_reducible refine r_exit ?_) | (with_reducible refine x_then_exit ?_) | (with_reducible refine x_block_here ?_) | (refine x_block_past rfl ?_) | (refine c_yes rfl (by omega) ?_) | (refine c_no rfl (by omega) ?_) | (refine c_no rfl (fun h => h rfl) ?_) | (refine r_cond_false rfl ?_) | (refine r_cond_true rfl ?_) | (refine r_cond_dec rfl (fun _ => ?_) (fun _ => ?_)) | (refine r_cond_true rfl ?_) | (refine r_cond_false rfl ?_) | (refine c_not rfl (fun _ => ?_) (fun _ => ?_)) | (refine r_off rfl rfl rfl ?_) | (refine q_guard rfl rfl (fun _ => ?_) (fun _ => ?_)) | (refine q_guardn rfl rfl (fun _ => ?_) (fun _ => ?_)))
            have hB5 := hB3.weak (le_frsh (o := (.cells (p.key.c ++ p.val.c).toArray 48 (0, 0))) (Le.refl w) hwbv)
            have e7 : o ++ ([p.key, p.val].take 2).flatMap tx1 = keyS c ((srt t).take (j + 1)) := by rw [keyS_snoc hixp, ← hlk]; simp [ho2]
            rw [e7] at hB5
            refine x_round ((j + 1, uv), ((Ab3, cb3), ad3)) ⟨hltj, hB5, fun e => ?_⟩ (by dsimp only; omega) (into rfl ⟨rfl, rfl, rfl, rfl, rfl, rfl, rfl, rfl, rfl, rfl, rfl, rfl, rfl, trivial⟩ trivial rfl rfl)
            rw [keyS_snoc hixp] at e
            exact absurd (List.append_eq_nil_iff.1 e).2 (tx1_ne _)
      · obtain rfl : j = (srt t).length := by omega
        rw [List.take_length] at hBs hz2 hol
        have hstr := stringA w w2 pb 93 [] [] ad2 Ab2 cb2 (keyS c (srt t)) hBs hz2 (by omega)
        obtain ⟨hki, hkk⟩ := kss_bs (c := c) hst
        have hidx := nxt_idx (c := c) hst
        have hxn : (cI (nxt (ts.map srt) c))[i]? = some ((at0 (nxt (ts.map srt) c) i : Nat) : Int) := at0_cI (by rw [hnl]; exact hlt)
        have hcl5 : ∀ u5 : Hp, (∀ z ox, blk Ab2 ≠ some z → w2 z = some ox → u5 z = some ox) → Le w u5 := fun u5 hy5 z ox hz => hy5 z ox (fun e => by rw [hBs.ho z e] at hz; cases hz) (hBs.base z ox hz)
        cases hh : mhas m (bs (keyS c (srt t))) with
        | true =>
          obtain ⟨hLM', hget⟩ := hLM.old hki (by rw [hkk]; exact hh)
          rw [hkk, hidx] at hget
          repeat' (first | (refine r_pure hT rfl rfl rfl rfl ?_) | (refine r_new hT rfl rfl rfl rfl ?_) | (refine r_write hT rfl rfl rfl ?_) | (refine r_nil ?_) | (refine q_nil ?_) | ((refine r_call hstr rfl rfl rfl rfl rfl (YtkamfnmbidnhdaaDoor.hC _ rfl) rfl rfl (fun y5 u5 hy5 => ?_) ; have hl5 : Le w u5 := hcl5 u5 hy5 ; have hM5 := hMw.le hl5 ; have hO5 := hOn.le (u' := u5) (fun b o _ ho => hl5 b o ho))) | ((refine r_lookok sKeyOps (bs (keyS c (srt t))) hM5 map154 zero3 rfl rfl rfl rfl rfl rfl rfl ?_ ; rw [hh])) | ((refine r_look sKeyOps (bs (keyS c (srt t))) hM5 map154 zero3 rfl rfl rfl rfl rfl rfl rfl ?_ ; rw [hget])) | (refine r_indexN hT rfl rfl rfl rfl rfl rfl rfl rfl rfl hlt ?_) | (refine r_store_own (o := i * 1) hT hO5 rfl rfl rfl rfl rfl rfl rfl rfl rfl rfl rfl (by rw [hO5.len]; show i * 1 + 1 ≤ ts.length * 1; omega) (fun u6 hO6 hu6 => ?_)) | (refine r_arith rfl rfl rfl rfl rfl rfl rfl (by omega) ?_) | (with_reducible refine r_seq ?_) | (with_reducible refine x_then ?_) | (with_reducible refine r_region ?_) | (with_reducible refine r_skip ?_) | (with_reducible refine r_ret ?_) | (with_reducible refine x_then_ret ?_) | (with_reducible refine r_block ?_) | (with_reducible refine x_block ?_) | (with_reducible refine x_block_ret ?_) | (with_reducible refine r_exit ?_) | (with_reducible refine x_then_exit ?_) | (with_reducible refine x_block_here ?_) | (refine x_block_past rfl ?_) | (refine c_yes rfl (by omega) ?_) | (refine c_no rfl (by omega) ?_) | (refine c_no rfl (fun h => h rfl) ?_) | (refine r_cond_false rfl ?_) | (refine r_cond_true rfl ?_) | (refine r_cond_dec rfl (fun _ => ?_) (fun _ => ?_)) | (refine r_cond_true rfl ?_) | (refine r_cond_false rfl ?_) | (refine c_not rfl (fun _ => ?_) (fun _ => ?_)) | (refine r_off rfl rfl rfl ?_) | (refine q_guard rfl rfl (fun _ => ?_) (fun _ => ?_)) | (refine q_guardn rfl rfl (fun _ => ?_) (fun _ => ?_)))
          rw [show [Value.int .i64 ((at0 (nxt (ts.map srt) c) i : Nat) : Int)] = Ic ((at0 (nxt (ts.map srt) c) i : Nat) : Int) from rfl, set_next Ic_len rfl hxn (by rw [cI_len, hnl])] at hO6
          exact x_round ((i + 1, u6), m) ⟨hlt, fun x ox hx => by show u6 x = some ox; rw [hu6 x (fun e => by rw [e, hb90] at hx; cases hx)]; exact hl5 x ox (hlw x ox hx), hM5.same (hu6 gm (Ne.symm n9)), hLM', hO6⟩ (by dsimp only; omega) (into rfl ⟨rfl, rfl, rfl, rfl, rfl, rfl, rfl, rfl, trivial⟩ trivial rfl rfl)
        | false =>
          obtain ⟨hLM', hget⟩ := hLM.new hki (by rw [hkk]; exact hh)
          rw [hkk] at hLM' hget
          rw [hidx] at hget
          repeat' (first | (refine r_pure hT rfl rfl rfl rfl ?_) | (refine r_new hT rfl rfl rfl rfl ?_) | (refine r_write hT rfl rfl rfl ?_) | (refine r_nil ?_) | (refine q_nil ?_) | ((refine r_call hstr rfl rfl rfl rfl rfl (YtkamfnmbidnhdaaDoor.hC _ rfl) rfl rfl (fun y5 u5 hy5 => ?_) ; have hl5 : Le w u5 := hcl5 u5 hy5 ; have hM5 := hMw.le hl5 ; have hO5 := hOn.le (u' := u5) (fun b o _ ho => hl5 b o ho))) | ((refine r_lookok sKeyOps (bs (keyS c (srt t))) hM5 map154 zero3 rfl rfl rfl rfl rfl rfl rfl ?_ ; rw [hh])) | ((refine r_mapset sKeyOps (bs (keyS c (srt t))) hM5 map154 rfl rfl (.inl rfl) rfl rfl rfl rfl (fun u7 hM7 hu7 => ?_) ; have hO7 := hO5.le (u' := u7) (fun b o hb ho => by rw [hu7 b (fun e => n9 (by rw [← e]; exact Option.some.inj hb))]; exact ho))) | ((refine r_look sKeyOps (bs (keyS c (srt t))) hM7 map154 zero3 rfl rfl rfl rfl rfl rfl rfl ?_ ; rw [hget])) | (refine r_indexN hT rfl rfl rfl rfl rfl rfl rfl rfl rfl hlt ?_) | (refine r_store_own (o := i * 1) hT hO7 rfl rfl rfl rfl rfl rfl rfl rfl rfl rfl rfl (by rw [hO7.len]; show i * 1 + 1 ≤ ts.length * 1; omega) (fun u6 hO6 hu6 => ?_)) | (refine r_arith rfl rfl rfl rfl rfl rfl rfl (by omega) ?_) | (with_reducible refine r_seq ?_) | (with_reducible refine x_then ?_) | (with_reducible refine r_region ?_) | (with_reducible refine r_skip ?_) | (with_reducible refine r_ret ?_) | (with_reducible refine x_then_ret ?_) | (with_reducible refine r_block ?_) | (with_reducible refine x_block ?_) | (with_reducible refine x_block_ret ?_) | (with_reducible refine r_exit ?_) | (with_reducible refine x_then_exit ?_) | (with_reducible refine x_block_here ?_) | (refine x_block_past rfl ?_) | (refine c_yes rfl (by omega) ?_) | (refine c_no rfl (by omega) ?_) | (refine c_no rfl (fun h => h rfl) ?_) | (refine r_cond_false rfl ?_) | (refine r_cond_true rfl ?_) | (refine r_cond_dec rfl (fun _ => ?_) (fun _ => ?_)) | (refine r_cond_true rfl ?_) | (refine r_cond_false rfl ?_) | (refine c_not rfl (fun _ => ?_) (fun _ => ?_)) | (refine r_off rfl rfl rfl ?_) | (refine q_guard rfl rfl (fun _ => ?_) (fun _ => ?_)) | (refine q_guardn rfl rfl (fun _ => ?_) (fun _ => ?_)))
          rw [show [Value.int .i64 ((at0 (nxt (ts.map srt) c) i : Nat) : Int)] = Ic ((at0 (nxt (ts.map srt) c) i : Nat) : Int) from rfl, set_next Ic_len rfl hxn (by rw [cI_len, hnl])] at hO6
          exact x_round ((i + 1, u6), _) ⟨hlt, fun x ox hx => by show u6 x = some ox; rw [hu6 x (fun e => by rw [e, hb90] at hx; cases hx), hu7 x (fun e => by rw [e, hgm] at hx; cases hx)]; exact hl5 x ox (hlw x ox hx), hM7.same (hu6 gm (Ne.symm n9)), hLM', hO6⟩ (by dsimp only; omega) (into rfl ⟨rfl, rfl, rfl, rfl, rfl, rfl, rfl, rfl, trivial⟩ trivial rfl rfl)
    · obtain rfl : i = ts.length := by omega
      rw [← hstl] at hLM
      have hcount := hLM.count
      rw [hstl] at hcount
      have hcu := cnt_up hRch.good hRch.fine
      rw [hstl] at hcu
      have hcle := cnt_le ts.length (nxt (ts.map srt) c)
      rw [List.take_of_length_le (by rw [cI_len, hnl]; exact Nat.le_refl _)] at hOn
      simp only [Nat.sub_self, reps, List.append_nil] at hOn
      have hoff9 : Off h (some ⟨b9, 0, none⟩) := fun b hb => by have e := Option.some.inj hb; subst e; exact none_of (hle.trans hl0) hb90
      by_cases he : m.length = cn
      · have heI : (m.length : Int) = (cn : Int) := by omega
        have hfix : nxt (ts.map srt) c = cls (ts.map srt) := by
          by_cases h0 : ts.length = 0
          · rw [cls_nil (hstl.trans h0)]
            exact List.length_eq_zero_iff.1 (hnl.trans h0)
          · have e1 : nxt (ts.map srt) c = c := hcu.2.1 (by rw [← hcount, he]; exact hcn h0)
            rw [e1]; exact (hRch.stop e1).symm
        repeat' (first | (refine r_pure hT rfl rfl rfl rfl ?_) | (refine r_new hT rfl rfl rfl rfl ?_) | (refine r_write hT rfl rfl rfl ?_) | (refine r_nil ?_) | (refine q_nil ?_) | (refine r_maplen hMw map154L (by omega) rfl rfl rfl rfl rfl ?_) | (refine c_yes rfl heI ?_) | (refine r_arith rfl rfl rfl rfl rfl rfl rfl (by omega) ?_) | (with_reducible refine r_seq ?_) | (with_reducible refine x_then ?_) | (with_reducible refine r_region ?_) | (refine r_draw hM (by kernel_rfl) ?_) | (with_reducible refine r_skip ?_) | (with_reducible refine r_ret ?_) | (with_reducible refine x_then_ret ?_) | (with_reducible refine r_block ?_) | (with_reducible refine x_block ?_) | (with_reducible refine x_block_ret ?_) | (with_reducible refine r_exit ?_) | (with_reducible refine x_then_exit ?_) | (with_reducible refine x_block_here ?_) | (refine x_block_past rfl ?_) | (refine c_yes rfl (by omega) ?_) | (refine c_no rfl (by omega) ?_) | (refine c_no rfl (fun h => h rfl) ?_) | (refine r_cond_false rfl ?_) | (refine r_cond_true rfl ?_) | (refine r_cond_dec rfl (fun _ => ?_) (fun _ => ?_)) | (refine r_cond_true rfl ?_) | (refine r_cond_false rfl ?_) | (refine c_not rfl (fun _ => ?_) (fun _ => ?_)) | (refine r_off rfl rfl rfl ?_) | (refine q_guard rfl rfl (fun _ => ?_) (fun _ => ?_)) | (refine q_guardn rfl rfl (fun _ => ?_) (fun _ => ?_)))
        rw [hfix] at hOn
        exact r_fin hT rfl ((some ⟨b9, 0, none⟩, ts.length) : Option Addr × Nat) rfl rfl rfl trivial rfl ⟨hOn, (hle.trans hl0).trans hlw, hoff9⟩
      · have heI : ¬ (m.length : Int) = (cn : Int) := by omega
        obtain ⟨f', hR', hmu⟩ : ∃ f', Rch (ts.map srt) f' (nxt (ts.map srt) c) ∧ (if ts.length = 0 then m.length else f') < (if ts.length = 0 then cn else f) := by
          by_cases h0 : ts.length = 0
          · have e1 : nxt (ts.map srt) c = c := (List.length_eq_zero_iff.1 (hnl.trans h0)).trans (List.length_eq_zero_iff.1 (hcl.trans h0)).symm
            refine ⟨f, by rw [e1]; exact hRch, ?_⟩
            rw [if_pos h0, if_pos h0]
            omega
          · obtain ⟨f', e2, hR'⟩ := hRch.step hIn (fun e1 => he (by rw [hcount, hcu.2.2 e1]; exact (hcn h0).symm))
            refine ⟨f', hR', ?_⟩
            rw [if_neg h0, if_neg h0]
            omega
        repeat' (first | (refine r_pure hT rfl rfl rfl rfl ?_) | (refine r_new hT rfl rfl rfl rfl ?_) | (refine r_write hT rfl rfl rfl ?_) | (refine r_nil ?_) | (refine q_nil ?_) | (refine r_maplen hMw map154L (by omega) rfl rfl rfl rfl rfl ?_) | (refine c_no rfl heI ?_) | (refine r_arith rfl rfl rfl rfl rfl rfl rfl (by omega) ?_) | (with_reducible refine r_seq ?_) | (with_reducible refine x_then ?_) | (with_reducible refine r_region ?_) | (refine r_draw hM (by kernel_rfl) ?_) | (with_reducible refine r_skip ?_) | (with_reducible refine r_ret ?_) | (with_reducible refine x_then_ret ?_) | (with_reducible refine r_block ?_) | (with_reducible refine x_block ?_) | (with_reducible refine x_block_ret ?_) | (with_reducible refine r_exit ?_) | (with_reducible refine x_then_exit ?_) | (with_reducible refine x_block_here ?_) | (refine x_block_past rfl ?_) | (refine c_yes rfl (by omega) ?_) | (refine c_no rfl (by omega) ?_) | (refine c_no rfl (fun h => h rfl) ?_) | (refine r_cond_false rfl ?_) | (refine r_cond_true rfl ?_) | (refine r_cond_dec rfl (fun _ => ?_) (fun _ => ?_)) | (refine r_cond_true rfl ?_) | (refine r_cond_false rfl ?_) | (refine c_not rfl (fun _ => ?_) (fun _ => ?_)) | (refine r_off rfl rfl rfl ?_) | (refine q_guard rfl rfl (fun _ => ?_) (fun _ => ?_)) | (refine q_guardn rfl rfl (fun _ => ?_) (fun _ => ?_)))
        exact x_round (((f', m.length), nxt (ts.map srt) c), (w, (some ⟨b9, 0, none⟩, ts.length))) ⟨hR', fun _ => hcount, by dsimp only; omega, hl0.trans hlw, hOn, hoff9⟩ hmu (into rfl ⟨rfl, rfl, rfl, rfl, trivial⟩ trivial rfl rfl)
end Go.Proofs.YtkamfnmbidnhdaaDoor
/- spec.l3classes. No condition. -/
namespace Go.Proofs.YtkamfnmbidnhdaaDoor
open Go.Sy
set_option maxRecDepth 100000
set_option maxHeartbeats 8000000
set_option linter.unusedVariables false
set_option linter.unusedSimpArgs false
def SRow (q : Hp) (hs : List Hd) (st : List (List Pr)) : Prop := ∀ (j : Nat) (x : Hd) (t : List Pr), hs[j]? = some x → st[j]? = some t → x.n ≤ x.c ∧ Pairs q x.A x.n t
end Go.Proofs.YtkamfnmbidnhdaaDoor
