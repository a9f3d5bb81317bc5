/- impl.Freeze. No condition. -/
import Derived.Test.YtkamfnmbidnhdaaDoorSqAV
import Derived.Test.YtkamfnmbidnhdaaDoorSqAL
set_option linter.unusedVariables false
set_option linter.unusedSimpArgs false
set_option linter.unusedSectionVars false
namespace Go.Proofs.YtkamfnmbidnhdaaDoor
open Go.Sy
set_option maxRecDepth 100000
set_option maxHeartbeats 8000000
set_option linter.unusedVariables false
set_option linter.unusedSimpArgs false
theorem ZSt.setLed {h0 u u1 : Hp} {a : ZA} {ts : List (List Pr)} {ad : Value} {Ab : Option Addr} {cb : Nat} {rs rs' L : List Nat} {o : List UInt8} (h : ZSt h0 u a ts ad Ab cb rs L o) (hO : Own u1 (some ⟨a.bl, a.ol, none⟩) ts.length a.cl 3 1 (ledV ts.length rs')) (hu : ∀ x, x ≠ a.bl → u1 x = u x) : ZSt h0 u1 a ts ad Ab cb rs' L o := by
  obtain ⟨p1, p2, p3, p4, p5⟩ := h.ap
  exact ⟨⟨by rw [hu _ (Ne.symm p1)]; exact h.b.cell, h.b.own.le fun b o hb ho => (by rw [hu _ (fun e => p4 (by rw [← e]; exact hb))]; exact ho), h.b.hd, h.b.adr, fun x o hx => by rw [hu x (fun e => by rw [e, h.hl] at hx; cases hx)]; exact h.b.base x o hx, h.b.hp, h.b.ho, h.b.ap⟩,
    hO, h.map.same (hu _ p3), h.hl, h.hg, h.ap, h.tabs, h.tab10⟩
theorem count69 (h0 u : Hp) (fa : ZA) (ts : List (List Pr)) (ad : Value) (Ab : Option Addr) (cb : Nat) (rs L : List Nat) (o : List UInt8) (v : V) (pf : Nat) (hZ : ZSt h0 u fa ts ad Ab cb rs L o) (hpf : At u pf 0 [ptr fa.pb]) (hv : In ts.length v) (hrs : rs.length ≤ 1000000) :
    TriS Tryd.prog 69 [.ag v.sv, .v (ptr pf)] [] u (fun _ : Unit => .tu []) (fun _ => []) (fun _ u' => ZSt h0 u' fa ts ad Ab cb (rs ++ vrefs v) L o ∧ ∀ z, z ≠ fa.bl → u' z = u z) := by
  refine enterS Tryd.func69 rfl (n := 16) rfl rfl (fun k N => ?_)
  by_cases h4 : v.k = 4
  · have hva := hv h4
    have hlt : v.a.toNat < ts.length := by omega
    have hatW := hZ.at_
    have hatn := own_at hZ.led (ledV_get rs hlt)
    have hcnt : rs.count v.a.toNat ≤ rs.length := List.count_le_length
    repeat' (first | (refine r_pure hT rfl rfl rfl rfl ?_) | (refine r_new hT rfl rfl rfl rfl ?_) | (refine r_write hT rfl rfl rfl ?_) | (refine r_nil ?_) | (refine q_nil ?_) | (refine c_yes rfl h4 ?_) | (refine r_many (id := 2) [0, 1, 2, 3, 4, 5, 6, 7, 8, 9] [10] u (Le.refl u) hM (by kernel_rfl) rfl (by kernel_rfl) rfl rfl rfl (fun β0 => ?_)) | (refine m_late rfl rfl ?_) | (refine r_load hT hpf rfl rfl rfl rfl rfl (Nat.add_zero _).symm rfl rfl rfl rfl rfl ?_) | (refine r_load hT hatW rfl rfl rfl rfl rfl rfl rfl rfl rfl rfl rfl ?_) | (refine r_index hT rfl rfl rfl rfl rfl rfl rfl rfl rfl hva.1 hva.2 ?_) | (refine r_load hT hatn rfl rfl rfl rfl rfl (Nat.add_zero _).symm rfl rfl rfl rfl rfl ?_) | (refine r_store_own (o := v.a.toNat * 1) hT hZ.led rfl rfl rfl rfl rfl rfl rfl rfl rfl rfl rfl (by rw [ledV_len]; show v.a.toNat * 1 + 1 ≤ ts.length; omega) (fun u1 hl1 hu1 => ?_)) | (refine r_arith rfl rfl rfl rfl rfl rfl rfl (by omega) ?_) | (with_reducible refine r_seq ?_) | (with_reducible refine x_then ?_) | (with_reducible refine r_region ?_) | (with_reducible refine r_skip ?_) | (with_reducible refine r_ret ?_) | (with_reducible refine x_then_ret ?_) | (with_reducible refine r_block ?_) | (with_reducible refine x_block ?_) | (with_reducible refine x_block_ret ?_) | (with_reducible refine r_exit ?_) | (with_reducible refine x_then_exit ?_) | (with_reducible refine x_block_here ?_) | (refine x_block_past rfl ?_) | (refine c_yes rfl (by omega) ?_) | (refine c_no rfl (by omega) ?_) | (refine c_no rfl (fun h => h rfl) ?_) | (refine r_cond_false rfl ?_) | (refine r_cond_true rfl ?_) | (refine r_cond_dec rfl (fun _ => ?_) (fun _ => ?_)) | (refine r_cond_true rfl ?_) | (refine r_cond_false rfl ?_) | (refine c_not rfl (fun _ => ?_) (fun _ => ?_)) | (refine r_off rfl rfl rfl ?_) | (refine q_guard rfl rfl (fun _ => ?_) (fun _ => ?_)) | (refine q_guardn rfl rfl (fun _ => ?_) (fun _ => ?_)) | (refine s_nil ?_) | (with_reducible refine a_full ?_) | (refine m_step rfl rfl (List.cons_ne_nil _ _) ?_) | (refine allR_cons rfl ?_ ?_) | (exact allR_nil) | (refine m_end rfl rfl rfl ?_))
    rw [Nat.mul_one, ledV_set rs hlt] at hl1
    exact r_fin hT rfl () rfl rfl rfl trivial rfl ⟨by unfold vrefs; rw [if_pos h4]; exact hZ.setLed hl1 hu1, hu1⟩
  · repeat' (first | (refine r_pure hT rfl rfl rfl rfl ?_) | (refine r_new hT rfl rfl rfl rfl ?_) | (refine r_write hT rfl rfl rfl ?_) | (refine r_nil ?_) | (refine q_nil ?_) | (refine c_no rfl h4 ?_) | (refine r_arith rfl rfl rfl rfl rfl rfl rfl (by omega) ?_) | (with_reducible refine r_seq ?_) | (with_reducible refine x_then ?_) | (with_reducible refine r_region ?_) | (refine r_draw hM (by kernel_rfl) ?_) | (with_reducible refine r_skip ?_) | (with_reducible refine r_ret ?_) | (with_reducible refine x_then_ret ?_) | (with_reducible refine r_block ?_) | (with_reducible refine x_block ?_) | (with_reducible refine x_block_ret ?_) | (with_reducible refine r_exit ?_) | (with_reducible refine x_then_exit ?_) | (with_reducible refine x_block_here ?_) | (refine x_block_past rfl ?_) | (refine c_yes rfl (by omega) ?_) | (refine c_no rfl (by omega) ?_) | (refine c_no rfl (fun h => h rfl) ?_) | (refine r_cond_false rfl ?_) | (refine r_cond_true rfl ?_) | (refine r_cond_dec rfl (fun _ => ?_) (fun _ => ?_)) | (refine r_cond_true rfl ?_) | (refine r_cond_false rfl ?_) | (refine c_not rfl (fun _ => ?_) (fun _ => ?_)) | (refine r_off rfl rfl rfl ?_) | (refine q_guard rfl rfl (fun _ => ?_) (fun _ => ?_)) | (refine q_guardn rfl rfl (fun _ => ?_) (fun _ => ?_)))
    exact r_fin hT rfl () rfl rfl rfl trivial rfl ⟨by unfold vrefs; rw [if_neg h4, List.append_nil]; exact hZ, fun z _ => rfl⟩
theorem plT_pos (v : V) : 0 < (plT v).length := by
  unfold plT
  split
  · split <;> simp
  · split
    · by_cases hz : v.n = 0
      · rw [hz, itoa_zero]; simp
      · rw [itoa_rdg _ hz, List.length_append, List.length_reverse, rdg_step (by omega), List.length_cons]; omega
    · split
      · unfold qt; simp
      · simp
theorem tx_pos {ts : List (List Pr)} {m : Nat → Bool} {f : Nat} {s r : TS} {v : V} (h : tx ts m plT dcN f s v = some r) : s.o.length < r.o.length := by
  cases f with
  | zero => cases h
  | succ f =>
    rw [tx] at h
    split at h
    · split at h
      · obtain rfl := Option.some.inj h
        simp
      · split at h
        · cases h
        · rename_i s' h'
          obtain rfl := Option.some.inj h
          have := ((tx0_le (m := m) (dc := dcN) s v.a.toNat).trans (txp_mono (fun s v r => tx_mono f s v r) _ _ _ _ h')).2
          simp only [List.length_append, List.length_singleton]; omega
    · obtain rfl := Option.some.inj h
      have := plT_pos v
      simp only [List.length_append]; omega
theorem trefs_take (t : List Pr) (j : Nat) : (trefs (t.take j)).length ≤ (trefs t).length := by
  have : trefs t = trefs (t.take j) ++ trefs (t.drop j) := by
    unfold trefs
    rw [← List.flatMap_append, List.take_append_drop]
  rw [this, List.length_append]; omega
def zSV (v : V) (A : Option Addr) (n c bl gm : Nat) : List SV := [.v (.int .i64 v.k), .v (.int .i64 v.n), .v (.string v.s), .v (.int .i64 v.a), .v (.slice A n c), .v (.slice (some ⟨bl, 0, none⟩) n n), .v (.map (some gm)), .v (.pointer none), .v (.slice none 0 0)]
theorem implFreeze (v : V) (ts : List (List Pr)) (A : Option Addr) (n c : Nat) (h : Hp) (hP : Tabs h A n ts) (hr : RngG v ts) (ht10 : Tab10 h) : Pur Tryd.prog 32 [.ag (gsv v A n c)] h (fun y : ByteArray => .v (.string y)) ⟨(frz v ts).toArray⟩ := by
  have hnn := hP.len
  subst hnn
  refine enterS Tryd.func32 rfl (n := 61) rfl rfl (fun k N => ?_)
  by_cases hg : GOk v ts
  · obtain ⟨i1, i2, i3, i4⟩ := gok_in hg
    obtain ⟨f1, f2, f3, f4⟩ := gok_fit hg hr
    obtain ⟨r, e1, e2, e3, e4⟩ := gok_txt hg hr
    have hfz : frz v ts = if 20000 < r.o.length then [] else r.o := by unfold frz; rw [if_pos hg, e1]
    have hcn := frz_canon i1 i2 e1
    obtain ⟨c1, c2, c3, c4, c5, c6⟩ := canon_ok hg hr
    have hcan : ∀ u, Tabs u A ts.length ts → TriS Tryd.prog 68 [.ag (gsv v A ts.length c)] [] u (fun y : OY => .ag (gsv (ren (ordOf ts v) v) y.1.1 (cTs ts (ordOf ts v)).length y.1.2)) (fun _ => []) (fun y h' => OT h' 59 61 y.1.1 (cTs ts (ordOf ts v)).length y.1.2 y.2 (cTs ts (ordOf ts v)) ∧ Le u h' ∧ OffAll u y.1.1 y.2) := fun u hu => by
      have hh := implCanon v ts A ts.length c u hu
      rw [show cV v ts = ren (ordOf ts v) v from if_pos hg, show cT v ts = cTs ts (ordOf ts v) from if_pos hg] at hh
      exact hh
    have hcrl : (crefs v ts).length ≤ 1000000 := by
      have := rs_len hg
      rw [(rf_all i1 i2).length_eq] at this
      unfold crefs
      rw [vrefs_ren, cTs_refs, ← List.map_append, List.length_map]; exact this
    have hcref : crefs v ts = vrefs (ren (ordOf ts v) v) ++ (cTs ts (ordOf ts v)).flatMap trefs := rfl
    generalize hO : ordOf ts v = O at *
    generalize hcs : cTs ts O = cs at *
    generalize hcv : ren O v = cv at *
    repeat' (first | (refine r_pure hT rfl rfl rfl rfl ?_) | (refine r_new hT rfl rfl rfl rfl ?_) | (refine r_write hT rfl rfl rfl ?_) | (refine r_nil ?_) | (refine q_nil ?_) | ((refine r_call (implOk v ts A ts.length c _ hP) rfl rfl rfl rfl rfl (hC _ rfl) rfl rfl (fun y u1 hy => ?_) ; obtain ⟨hy1, hle1⟩ := hy ; subst hy1)) | (refine c_not rfl (fun hx => absurd hg hx) (fun _ => ?_)) | (refine r_call (hcan u1 (hP.le hle1)) rfl rfl rfl rfl rfl (hC _ rfl) rfl rfl (fun yC u2 hyC => ?_)) | (refine r_arith rfl rfl rfl rfl rfl rfl rfl (by omega) ?_) | (with_reducible refine r_seq ?_) | (with_reducible refine x_then ?_) | (with_reducible refine r_region ?_) | (with_reducible refine r_skip ?_) | (with_reducible refine r_ret ?_) | (with_reducible refine x_then_ret ?_) | (with_reducible refine r_block ?_) | (with_reducible refine x_block ?_) | (with_reducible refine x_block_ret ?_) | (with_reducible refine r_exit ?_) | (with_reducible refine x_then_exit ?_) | (with_reducible refine x_block_here ?_) | (refine x_block_past rfl ?_) | (refine c_yes rfl (by omega) ?_) | (refine c_no rfl (by omega) ?_) | (refine c_no rfl (fun h => h rfl) ?_) | (refine r_cond_false rfl ?_) | (refine r_cond_true rfl ?_) | (refine r_cond_dec rfl (fun _ => ?_) (fun _ => ?_)) | (refine r_cond_true rfl ?_) | (refine r_cond_false rfl ?_) | (refine c_not rfl (fun _ => ?_) (fun _ => ?_)) | (refine r_off rfl rfl rfl ?_) | (refine q_guard rfl rfl (fun _ => ?_) (fun _ => ?_)) | (refine q_guardn rfl rfl (fun _ => ?_) (fun _ => ?_)))
    obtain ⟨⟨A', c'⟩, hs'⟩ := yC
    obtain ⟨hOT, hle2, hoff2⟩ := hyC
    dsimp only at *
    have hTb := hOT.tabs
    have hl02 := hle1.trans hle2
    have keyA : ∀ b1 gm, u2 b1 = none → upd u2 b1 (.cells (reps cs.length [Value.int .i64 0]).toArray 3 (0, 0)) gm = none → (Le u2 (upd (upd u2 b1 (.cells (reps cs.length [Value.int .i64 0]).toArray 3 (0, 0))) gm (.map #[] 0)) ∧ Own (upd (upd u2 b1 (.cells (reps cs.length [Value.int .i64 0]).toArray 3 (0, 0))) gm (.map #[] 0)) (some ⟨b1, 0, none⟩) cs.length cs.length 3 1 (ledV cs.length []) ∧ MAt Tryd.prog iKey (upd (upd u2 b1 (.cells (reps cs.length [Value.int .i64 0]).toArray 3 (0, 0))) gm (.map #[] 0)) gm [] ∧ u2 b1 = none ∧ u2 gm = none ∧ gm ≠ b1) := fun b1 gm h1 h2 => by
      have hne : gm ≠ b1 := fun e => by rw [e, upd_here] at h2; cases h2
      have h2' : u2 gm = none := by rw [upd_ne hne] at h2; exact h2
      exact ⟨le_frsh (le_frsh (Le.refl u2) h1) h2, by rw [ledV_zero]; exact own_fr (own_made rfl) h2, MAt.made _ _ _ _, h1, h2', hne⟩
    have keyB : ∀ b1 gm, u2 gm = none → upd u2 gm (.map #[] 0) b1 = none → (Le u2 (upd (upd u2 gm (.map #[] 0)) b1 (.cells (reps cs.length [Value.int .i64 0]).toArray 3 (0, 0))) ∧ Own (upd (upd u2 gm (.map #[] 0)) b1 (.cells (reps cs.length [Value.int .i64 0]).toArray 3 (0, 0))) (some ⟨b1, 0, none⟩) cs.length cs.length 3 1 (ledV cs.length []) ∧ MAt Tryd.prog iKey (upd (upd u2 gm (.map #[] 0)) b1 (.cells (reps cs.length [Value.int .i64 0]).toArray 3 (0, 0))) gm [] ∧ u2 b1 = none ∧ u2 gm = none ∧ gm ≠ b1) := fun b1 gm h1 h2 => by
      have hne : b1 ≠ gm := fun e => by rw [e, upd_here] at h2; cases h2
      have h2' : u2 b1 = none := by rw [upd_ne hne] at h2; exact h2
      exact ⟨le_frsh (le_frsh (Le.refl u2) h1) h2, by rw [ledV_zero]; exact own_made rfl, (MAt.made _ _ _ _).le (le_frsh (Le.refl _) h2), h2', h1, Ne.symm hne⟩
    refine r_cut (γ := Hp × (Nat × Nat)) (fun g => Le u2 g.1 ∧ Own g.1 (some ⟨g.2.1, 0, none⟩) cs.length cs.length 3 1 (ledV cs.length []) ∧ MAt Tryd.prog iKey g.1 g.2.2 [] ∧ u2 g.2.1 = none ∧ u2 g.2.2 = none ∧ g.2.2 ≠ g.2.1)
      (fun _ => [(3, .p 3 0), (4, .p 4 0)]) (fun g => [(4, ⟨none, [.p 22 0], 89⟩), (22, ⟨none, zSV cv A' cs.length c' g.2.1 g.2.2, 95⟩), (3, ⟨none, gsv cv A' cs.length c', 51⟩)]) (fun g => g.1)
      (r_many (id := 4) [0, 1, 2, 3] [] u2 (Le.refl u2) hM (by kernel_rfl) rfl (by kernel_rfl) rfl rfl rfl (fun β0 => ?_)) (fun g hg => ?_)
    · repeat' (first | (refine r_pure hT rfl rfl rfl rfl ?_) | (refine r_new hT rfl rfl rfl rfl ?_) | (refine r_write hT rfl rfl rfl ?_) | (refine r_nil ?_) | (refine q_nil ?_) | (refine r_makeN hT rfl rfl rfl rfl rfl rfl rfl (by simp) rfl rfl (by dsimp only; omega) (by omega) (fun b1 hb1 => ?_)) | (refine r_mkmap rfl rfl rfl rfl (fun gm hgm => ?_)) | (refine m_keep (Le.refl u2) ⟨rfl, rfl, trivial⟩ rfl rfl ?_) | (refine m_keep (le_frsh (Le.refl u2) hb1) ⟨rfl, rfl, trivial⟩ rfl rfl ?_) | (refine m_keep (le_frsh (Le.refl u2) hgm) ⟨rfl, rfl, trivial⟩ rfl rfl ?_) | (refine m_keep (le_frsh (le_frsh (Le.refl u2) hb1) hgm) ⟨rfl, rfl, trivial⟩ rfl rfl ?_) | (refine m_keep (le_frsh (le_frsh (Le.refl u2) hgm) hb1) ⟨rfl, rfl, trivial⟩ rfl rfl ?_) | (refine r_build hT rfl rfl rfl (ps := [(0, .tmp 15), (1, .tmp 19), (2, .tmp 20)]) rfl rfl rfl rfl rfl rfl ?_) | (refine r_arith rfl rfl rfl rfl rfl rfl rfl (by omega) ?_) | (with_reducible refine r_seq ?_) | (with_reducible refine x_then ?_) | (with_reducible refine r_region ?_) | (refine r_draw hM (by kernel_rfl) ?_) | (with_reducible refine r_skip ?_) | (with_reducible refine r_ret ?_) | (with_reducible refine x_then_ret ?_) | (with_reducible refine r_block ?_) | (with_reducible refine x_block ?_) | (with_reducible refine x_block_ret ?_) | (with_reducible refine r_exit ?_) | (with_reducible refine x_then_exit ?_) | (with_reducible refine x_block_here ?_) | (refine x_block_past rfl ?_) | (refine c_yes rfl (by omega) ?_) | (refine c_no rfl (by omega) ?_) | (refine c_no rfl (fun h => h rfl) ?_) | (refine r_cond_false rfl ?_) | (refine r_cond_true rfl ?_) | (refine r_cond_dec rfl (fun _ => ?_) (fun _ => ?_)) | (refine r_cond_true rfl ?_) | (refine r_cond_false rfl ?_) | (refine c_not rfl (fun _ => ?_) (fun _ => ?_)) | (refine r_off rfl rfl rfl ?_) | (refine q_guard rfl rfl (fun _ => ?_) (fun _ => ?_)) | (refine q_guardn rfl rfl (fun _ => ?_) (fun _ => ?_)) | (refine s_nil ?_) | (with_reducible refine a_full ?_) | (refine m_step rfl rfl (List.cons_ne_nil _ _) ?_) | (refine allR_cons rfl ?_ ?_) | (exact allR_nil) | (refine m_end rfl rfl rfl ?_))
      · first | exact x_cut (_, (b1, gm)) (keyA b1 gm hb1 hgm) (into rfl ⟨rfl, rfl, trivial⟩ ⟨rfl, rfl, rfl, trivial⟩ rfl rfl) | exact x_cut (_, (b1, gm)) (keyB b1 gm hgm hb1) (into rfl ⟨rfl, rfl, trivial⟩ ⟨rfl, rfl, rfl, trivial⟩ rfl rfl)
      · first | exact x_cut (_, (b1, gm)) (keyA b1 gm hb1 hgm) (into rfl ⟨rfl, rfl, trivial⟩ ⟨rfl, rfl, rfl, trivial⟩ rfl rfl) | exact x_cut (_, (b1, gm)) (keyB b1 gm hgm hb1) (into rfl ⟨rfl, rfl, trivial⟩ ⟨rfl, rfl, rfl, trivial⟩ rfl rfl)
      · first | exact x_cut (_, (b1, gm)) (keyA b1 gm hb1 hgm) (into rfl ⟨rfl, rfl, trivial⟩ ⟨rfl, rfl, rfl, trivial⟩ rfl rfl) | exact x_cut (_, (b1, gm)) (keyB b1 gm hgm hb1) (into rfl ⟨rfl, rfl, trivial⟩ ⟨rfl, rfl, rfl, trivial⟩ rfl rfl)
      · first | exact x_cut (_, (b1, gm)) (keyA b1 gm hb1 hgm) (into rfl ⟨rfl, rfl, trivial⟩ ⟨rfl, rfl, rfl, trivial⟩ rfl rfl) | exact x_cut (_, (b1, gm)) (keyB b1 gm hgm hb1) (into rfl ⟨rfl, rfl, trivial⟩ ⟨rfl, rfl, rfl, trivial⟩ rfl rfl)
      · first | exact x_cut (_, (b1, gm)) (keyA b1 gm hb1 hgm) (into rfl ⟨rfl, rfl, trivial⟩ ⟨rfl, rfl, rfl, trivial⟩ rfl rfl) | exact x_cut (_, (b1, gm)) (keyB b1 gm hgm hb1) (into rfl ⟨rfl, rfl, trivial⟩ ⟨rfl, rfl, rfl, trivial⟩ rfl rfl)
      · first | exact x_cut (_, (b1, gm)) (keyA b1 gm hb1 hgm) (into rfl ⟨rfl, rfl, trivial⟩ ⟨rfl, rfl, rfl, trivial⟩ rfl rfl) | exact x_cut (_, (b1, gm)) (keyB b1 gm hgm hb1) (into rfl ⟨rfl, rfl, trivial⟩ ⟨rfl, rfl, rfl, trivial⟩ rfl rfl)
      · first | exact x_cut (_, (b1, gm)) (keyA b1 gm hb1 hgm) (into rfl ⟨rfl, rfl, trivial⟩ ⟨rfl, rfl, rfl, trivial⟩ rfl rfl) | exact x_cut (_, (b1, gm)) (keyB b1 gm hgm hb1) (into rfl ⟨rfl, rfl, trivial⟩ ⟨rfl, rfl, rfl, trivial⟩ rfl rfl)
      · first | exact x_cut (_, (b1, gm)) (keyA b1 gm hb1 hgm) (into rfl ⟨rfl, rfl, trivial⟩ ⟨rfl, rfl, rfl, trivial⟩ rfl rfl) | exact x_cut (_, (b1, gm)) (keyB b1 gm hgm hb1) (into rfl ⟨rfl, rfl, trivial⟩ ⟨rfl, rfl, rfl, trivial⟩ rfl rfl)
      · first | exact x_cut (_, (b1, gm)) (keyA b1 gm hb1 hgm) (into rfl ⟨rfl, rfl, trivial⟩ ⟨rfl, rfl, rfl, trivial⟩ rfl rfl) | exact x_cut (_, (b1, gm)) (keyB b1 gm hgm hb1) (into rfl ⟨rfl, rfl, trivial⟩ ⟨rfl, rfl, rfl, trivial⟩ rfl rfl)
      · first | exact x_cut (_, (b1, gm)) (keyA b1 gm hb1 hgm) (into rfl ⟨rfl, rfl, trivial⟩ ⟨rfl, rfl, rfl, trivial⟩ rfl rfl) | exact x_cut (_, (b1, gm)) (keyB b1 gm hgm hb1) (into rfl ⟨rfl, rfl, trivial⟩ ⟨rfl, rfl, rfl, trivial⟩ rfl rfl)
    · obtain ⟨u3, ⟨bl, gm⟩⟩ := g
      obtain ⟨hl3, hO3, hM3, hbl, hgm, hgb⟩ := hg
      dsimp only at *
      clear keyA keyB hoff2 hOT hcan
      repeat' (first | (refine r_pure hT rfl rfl rfl rfl ?_) | (refine r_new hT rfl rfl rfl rfl ?_) | (refine r_write hT rfl rfl rfl ?_) | (refine r_nil ?_) | (refine q_nil ?_) | (refine r_arith rfl rfl rfl rfl rfl rfl rfl (by omega) ?_) | (with_reducible refine r_seq ?_) | (with_reducible refine x_then ?_) | (with_reducible refine r_region ?_) | (refine r_draw hM (by kernel_rfl) ?_) | (with_reducible refine r_skip ?_) | (with_reducible refine r_ret ?_) | (with_reducible refine x_then_ret ?_) | (with_reducible refine r_block ?_) | (with_reducible refine x_block ?_) | (with_reducible refine x_block_ret ?_) | (with_reducible refine r_exit ?_) | (with_reducible refine x_then_exit ?_) | (with_reducible refine x_block_here ?_) | (refine x_block_past rfl ?_) | (refine c_yes rfl (by omega) ?_) | (refine c_no rfl (by omega) ?_) | (refine c_no rfl (fun h => h rfl) ?_) | (refine r_cond_false rfl ?_) | (refine r_cond_true rfl ?_) | (refine r_cond_true rfl ?_) | (refine r_cond_false rfl ?_) | (refine r_off rfl rfl rfl ?_) | (refine q_guard rfl rfl (fun _ => ?_) (fun _ => ?_)) | (refine q_guardn rfl rfl (fun _ => ?_) (fun _ => ?_)))
      refine r_pub 22 (fun _ => bdC (zPre ⟨0, cv, A', c', bl, 0, cs.length, gm⟩ cs.length) [] (.pointer none) none 0 0) rfl rfl (fun _ => rfl) (fun pb hpb => ?_)
      refine r_pub 4 (fun _ => [ptr pb]) rfl rfl (fun _ => rfl) (fun pf hpf => ?_)
      replace hpf : upd u3 pb (.cells (bdC (zPre ⟨0, cv, A', c', bl, 0, cs.length, gm⟩ cs.length) [] (.pointer none) none 0 0).toArray 95 (0, 0)) pf = none := hpf
      have hfb : pf ≠ pb := fun e => by rw [e, upd_here] at hpf; cases hpf
      have hpf3 : u3 pf = none := by rw [upd_ne hfb] at hpf; exact hpf
      obtain ⟨ol, hol⟩ := Option.ne_none_iff_exists'.1 (hO3.live rfl)
      obtain ⟨om, hom, _⟩ := id hM3
      have n1 : bl ≠ pb := fun e => by rw [e, hpb] at hol; cases hol
      have n2 : gm ≠ pb := fun e => by rw [e, hpb] at hom; cases hom
      have n3 : bl ≠ pf := fun e => by rw [e, hpf3] at hol; cases hol
      have n4 : gm ≠ pf := fun e => by rw [e, hpf3] at hom; cases hom
      have hl2f : Le u2 (upd u2 pf (.cells [ptr pb].toArray 89 (0, 0))) := le_frsh (Le.refl u2) (none_of hl3 hpf3)
      have hZ : ZSt (upd u2 pf (.cells [ptr pb].toArray 89 (0, 0))) (upd (upd u3 pb (.cells (bdC (zPre ⟨0, cv, A', c', bl, 0, cs.length, gm⟩ cs.length) [] (.pointer none) none 0 0).toArray 95 (0, 0))) pf (.cells [ptr pb].toArray 89 (0, 0))) ⟨pb, cv, A', c', bl, 0, cs.length, gm⟩ cs (.pointer none) none 0 [] [] [] := by
        refine ⟨⟨by rw [upd_ne (Ne.symm hfb), upd_here]; rfl, own_nil, fun a ha => (by cases ha), .inl rfl, fun z ox hz => ?_, by rw [upd_ne (Ne.symm hfb)]; exact none_of hl3 hpb, off_nil, by simp [blk]⟩, own_fr (own_fr hO3 hpb) hpf, (hM3.le (le_frsh (Le.refl _) hpb)).le (le_frsh (Le.refl _) hpf), by rw [upd_ne n3]; exact hbl, by rw [upd_ne n4]; exact hgm, ⟨n1, n2, hgb, by simp [blk], by simp [blk]⟩, hTb.le hl2f, ht10.le (hl02.trans hl2f)⟩
        by_cases e : z = pf
        · subst e; rw [upd_here] at hz ⊢; exact hz
        · rw [upd_ne e] at hz ⊢
          rw [upd_ne (fun e2 => by have := hl3 z ox hz; rw [e2, hpb] at this; cases this)]; exact hl3 z ox hz
      generalize hhb : upd u2 pf (.cells [ptr pb].toArray 89 (0, 0)) = hb at *
      have hbpf : hb pf = some (.cells [ptr pb].toArray 89 (0, 0)) := by rw [← hhb]; exact upd_here ..
      have hatf : ∀ u, Le hb u → At u pf 0 [ptr pb] := fun u hu => at_of (hu _ _ hbpf)
      generalize upd (upd u3 pb (.cells (bdC (zPre ⟨0, cv, A', c', bl, 0, cs.length, gm⟩ cs.length) [] (.pointer none) none 0 0).toArray 95 (0, 0))) pf (.cells [ptr pb].toArray 89 (0, 0)) = u4 at *
      have hlh : Le h hb := hl02.trans hl2f
      have hTbb := hTb.le hl2f
      have hpre : ∀ i, (vrefs cv ++ (cs.take i).flatMap trefs).length ≤ 1000000 := fun i => by
        have : (crefs v ts).length = (vrefs cv ++ (cs.take i).flatMap trefs).length + ((cs.drop i).flatMap trefs).length := by
          rw [hcref]
          conv => lhs; rw [← List.take_append_drop i cs]
          rw [List.flatMap_append]
          simp only [List.length_append]; omega
        omega
      repeat' (first | (refine r_pure hT rfl rfl rfl rfl ?_) | (refine r_new hT rfl rfl rfl rfl ?_) | (refine r_write hT rfl rfl rfl ?_) | (refine r_nil ?_) | (refine q_nil ?_) | (refine r_call (count69 hb u4 ⟨pb, cv, A', c', bl, 0, cs.length, gm⟩ cs _ none 0 [] [] [] cv pf hZ (hatf _ hZ.b.base) c2 (by simp)) rfl rfl rfl rfl rfl (hC _ rfl) rfl rfl (fun _ u5 hy5 => ?_)) | (refine r_arith rfl rfl rfl rfl rfl rfl rfl (by omega) ?_) | (with_reducible refine r_seq ?_) | (with_reducible refine x_then ?_) | (with_reducible refine r_region ?_) | (refine r_draw hM (by kernel_rfl) ?_) | (with_reducible refine r_skip ?_) | (with_reducible refine r_ret ?_) | (with_reducible refine x_then_ret ?_) | (with_reducible refine r_block ?_) | (with_reducible refine x_block ?_) | (with_reducible refine x_block_ret ?_) | (with_reducible refine r_exit ?_) | (with_reducible refine x_then_exit ?_) | (with_reducible refine x_block_here ?_) | (refine x_block_past rfl ?_) | (refine c_yes rfl (by omega) ?_) | (refine c_no rfl (by omega) ?_) | (refine c_no rfl (fun h => h rfl) ?_) | (refine r_cond_false rfl ?_) | (refine r_cond_true rfl ?_) | (refine r_cond_true rfl ?_) | (refine r_cond_false rfl ?_) | (refine r_off rfl rfl rfl ?_) | (refine q_guard rfl rfl (fun _ => ?_) (fun _ => ?_)) | (refine q_guardn rfl rfl (fun _ => ?_) (fun _ => ?_)))
      refine r_loop (γ := Nat × Hp) (fun x => x.1 ≤ cs.length ∧ ZSt hb x.2 ⟨pb, cv, A', c', bl, 0, cs.length, gm⟩ cs (.pointer none) none 0 (vrefs cv ++ (cs.take x.1).flatMap trefs) [] [])
        (fun x => [(3, .p 3 0), (4, .v (ptr pf)), (5, .fn (.func 69) [] [.v (ptr pf)]), (29, .v (.slice A' cs.length c')), (30, .v (.int .i64 (cs.length : Int))), (31, .v (.int .i64 (x.1 : Int)))]) (fun _ => [(3, ⟨none, gsv cv A' cs.length c', 51⟩)]) (fun x => x.2) (fun x => cs.length - x.1)
        (0, u5) ⟨Nat.zero_le _, by simpa using hy5.1⟩ (into rfl ⟨rfl, rfl, rfl, rfl, rfl, rfl, trivial⟩ ⟨rfl, trivial⟩ rfl rfl) ?_
      rintro ⟨i, ui⟩ ⟨hi, hZi⟩
      dsimp only at *
      by_cases hlt : i < cs.length
      · obtain ⟨bt, offt, A1, n1', c1', t, hAt, hd, hix, hm, hat, hc1, hp1⟩ := hTbb.elem hlt
        obtain rfl := hp1.1
        have htl := c4 t hm
        have hatt := hat.le hZi.b.base
        have hnext := hpre (i + 1)
        have hsnoc : vrefs cv ++ (cs.take (i + 1)).flatMap trefs = vrefs cv ++ (cs.take i).flatMap trefs ++ trefs t := by rw [take_snoc hix, List.flatMap_append]; simp
        rw [hsnoc, List.length_append] at hnext
        subst hAt
        repeat' (first | (refine r_pure hT rfl rfl rfl rfl ?_) | (refine r_new hT rfl rfl rfl rfl ?_) | (refine r_write hT rfl rfl rfl ?_) | (refine r_nil ?_) | (refine q_nil ?_) | (refine r_indexN hT rfl rfl rfl rfl rfl rfl rfl rfl rfl (by omega) ?_) | (refine r_load hT hatt rfl rfl rfl rfl rfl (Nat.add_zero _).symm rfl rfl rfl rfl rfl ?_) | (refine r_arith rfl rfl rfl rfl rfl rfl rfl (by omega) ?_) | (with_reducible refine r_seq ?_) | (with_reducible refine x_then ?_) | (with_reducible refine r_region ?_) | (refine r_draw hM (by kernel_rfl) ?_) | (with_reducible refine r_skip ?_) | (with_reducible refine r_ret ?_) | (with_reducible refine x_then_ret ?_) | (with_reducible refine r_block ?_) | (with_reducible refine x_block ?_) | (with_reducible refine x_block_ret ?_) | (with_reducible refine r_exit ?_) | (with_reducible refine x_then_exit ?_) | (with_reducible refine x_block_here ?_) | (refine x_block_past rfl ?_) | (refine c_yes rfl (by omega) ?_) | (refine c_no rfl (by omega) ?_) | (refine c_no rfl (fun h => h rfl) ?_) | (refine r_cond_false rfl ?_) | (refine r_cond_true rfl ?_) | (refine r_cond_true rfl ?_) | (refine r_cond_false rfl ?_) | (refine r_off rfl rfl rfl ?_) | (refine q_guard rfl rfl (fun _ => ?_) (fun _ => ?_)) | (refine q_guardn rfl rfl (fun _ => ?_) (fun _ => ?_)))
        refine r_loop (γ := Nat × Hp) (fun x => x.1 ≤ t.length ∧ ZSt hb x.2 ⟨pb, cv, some ⟨bt, offt, none⟩, c', bl, 0, cs.length, gm⟩ cs (.pointer none) none 0 (vrefs cv ++ (cs.take i).flatMap trefs ++ trefs (t.take x.1)) [] [])
          (fun x => [(3, .p 3 0), (4, .v (ptr pf)), (5, .fn (.func 69) [] [.v (ptr pf)]), (29, .v (.slice (some ⟨bt, offt, none⟩) cs.length c')), (30, .v (.int .i64 (cs.length : Int))), (31, .v (.int .i64 (i : Int))), (36, .v (.slice A1 t.length c1')), (37, .v (.int .i64 (t.length : Int))), (38, .v (.int .i64 (x.1 : Int)))]) (fun _ => [(3, ⟨none, gsv cv (some ⟨bt, offt, none⟩) cs.length c', 51⟩)]) (fun x => x.2) (fun x => t.length - x.1)
          (0, ui) ⟨Nat.zero_le _, by simpa [trefs] using hZi⟩ (into rfl ⟨rfl, rfl, rfl, rfl, rfl, rfl, rfl, rfl, rfl, trivial⟩ ⟨rfl, trivial⟩ rfl rfl) ?_
        rintro ⟨j, uj⟩ ⟨hj, hZj⟩
        dsimp only at *
        by_cases hltj : j < t.length
        · obtain ⟨b2, off2, p, rfl, hd2, hix2, hm2, hat2⟩ := (hp1.le hZj.b.base).elem Pr.c_len hltj
          have hjl := trefs_take t j
          have hsn2 : trefs (t.take (j + 1)) = trefs (t.take j) ++ vrefs p.val := by unfold trefs; rw [take_snoc hix2, List.flatMap_append]; simp
          repeat' (first | (refine r_pure hT rfl rfl rfl rfl ?_) | (refine r_new hT rfl rfl rfl rfl ?_) | (refine r_write hT rfl rfl rfl ?_) | (refine r_nil ?_) | (refine q_nil ?_) | (refine r_indexN hT rfl rfl rfl rfl rfl rfl rfl rfl rfl (by omega) ?_) | (refine r_load hT hat2 rfl rfl rfl rfl rfl (Nat.add_zero _).symm rfl rfl rfl rfl rfl ?_) | (refine r_call (count69 hb uj ⟨pb, cv, some ⟨bt, offt, none⟩, c', bl, 0, cs.length, gm⟩ cs _ none 0 _ [] [] p.val pf hZj (hatf _ hZj.b.base) (c1 t hm p hm2) (by rw [List.length_append]; omega)) rfl rfl rfl rfl rfl (hC _ rfl) rfl rfl (fun _ u6 hy6 => ?_)) | (refine r_arith rfl rfl rfl rfl rfl rfl rfl (by omega) ?_) | (with_reducible refine r_seq ?_) | (with_reducible refine x_then ?_) | (with_reducible refine r_region ?_) | (refine r_draw hM (by kernel_rfl) ?_) | (with_reducible refine r_skip ?_) | (with_reducible refine r_ret ?_) | (with_reducible refine x_then_ret ?_) | (with_reducible refine r_block ?_) | (with_reducible refine x_block ?_) | (with_reducible refine x_block_ret ?_) | (with_reducible refine r_exit ?_) | (with_reducible refine x_then_exit ?_) | (with_reducible refine x_block_here ?_) | (refine x_block_past rfl ?_) | (refine c_yes rfl (by omega) ?_) | (refine c_no rfl (by omega) ?_) | (refine c_no rfl (fun h => h rfl) ?_) | (refine r_cond_false rfl ?_) | (refine r_cond_true rfl ?_) | (refine r_cond_dec rfl (fun _ => ?_) (fun _ => ?_)) | (refine r_cond_true rfl ?_) | (refine r_cond_false rfl ?_) | (refine c_not rfl (fun _ => ?_) (fun _ => ?_)) | (refine r_off rfl rfl rfl ?_) | (refine q_guard rfl rfl (fun _ => ?_) (fun _ => ?_)) | (refine q_guardn rfl rfl (fun _ => ?_) (fun _ => ?_)))
          exact x_round (j + 1, u6) ⟨hltj, by dsimp only; rw [hsn2, ← List.append_assoc]; exact hy6.1⟩ (by dsimp only; omega) (into rfl ⟨rfl, rfl, rfl, rfl, rfl, rfl, rfl, rfl, rfl, trivial⟩ ⟨rfl, trivial⟩ rfl rfl)
        · obtain rfl : j = t.length := by omega
          rw [List.take_length, ← hsnoc] at hZj
          repeat' (first | (refine r_pure hT rfl rfl rfl rfl ?_) | (refine r_new hT rfl rfl rfl rfl ?_) | (refine r_write hT rfl rfl rfl ?_) | (refine r_nil ?_) | (refine q_nil ?_) | (refine r_arith rfl rfl rfl rfl rfl rfl rfl (by omega) ?_) | (with_reducible refine r_seq ?_) | (with_reducible refine x_then ?_) | (with_reducible refine r_region ?_) | (refine r_draw hM (by kernel_rfl) ?_) | (with_reducible refine r_skip ?_) | (with_reducible refine r_ret ?_) | (with_reducible refine x_then_ret ?_) | (with_reducible refine r_block ?_) | (with_reducible refine x_block ?_) | (with_reducible refine x_block_ret ?_) | (with_reducible refine r_exit ?_) | (with_reducible refine x_then_exit ?_) | (with_reducible refine x_block_here ?_) | (refine x_block_past rfl ?_) | (refine c_yes rfl (by omega) ?_) | (refine c_no rfl (by omega) ?_) | (refine c_no rfl (fun h => h rfl) ?_) | (refine r_cond_false rfl ?_) | (refine r_cond_true rfl ?_) | (refine r_cond_dec rfl (fun _ => ?_) (fun _ => ?_)) | (refine r_cond_true rfl ?_) | (refine r_cond_false rfl ?_) | (refine c_not rfl (fun _ => ?_) (fun _ => ?_)) | (refine r_off rfl rfl rfl ?_) | (refine q_guard rfl rfl (fun _ => ?_) (fun _ => ?_)) | (refine q_guardn rfl rfl (fun _ => ?_) (fun _ => ?_)))
          exact x_round (i + 1, uj) ⟨hlt, hZj⟩ (by dsimp only; omega) (into rfl ⟨rfl, rfl, rfl, rfl, rfl, rfl, trivial⟩ ⟨rfl, trivial⟩ rfl rfl)
      · obtain rfl : i = cs.length := by omega
        rw [List.take_length, ← hcref] at hZi
        have hcvk : cv.k = v.k := by rw [← hcv]; exact ren_k O v
        have hcvf : cv.fit := by
          rw [← hcv]
          unfold V.fit
          rw [(ren_n O v).1, (ren_n O v).2]; exact f3
        have hvk : cv.k = 0 ∨ cv.k = 1 ∨ cv.k = 2 ∨ cv.k = 3 ∨ cv.k = 4 := by
          rw [hcvk]
          have := hg.2.1
          unfold VOk at this; omega
        have hne : r.o ≠ [] := fun e => by
          have := tx_pos e1
          rw [e] at this; simp at this
        have hrL : (tmap O r).L.length ≤ 1000000 := by simpa [tmap] using e2
        have hval := valueI hb ui ⟨pb, cv, A', c', bl, 0, cs.length, gm⟩ cs (.pointer none) none 0 (crefs v ts) ⟨[], []⟩ (tmap O r) cv hZi hcvf hvk e3 (fun h4 => tx_leaf hcn h4)
          (fun h4 => tableI hb ⟨pb, cv, A', c', bl, 0, cs.length, gm⟩ cs c1 c3 (fun t ht => by have := c4 t ht; omega) c5 c6 (crefs v ts) (multiC v ts) (fun a => rfl) (ts.length + 1) ⟨[], []⟩ cv (tmap O r) ui none 0 (.pointer none) hZi h4 hcn c2 hrL e3)
        repeat' (first | (refine r_pure hT rfl rfl rfl rfl ?_) | (refine r_new hT rfl rfl rfl rfl ?_) | (refine r_write hT rfl rfl rfl ?_) | (refine r_nil ?_) | (refine q_nil ?_) | (refine r_load hT (hatf _ hZi.b.base) rfl rfl rfl rfl rfl (Nat.add_zero _).symm rfl rfl rfl rfl rfl ?_) | (refine r_call hval rfl rfl rfl rfl rfl (hC _ rfl) rfl rfl (fun y u6 hy6 => ?_)) | (refine r_arith rfl rfl rfl rfl rfl rfl rfl (by omega) ?_) | (with_reducible refine r_seq ?_) | (with_reducible refine x_then ?_) | (with_reducible refine r_region ?_) | (refine r_draw hM (by kernel_rfl) ?_) | (with_reducible refine r_skip ?_) | (with_reducible refine r_ret ?_) | (with_reducible refine x_then_ret ?_) | (with_reducible refine r_block ?_) | (with_reducible refine x_block ?_) | (with_reducible refine x_block_ret ?_) | (with_reducible refine r_exit ?_) | (with_reducible refine x_then_exit ?_) | (with_reducible refine x_block_here ?_) | (refine x_block_past rfl ?_) | (refine c_yes rfl (by omega) ?_) | (refine c_no rfl (by omega) ?_) | (refine c_no rfl (fun h => h rfl) ?_) | (refine r_cond_false rfl ?_) | (refine r_cond_true rfl ?_) | (refine r_cond_true rfl ?_) | (refine r_cond_false rfl ?_) | (refine r_off rfl rfl rfl ?_) | (refine q_guard rfl rfl (fun _ => ?_) (fun _ => ?_)) | (refine q_guardn rfl rfl (fun _ => ?_) (fun _ => ?_)))
        have hB6 : BSt hb u6 pb 95 (zPre ⟨pb, cv, A', c', bl, 0, cs.length, gm⟩ cs.length) [] (.pointer (some ⟨pb, 7, none⟩)) y.1 y.2 r.o := hy6.b
        by_cases hlen : 20000 < r.o.length
        · rw [if_pos hlen] at hfz
          repeat' (first | (refine r_pure hT rfl rfl rfl rfl ?_) | (refine r_new hT rfl rfl rfl rfl ?_) | (refine r_write hT rfl rfl rfl ?_) | (refine r_nil ?_) | (refine q_nil ?_) | (refine r_load hT (hatf _ hB6.base) rfl rfl rfl rfl rfl (Nat.add_zero _).symm rfl rfl rfl rfl rfl ?_) | (refine p_call (lenB hb u6 pb 95 (zPre ⟨pb, cv, A', c', bl, 0, cs.length, gm⟩ cs.length) [] _ y.1 y.2 r.o hB6) rfl rfl rfl rfl rfl (hC _ rfl) rfl rfl rfl ?_) | (refine r_arith rfl rfl rfl rfl rfl rfl rfl (by omega) ?_) | (with_reducible refine r_seq ?_) | (with_reducible refine x_then ?_) | (with_reducible refine r_region ?_) | (refine r_draw hM (by kernel_rfl) ?_) | (with_reducible refine r_skip ?_) | (with_reducible refine r_ret ?_) | (with_reducible refine x_then_ret ?_) | (with_reducible refine r_block ?_) | (with_reducible refine x_block ?_) | (with_reducible refine x_block_ret ?_) | (with_reducible refine r_exit ?_) | (with_reducible refine x_then_exit ?_) | (with_reducible refine x_block_here ?_) | (refine x_block_past rfl ?_) | (refine c_yes rfl (by omega) ?_) | (refine c_no rfl (by omega) ?_) | (refine c_no rfl (fun h => h rfl) ?_) | (refine r_cond_false rfl ?_) | (refine r_cond_true rfl ?_) | (refine r_cond_dec rfl (fun _ => ?_) (fun _ => ?_)) | (refine r_cond_true rfl ?_) | (refine r_cond_false rfl ?_) | (refine c_not rfl (fun _ => ?_) (fun _ => ?_)) | (refine r_off rfl rfl rfl ?_) | (refine q_guard rfl rfl (fun _ => ?_) (fun _ => ?_)) | (refine q_guardn rfl rfl (fun _ => ?_) (fun _ => ?_)))
          refine St.weak (hlh.trans hB6.base) ?_
          exact r_fin hT rfl (⟨(frz v ts).toArray⟩ : ByteArray) rfl rfl (congrArg (fun z : List UInt8 => some (Value.string ⟨z.toArray⟩)) hfz) trivial rfl ⟨rfl, rfl⟩
        · rw [if_neg hlen] at hfz
          repeat' (first | (refine r_pure hT rfl rfl rfl rfl ?_) | (refine r_new hT rfl rfl rfl rfl ?_) | (refine r_write hT rfl rfl rfl ?_) | (refine r_nil ?_) | (refine q_nil ?_) | (refine r_load hT (hatf _ hB6.base) rfl rfl rfl rfl rfl (Nat.add_zero _).symm rfl rfl rfl rfl rfl ?_) | (refine p_call (lenB hb u6 pb 95 (zPre ⟨pb, cv, A', c', bl, 0, cs.length, gm⟩ cs.length) [] _ y.1 y.2 r.o hB6) rfl rfl rfl rfl rfl (hC _ rfl) rfl rfl rfl ?_) | (refine r_call (stringB hb u6 pb 95 (zPre ⟨pb, cv, A', c', bl, 0, cs.length, gm⟩ cs.length) [] _ y.1 y.2 r.o hB6 hne (by omega)) rfl rfl rfl rfl rfl (hC _ rfl) rfl rfl (fun _ u7 hy7 => ?_)) | (refine r_arith rfl rfl rfl rfl rfl rfl rfl (by omega) ?_) | (with_reducible refine r_seq ?_) | (with_reducible refine x_then ?_) | (with_reducible refine r_region ?_) | (refine r_draw hM (by kernel_rfl) ?_) | (with_reducible refine r_skip ?_) | (with_reducible refine r_ret ?_) | (with_reducible refine x_then_ret ?_) | (with_reducible refine r_block ?_) | (with_reducible refine x_block ?_) | (with_reducible refine x_block_ret ?_) | (with_reducible refine r_exit ?_) | (with_reducible refine x_then_exit ?_) | (with_reducible refine x_block_here ?_) | (refine x_block_past rfl ?_) | (refine c_yes rfl (by omega) ?_) | (refine c_no rfl (by omega) ?_) | (refine c_no rfl (fun h => h rfl) ?_) | (refine r_cond_false rfl ?_) | (refine r_cond_true rfl ?_) | (refine r_cond_dec rfl (fun _ => ?_) (fun _ => ?_)) | (refine r_cond_true rfl ?_) | (refine r_cond_false rfl ?_) | (refine c_not rfl (fun _ => ?_) (fun _ => ?_)) | (refine r_off rfl rfl rfl ?_) | (refine q_guard rfl rfl (fun _ => ?_) (fun _ => ?_)) | (refine q_guardn rfl rfl (fun _ => ?_) (fun _ => ?_)))
          refine St.weak (fun z ox hz => hy7 z ox (fun e => by have := hB6.ho z e; rw [hlh z ox hz] at this; cases this) (hB6.base z ox (hlh z ox hz))) ?_
          exact r_fin hT rfl (⟨(frz v ts).toArray⟩ : ByteArray) rfl rfl (congrArg (fun z : List UInt8 => some (Value.string ⟨z.toArray⟩)) hfz) trivial rfl ⟨rfl, rfl⟩
  · have hfz : frz v ts = [] := by unfold frz; rw [if_neg hg]
    repeat' (first | (refine r_pure hT rfl rfl rfl rfl ?_) | (refine r_new hT rfl rfl rfl rfl ?_) | (refine r_write hT rfl rfl rfl ?_) | (refine r_nil ?_) | (refine q_nil ?_) | ((refine r_call (implOk v ts A ts.length c _ hP) rfl rfl rfl rfl rfl (hC _ rfl) rfl rfl (fun y u1 hy => ?_) ; obtain ⟨hy1, hle1⟩ := hy ; subst hy1)) | (refine c_not rfl (fun _ => ?_) (fun hx => absurd hx hg)) | (refine r_arith rfl rfl rfl rfl rfl rfl rfl (by omega) ?_) | (with_reducible refine r_seq ?_) | (with_reducible refine x_then ?_) | (with_reducible refine r_region ?_) | (refine r_draw hM (by kernel_rfl) ?_) | (with_reducible refine r_skip ?_) | (with_reducible refine r_ret ?_) | (with_reducible refine x_then_ret ?_) | (with_reducible refine r_block ?_) | (with_reducible refine x_block ?_) | (with_reducible refine x_block_ret ?_) | (with_reducible refine r_exit ?_) | (with_reducible refine x_then_exit ?_) | (with_reducible refine x_block_here ?_) | (refine x_block_past rfl ?_) | (refine c_yes rfl (by omega) ?_) | (refine c_no rfl (by omega) ?_) | (refine c_no rfl (fun h => h rfl) ?_) | (refine r_cond_false rfl ?_) | (refine r_cond_true rfl ?_) | (refine r_cond_dec rfl (fun _ => ?_) (fun _ => ?_)) | (refine r_cond_true rfl ?_) | (refine r_cond_false rfl ?_) | (refine c_not rfl (fun _ => ?_) (fun _ => ?_)) | (refine r_off rfl rfl rfl ?_) | (refine q_guard rfl rfl (fun _ => ?_) (fun _ => ?_)) | (refine q_guardn rfl rfl (fun _ => ?_) (fun _ => ?_)))
    refine St.weak hle1 ?_
    exact r_fin hT rfl (⟨(frz v ts).toArray⟩ : ByteArray) rfl rfl (congrArg (fun z : List UInt8 => some (Value.string ⟨z.toArray⟩)) hfz) trivial rfl ⟨rfl, rfl⟩
end Go.Proofs.YtkamfnmbidnhdaaDoor
