/- The specification's freezing, whole. No condition. -/
import Derived.Test.YtkamfnmbidnhdaaDoorSyDFg
import Derived.Test.YtkamfnmbidnhdaaDoorSyPub
import Derived.Test.YtkamfnmbidnhdaaDoorSyDzWY
set_option linter.unusedVariables false
set_option linter.unusedSimpArgs false
set_option linter.unusedSectionVars false
namespace Go.Proofs.YtkamfnmbidnhdaaDoor
open Go.Sy
set_option maxRecDepth 100000
set_option maxHeartbeats 8000000
set_option linter.unusedVariables false
set_option linter.unusedSimpArgs false
def multi (ts : List (List Pr)) (v : V) (a : Nat) : Bool := decide (1 < (rf ts (ts.length + 1) [] v).count a)
def fSV (v : V) (A : Option Addr) (n c b1 b2 : Nat) : List SV := [.v (.int .i64 v.k), .v (.int .i64 v.n), .v (.string v.s), .v (.int .i64 v.a), .v (.slice A n c), .v (.slice (some ⟨b1, 0, none⟩) n n), .v (.slice (some ⟨b2, 0, none⟩) n n), .v (.int .i64 0), .v (.slice none 0 0)]
theorem l4freeze (v : V) (ts : List (List Pr)) (A : Option Addr) (n c : Nat) (h : Hp) (hP : Tabs h A n ts) (hA : AllIn ts) (hv : In ts.length v) (hn : ts.length ≤ 1000) (hc : ∀ t ∈ ts, t.length ≤ 1000) (hfit : Fit ts) (hvf : v.fit) (hRS : (rf ts (ts.length + 1) [] v).length ≤ 1000000)
    (r : TS) (ht : tx ts (multi ts v) plT dcN (ts.length + 1) ⟨[], []⟩ v = some r) (hrL : r.L.length ≤ 1000000) (hro : r.o.length ≤ 900000000) :
    Pur Tryd.prog 64 [.ag (gsv v A n c)] h (fun y : ByteArray => .v (.string y)) ⟨r.o.toArray⟩ := by
  have hnn := hP.len
  subst hnn
  refine enterS Tryd.func64 rfl (n := 28) rfl rfl (fun k N => ?_)
  repeat' (first | (refine r_pure hT rfl rfl rfl rfl ?_) | (refine r_new hT rfl rfl rfl rfl ?_) | (refine r_write hT rfl rfl rfl ?_) | (refine r_nil ?_) | (refine q_nil ?_) | (refine r_arith rfl rfl rfl rfl rfl rfl rfl (by omega) ?_) | (with_reducible refine r_seq ?_) | (with_reducible refine x_then ?_) | (with_reducible refine r_region ?_) | (with_reducible refine r_skip ?_) | (with_reducible refine r_ret ?_) | (with_reducible refine x_then_ret ?_) | (with_reducible refine r_block ?_) | (with_reducible refine x_block ?_) | (with_reducible refine x_block_ret ?_) | (with_reducible refine r_exit ?_) | (with_reducible refine x_then_exit ?_) | (with_reducible refine x_block_here ?_) | (refine x_block_past rfl ?_) | (refine c_yes rfl (by omega) ?_) | (refine c_no rfl (by omega) ?_) | (refine c_no rfl (fun h => h rfl) ?_) | (refine r_cond_false rfl ?_) | (refine r_cond_true rfl ?_) | (refine r_cond_dec rfl (fun _ => ?_) (fun _ => ?_)) | (refine r_cond_true rfl ?_) | (refine r_cond_false rfl ?_) | (refine c_not rfl (fun _ => ?_) (fun _ => ?_)) | (refine r_off rfl rfl rfl ?_) | (refine q_guard rfl rfl (fun _ => ?_) (fun _ => ?_)) | (refine q_guardn rfl rfl (fun _ => ?_) (fun _ => ?_)))
  refine r_cut (γ := Hp × (Nat × Nat)) (fun g => Le h g.1 ∧ Own g.1 (some ⟨g.2.1, 0, none⟩) ts.length ts.length 3 1 (ledV ts.length []) ∧ Own g.1 (some ⟨g.2.2, 0, none⟩) ts.length ts.length 3 1 (labV ts.length []) ∧ h g.2.1 = none ∧ h g.2.2 = none ∧ g.2.1 ≠ g.2.2)
    (fun _ => [(1, .p 1 0), (3, .p 14 0)]) (fun g => [(14, ⟨none, fSV v A ts.length c g.2.1 g.2.2, 140⟩), (1, ⟨none, gsv v A ts.length c, 51⟩)]) (fun g => g.1)
    (r_many (id := 1) [0, 1, 2, 3, 5, 6, 7] [] h (Le.refl h) hM (by kernel_rfl) rfl (by kernel_rfl) rfl rfl rfl (fun β0 => ?_)) (fun g hg => ?_)
  · repeat' (first | (refine r_pure hT rfl rfl rfl rfl ?_) | (refine r_new hT rfl rfl rfl rfl ?_) | (refine r_write hT rfl rfl rfl ?_) | (refine r_nil ?_) | (refine q_nil ?_) | (refine r_makeN hT rfl rfl rfl rfl rfl rfl rfl (by simp) rfl rfl (by dsimp only; omega) (by omega) (fun b1 (hb1 : h b1 = none) => ?_)) | (refine r_makeN hT rfl rfl rfl rfl rfl rfl rfl (by simp) rfl rfl (by dsimp only; omega) (by omega) (fun b2 (hb2 : upd h b1 _ b2 = none) => ?_)) | (refine m_keep (le_frsh (Le.refl h) hb1) ⟨rfl, trivial⟩ rfl rfl ?_) | (refine m_keep (le_frsh (le_frsh (Le.refl h) hb1) hb2) ⟨rfl, trivial⟩ rfl rfl ?_) | (refine r_build hT rfl rfl rfl (ps := [(0, .tmp 4), (1, .tmp 8), (2, .tmp 12)]) rfl rfl rfl rfl rfl rfl ?_) | (refine r_arith rfl rfl rfl rfl rfl rfl rfl (by omega) ?_) | (with_reducible refine r_seq ?_) | (with_reducible refine x_then ?_) | (with_reducible refine r_region ?_) | (refine r_draw hM (by kernel_rfl) ?_) | (with_reducible refine r_skip ?_) | (with_reducible refine r_ret ?_) | (with_reducible refine x_then_ret ?_) | (with_reducible refine r_block ?_) | (with_reducible refine x_block ?_) | (with_reducible refine x_block_ret ?_) | (with_reducible refine r_exit ?_) | (with_reducible refine x_then_exit ?_) | (with_reducible refine x_block_here ?_) | (refine x_block_past rfl ?_) | (refine c_yes rfl (by omega) ?_) | (refine c_no rfl (by omega) ?_) | (refine c_no rfl (fun h => h rfl) ?_) | (refine r_cond_false rfl ?_) | (refine r_cond_true rfl ?_) | (refine r_cond_dec rfl (fun _ => ?_) (fun _ => ?_)) | (refine r_cond_true rfl ?_) | (refine r_cond_false rfl ?_) | (refine c_not rfl (fun _ => ?_) (fun _ => ?_)) | (refine r_off rfl rfl rfl ?_) | (refine q_guard rfl rfl (fun _ => ?_) (fun _ => ?_)) | (refine q_guardn rfl rfl (fun _ => ?_) (fun _ => ?_)) | (refine s_nil ?_) | (with_reducible refine a_full ?_) | (refine m_step rfl rfl (List.cons_ne_nil _ _) ?_) | (refine allR_cons rfl ?_ ?_) | (exact allR_nil) | (refine m_end rfl rfl rfl ?_))
    · replace hb2 : upd h b1 (.cells (reps ts.length [Value.int .i64 0]).toArray 3 (0, 0)) b2 = none := hb2
      have n12 : b2 ≠ b1 := fun e => by rw [e, upd_here] at hb2; cases hb2
      have hb20 : h b2 = none := by rw [upd_ne n12] at hb2; exact hb2
      have hO1 : Own (upd (upd h b1 (.cells (reps ts.length [Value.int .i64 0]).toArray 3 (0, 0))) b2 (.cells (reps ts.length [Value.int .i64 0]).toArray 3 (0, 0))) (some ⟨b1, 0, none⟩) ts.length ts.length 3 1 (reps ts.length [Value.int .i64 0]) := own_fr (own_made rfl) hb2
      have hO2 : Own (upd (upd h b1 (.cells (reps ts.length [Value.int .i64 0]).toArray 3 (0, 0))) b2 (.cells (reps ts.length [Value.int .i64 0]).toArray 3 (0, 0))) (some ⟨b2, 0, none⟩) ts.length ts.length 3 1 (reps ts.length [Value.int .i64 0]) := own_made rfl
      have hl2 := le_frsh (o := (.cells (reps ts.length [Value.int .i64 0]).toArray 3 (0, 0))) (le_frsh (o := (.cells (reps ts.length [Value.int .i64 0]).toArray 3 (0, 0))) (Le.refl h) hb1) hb2
      exact x_cut (_, (b1, b2)) ⟨hl2, by rw [ledV_zero]; exact hO1, by rw [labV_zero]; exact hO2, hb1, hb20, Ne.symm n12⟩ (into rfl ⟨rfl, rfl, trivial⟩ ⟨rfl, rfl, trivial⟩ rfl rfl)
    · replace hb2 : upd h b1 (.cells (reps ts.length [Value.int .i64 0]).toArray 3 (0, 0)) b2 = none := hb2
      have n12 : b2 ≠ b1 := fun e => by rw [e, upd_here] at hb2; cases hb2
      have hb20 : h b2 = none := by rw [upd_ne n12] at hb2; exact hb2
      have hO1 : Own (upd (upd h b1 (.cells (reps ts.length [Value.int .i64 0]).toArray 3 (0, 0))) b2 (.cells (reps ts.length [Value.int .i64 0]).toArray 3 (0, 0))) (some ⟨b1, 0, none⟩) ts.length ts.length 3 1 (reps ts.length [Value.int .i64 0]) := own_fr (own_made rfl) hb2
      have hO2 : Own (upd (upd h b1 (.cells (reps ts.length [Value.int .i64 0]).toArray 3 (0, 0))) b2 (.cells (reps ts.length [Value.int .i64 0]).toArray 3 (0, 0))) (some ⟨b2, 0, none⟩) ts.length ts.length 3 1 (reps ts.length [Value.int .i64 0]) := own_made rfl
      have hl2 := le_frsh (o := (.cells (reps ts.length [Value.int .i64 0]).toArray 3 (0, 0))) (le_frsh (o := (.cells (reps ts.length [Value.int .i64 0]).toArray 3 (0, 0))) (Le.refl h) hb1) hb2
      exact x_cut (_, (b2, b1)) ⟨hl2, by rw [ledV_zero]; exact hO2, by rw [labV_zero]; exact hO1, hb20, hb1, n12⟩ (into rfl ⟨rfl, rfl, trivial⟩ ⟨rfl, rfl, trivial⟩ rfl rfl)
  · obtain ⟨u2, ⟨b1, b2⟩⟩ := g
    obtain ⟨hl2, hO1, hO2, hb1, hb2, h12⟩ := hg
    dsimp only at *
    repeat' (first | (refine r_pure hT rfl rfl rfl rfl ?_) | (refine r_new hT rfl rfl rfl rfl ?_) | (refine r_write hT rfl rfl rfl ?_) | (refine r_nil ?_) | (refine q_nil ?_) | (refine r_arith rfl rfl rfl rfl rfl rfl rfl (by omega) ?_) | (with_reducible refine r_seq ?_) | (with_reducible refine x_then ?_) | (with_reducible refine r_region ?_) | (refine r_draw hM (by kernel_rfl) ?_) | (with_reducible refine r_skip ?_) | (with_reducible refine r_ret ?_) | (with_reducible refine x_then_ret ?_) | (with_reducible refine r_block ?_) | (with_reducible refine x_block ?_) | (with_reducible refine x_block_ret ?_) | (with_reducible refine r_exit ?_) | (with_reducible refine x_then_exit ?_) | (with_reducible refine x_block_here ?_) | (refine x_block_past rfl ?_) | (refine c_yes rfl (by omega) ?_) | (refine c_no rfl (by omega) ?_) | (refine c_no rfl (fun h => h rfl) ?_) | (refine r_cond_false rfl ?_) | (refine r_cond_true rfl ?_) | (refine r_cond_true rfl ?_) | (refine r_cond_false rfl ?_) | (refine r_off rfl rfl rfl ?_) | (refine q_guard rfl rfl (fun _ => ?_) (fun _ => ?_)) | (refine q_guardn rfl rfl (fun _ => ?_) (fun _ => ?_)))
    refine r_pub 14 (fun pb => fCells ⟨pb, v, A, c, b1, 0, ts.length, b2, 0, ts.length⟩ ts.length (([] : List Nat).length : Int) none ([] : List UInt8).length 0) rfl rfl (fun _ => rfl) (fun pb hpb => ?_)
    have hne1 : pb ≠ b1 := fun e => hO1.live rfl (by rw [← e]; exact hpb)
    have hne2 : pb ≠ b2 := fun e => hO2.live rfl (by rw [← e]; exact hpb)
    have hF : FSt h (upd u2 pb (.cells (fCells ⟨pb, v, A, c, b1, 0, ts.length, b2, 0, ts.length⟩ ts.length (([] : List Nat).length : Int) none ([] : List UInt8).length 0).toArray 140 (0, 0))) ⟨pb, v, A, c, b1, 0, ts.length, b2, 0, ts.length⟩ ts none 0 [] [] [] :=
      ⟨upd_here .., own_fr hO1 hpb, own_fr hO2 hpb, own_nil, le_frsh hl2 hpb, none_of hl2 hpb, hb1, hb2, off_nil, ⟨hne1, hne2, h12, by simp [blk], by simp [blk], by simp [blk]⟩, hP⟩
    generalize upd u2 pb (.cells (fCells ⟨pb, v, A, c, b1, 0, ts.length, b2, 0, ts.length⟩ ts.length (([] : List Nat).length : Int) none ([] : List UInt8).length 0).toArray 140 (0, 0)) = u3 at *
    repeat' (first | (refine r_pure hT rfl rfl rfl rfl ?_) | (refine r_new hT rfl rfl rfl rfl ?_) | (refine r_write hT rfl rfl rfl ?_) | (refine r_nil ?_) | (refine q_nil ?_) | (refine r_call (countW h ⟨pb, v, A, c, b1, 0, ts.length, b2, 0, ts.length⟩ ts hA (by omega) (fun t ht => by have := hc t ht; omega) [] none 0 [] (ts.length + 1) [] [] v u3 hF (nm_nil _) hv (fun a => Iff.rfl) (by simp) hRS) rfl rfl rfl rfl rfl (hC _ rfl) rfl rfl (fun _ u4 hF4 => ?_)) | (refine r_call (valF h ⟨pb, v, A, c, b1, 0, ts.length, b2, 0, ts.length⟩ ts hA (fun t ht => by have := hc t ht; omega) hfit (rf ts (ts.length + 1) [] v) (multi ts v) (fun a => rfl) (ts.length + 1) ⟨[], []⟩ v r u4 none 0 hF4 ht hv hvf hrL hro) rfl rfl rfl rfl rfl (hC _ rfl) rfl rfl (fun y u5 hF5 => ?_)) | (refine r_load hT hF5.at_ rfl rfl rfl rfl rfl rfl rfl rfl rfl rfl rfl ?_) | (refine r_str (s := ⟨r.o.toArray⟩) hT rfl rfl rfl rfl rfl rfl rfl rfl rfl rfl rfl (by rw [bc1_of]; exact hF5.out.sl) ?_) | (refine r_arith rfl rfl rfl rfl rfl rfl rfl (by omega) ?_) | (with_reducible refine r_seq ?_) | (with_reducible refine x_then ?_) | (with_reducible refine r_region ?_) | (refine r_draw hM (by kernel_rfl) ?_) | (with_reducible refine r_skip ?_) | (with_reducible refine r_ret ?_) | (with_reducible refine x_then_ret ?_) | (with_reducible refine r_block ?_) | (with_reducible refine x_block ?_) | (with_reducible refine x_block_ret ?_) | (with_reducible refine r_exit ?_) | (with_reducible refine x_then_exit ?_) | (with_reducible refine x_block_here ?_) | (refine x_block_past rfl ?_) | (refine c_yes rfl (by omega) ?_) | (refine c_no rfl (by omega) ?_) | (refine c_no rfl (fun h => h rfl) ?_) | (refine r_cond_false rfl ?_) | (refine r_cond_true rfl ?_) | (refine r_cond_dec rfl (fun _ => ?_) (fun _ => ?_)) | (refine r_cond_true rfl ?_) | (refine r_cond_false rfl ?_) | (refine c_not rfl (fun _ => ?_) (fun _ => ?_)) | (refine r_off rfl rfl rfl ?_) | (refine q_guard rfl rfl (fun _ => ?_) (fun _ => ?_)) | (refine q_guardn rfl rfl (fun _ => ?_) (fun _ => ?_)))
    refine St.weak hF5.base ?_
    exact r_fin hT rfl (⟨r.o.toArray⟩ : ByteArray) rfl rfl rfl trivial rfl ⟨rfl, rfl⟩
end Go.Proofs.YtkamfnmbidnhdaaDoor
/- The specification's freezing: the plain text of a graph that is well made; spec.Freeze. No condition. -/
namespace Go.Proofs.YtkamfnmbidnhdaaDoor
open Go.Sy
set_option maxRecDepth 100000
set_option maxHeartbeats 8000000
set_option linter.unusedVariables false
set_option linter.unusedSimpArgs false
def Rng (v : V) : Prop := -9223372036854775808 ≤ v.n ∧ v.n ≤ 9223372036854775807
def RngG (v : V) (ts : List (List Pr)) : Prop := Rng v ∧ ∀ t ∈ ts, ∀ p ∈ t, Rng p.key ∧ Rng p.val
theorem vok_size {v : V} {n : Nat} (h : VOk v n) : v.s.size ≤ 500 := by
  have h0 : v.s.toList = [] → v.s.size ≤ 500 := fun e => by
    have := text_eq.1 (e.trans nil_list.symm)
    rw [this]; show 0 ≤ 500; omega
  rcases h with h | h | h | h | h
  · exact h0 h.2.2.1
  · exact h0 h.2.2.1
  · exact h0 h.2.1
  · exact h.2.2.2
  · exact h0 h.2.2.1
theorem itoa_len {n : Int} (h0 : -9223372036854775808 ≤ n) (h1 : n ≤ 9223372036854775807) : (Lib.itoa n).length ≤ 21 := by
  by_cases hz : n = 0
  · rw [hz, itoa_zero]; simp
  · rw [itoa_rdg n hz, List.length_append, List.length_reverse]
    have := rdg_len 20 n.natAbs (by omega)
    split <;> simp <;> omega
theorem plT_len {v : V} (hs : v.s.size ≤ 500) (hr : Rng v) : (plT v).length ≤ 1502 := by
  unfold plT
  split
  · split <;> simp
  · split
    · have := itoa_len hr.1 hr.2; omega
    · split
      · have := qt_len v.s.data.toList
        have e : v.s.data.toList.length = v.s.size := rfl
        omega
      · simp
theorem gok_fit {v : V} {ts : List (List Pr)} (h : GOk v ts) (hr : RngG v ts) : FzOk ts plT dcN 1502 ∧ Fit ts ∧ v.fit ∧ (plT v).length ≤ 1502 := by
  obtain ⟨i1, i2, i3, i4⟩ := gok_in h
  have hv := vok_size h.2.1
  refine ⟨⟨i1, i4, fun t ht p hp => ?_, fun k hk => by have := itoa_len (n := (k : Int)) (by omega) (by omega); unfold dcN; omega⟩, fun t ht p hp => ?_, ⟨hr.1, by omega⟩, plT_len hv hr.1⟩
  · have hp1 := (h.2.2 t ht).2.1 p hp
    obtain ⟨r1, r2⟩ := hr.2 t ht p hp
    exact ⟨plT_len (vok_size hp1.1.2) r1, plT_len (vok_size hp1.2.1) r2⟩
  · have hp1 := (h.2.2 t ht).2.1 p hp
    obtain ⟨r1, r2⟩ := hr.2 t ht p hp
    have e1 := vok_size hp1.1.2
    have e2 := vok_size hp1.2.1
    exact ⟨⟨r1, by omega⟩, ⟨r2, by omega⟩⟩
theorem trefs_len (t : List Pr) : (trefs t).length ≤ t.length := by
  unfold trefs
  induction t with
  | nil => simp
  | cons p r ih =>
    rw [List.flatMap_cons, List.length_append, List.length_cons]
    have : (vrefs p.val).length ≤ 1 := by unfold vrefs; split <;> simp
    omega
theorem brefs_sum {ts : List (List Pr)} (h : ∀ t ∈ ts, t.length ≤ 100) : ∀ l : List Nat, (l.flatMap (brefs ts)).length ≤ 100 * l.length
  | [] => by simp
  | b :: r => by
    have := brefs_sum h r
    have hb : (brefs ts b).length ≤ 100 := by
      unfold brefs
      have := trefs_len (ts.getD b [])
      have h2 : (ts.getD b []).length ≤ 100 := by
        rw [List.getD_eq_getElem?_getD]
        cases hq : ts[b]? with
        | none => simp
        | some t => exact h t (List.mem_of_getElem? hq)
      omega
    rw [List.flatMap_cons, List.length_append, List.length_cons]; omega
theorem rs_len {v : V} {ts : List (List Pr)} (h : GOk v ts) : (rf ts (ts.length + 1) [] v).length ≤ 1000000 := by
  obtain ⟨i1, i2, i3, i4⟩ := gok_in h
  rw [(rf_all i1 i2).length_eq, List.length_append]
  have h1 : (vrefs v).length ≤ 1 := by unfold vrefs; split <;> simp
  have h2 := brefs_sum i4 (ordOf ts v)
  have h3 := (ordOf_nm i1 i2).len
  omega
/-- The text of a graph that is well made. -/
theorem gok_txt {v : V} {ts : List (List Pr)} (h : GOk v ts) (hr : RngG v ts) : ∃ r, tx ts (multi ts v) plT dcN (ts.length + 1) ⟨[], []⟩ v = some r ∧ r.L.length ≤ 1000000 ∧ r.o.length ≤ 900000000 ∧ ∀ a ∈ r.L, a ∈ ordOf ts v := by
  obtain ⟨i1, i2, i3, i4⟩ := gok_in h
  obtain ⟨f1, f2, f3, f4⟩ := gok_fit h hr
  obtain ⟨r, e1, e2, e3, e4⟩ := tx_some (m := multi ts v) f1 (ts.length + 1) [] [] v ⟨[], []⟩ (nm_nil _) i2 f4 (fun a => Iff.rfl) (by simp) rfl (fun a ha => decide_eq_true ha)
  have h3 := (ordOf_nm i1 i2).len
  have h4 : go ts (ts.length + 1) [] v = ordOf ts v := rfl
  rw [h4] at e2 e4
  refine ⟨r, e1, ?_, ?_, fun a ha => ?_⟩
  · rw [e2]
    have := List.length_filter_le (multi ts v) (ordOf ts v)
    omega
  · have : bigK 1502 * ((ordOf ts v).length - ([] : List Nat).length) ≤ bigK 1502 * 200 := Nat.mul_le_mul_left _ (by simp; omega)
    have hb : bigK 1502 = 302406 := rfl
    rw [hb] at this e4
    simp only [List.length_nil] at e4
    simp only [List.length_nil] at this
    omega
  · rw [e2] at ha
    exact (List.mem_filter.1 ha).1
/-- What Freeze answers. -/
def frz (v : V) (ts : List (List Pr)) : List UInt8 := if GOk v ts then (match tx ts (multi ts v) plT dcN (ts.length + 1) ⟨[], []⟩ v with | some r => if 20000 < r.o.length then [] else r.o | none => []) else []
theorem specFreeze (v : V) (ts : List (List Pr)) (A : Option Addr) (n c : Nat) (h : Hp) (hP : Tabs h A n ts) (hr : RngG v ts) : Pur Tryd.prog 30 [.ag (gsv v A n c)] h (fun y : ByteArray => .v (.string y)) ⟨(frz v ts).toArray⟩ := by
  refine enterS Tryd.func30 rfl (n := 13) rfl rfl (fun k N => ?_)
  by_cases hg : GOk v ts
  · have hok := specOk v ts A n c h hP
    rw [decide_eq_true hg] at hok
    obtain ⟨i1, i2, i3, i4⟩ := gok_in hg
    obtain ⟨f1, f2, f3, f4⟩ := gok_fit hg hr
    obtain ⟨r, e1, e2, e3, e4⟩ := gok_txt hg hr
    have hfz : frz v ts = if 20000 < r.o.length then [] else r.o := by unfold frz; rw [if_pos hg, e1]
    have hl4 := l4freeze v ts A n c h hP i1 i2 (by omega) (fun t ht => by have := i4 t ht; omega) f2 f3 (rs_len hg) r e1 e2 e3
    have hsz : ((⟨r.o.toArray⟩ : ByteArray).size : Int) = (r.o.length : Int) := rfl
    by_cases hlen : 20000 < r.o.length
    · rw [if_pos hlen] at hfz
      repeat' (first | (refine r_pure hT rfl rfl rfl rfl ?_) | (refine r_new hT rfl rfl rfl rfl ?_) | (refine r_write hT rfl rfl rfl ?_) | (refine r_nil ?_) | (refine q_nil ?_) | (refine p_call hok rfl rfl rfl rfl rfl (hC _ rfl) rfl rfl rfl ?_) | (refine p_call hl4 rfl rfl rfl rfl rfl (hC _ rfl) rfl rfl rfl ?_) | (refine c_yes rfl (show (20000 : Int) < ((⟨r.o.toArray⟩ : ByteArray).size : Int) by rw [hsz]; omega) ?_) | (refine r_arith rfl rfl rfl rfl rfl rfl rfl (by omega) ?_) | (with_reducible refine r_seq ?_) | (with_reducible refine x_then ?_) | (with_reducible refine r_region ?_) | (refine r_draw hM (by kernel_rfl) ?_) | (with_reducible refine r_skip ?_) | (with_reducible refine r_ret ?_) | (with_reducible refine x_then_ret ?_) | (with_reducible refine r_block ?_) | (with_reducible refine x_block ?_) | (with_reducible refine x_block_ret ?_) | (with_reducible refine r_exit ?_) | (with_reducible refine x_then_exit ?_) | (with_reducible refine x_block_here ?_) | (refine x_block_past rfl ?_) | (refine c_yes rfl (by omega) ?_) | (refine c_no rfl (by omega) ?_) | (refine c_no rfl (fun h => h rfl) ?_) | (refine r_cond_false rfl ?_) | (refine r_cond_true rfl ?_) | (refine r_cond_dec rfl (fun _ => ?_) (fun _ => ?_)) | (refine r_cond_true rfl ?_) | (refine r_cond_false rfl ?_) | (refine c_not rfl (fun _ => ?_) (fun _ => ?_)) | (refine r_off rfl rfl rfl ?_) | (refine q_guard rfl rfl (fun _ => ?_) (fun _ => ?_)) | (refine q_guardn rfl rfl (fun _ => ?_) (fun _ => ?_)))
      exact r_fin hT rfl (⟨(frz v ts).toArray⟩ : ByteArray) rfl rfl (congrArg (fun z : List UInt8 => some (Value.string ⟨z.toArray⟩)) hfz) trivial rfl ⟨rfl, rfl⟩
    · rw [if_neg hlen] at hfz
      repeat' (first | (refine r_pure hT rfl rfl rfl rfl ?_) | (refine r_new hT rfl rfl rfl rfl ?_) | (refine r_write hT rfl rfl rfl ?_) | (refine r_nil ?_) | (refine q_nil ?_) | (refine p_call hok rfl rfl rfl rfl rfl (hC _ rfl) rfl rfl rfl ?_) | (refine p_call hl4 rfl rfl rfl rfl rfl (hC _ rfl) rfl rfl rfl ?_) | (refine c_no rfl (show ¬ (20000 : Int) < ((⟨r.o.toArray⟩ : ByteArray).size : Int) by rw [hsz]; omega) ?_) | (refine r_arith rfl rfl rfl rfl rfl rfl rfl (by omega) ?_) | (with_reducible refine r_seq ?_) | (with_reducible refine x_then ?_) | (with_reducible refine r_region ?_) | (refine r_draw hM (by kernel_rfl) ?_) | (with_reducible refine r_skip ?_) | (with_reducible refine r_ret ?_) | (with_reducible refine x_then_ret ?_) | (with_reducible refine r_block ?_) | (with_reducible refine x_block ?_) | (with_reducible refine x_block_ret ?_) | (with_reducible refine r_exit ?_) | (with_reducible refine x_then_exit ?_) | (with_reducible refine x_block_here ?_) | (refine x_block_past rfl ?_) | (refine c_yes rfl (by omega) ?_) | (refine c_no rfl (by omega) ?_) | (refine c_no rfl (fun h => h rfl) ?_) | (refine r_cond_false rfl ?_) | (refine r_cond_true rfl ?_) | (refine r_cond_dec rfl (fun _ => ?_) (fun _ => ?_)) | (refine r_cond_true rfl ?_) | (refine r_cond_false rfl ?_) | (refine c_not rfl (fun _ => ?_) (fun _ => ?_)) | (refine r_off rfl rfl rfl ?_) | (refine q_guard rfl rfl (fun _ => ?_) (fun _ => ?_)) | (refine q_guardn rfl rfl (fun _ => ?_) (fun _ => ?_)))
      exact r_fin hT rfl (⟨(frz v ts).toArray⟩ : ByteArray) rfl rfl (congrArg (fun z : List UInt8 => some (Value.string ⟨z.toArray⟩)) hfz) trivial rfl ⟨rfl, rfl⟩
  · have hok := specOk v ts A n c h hP
    rw [decide_eq_false hg] at hok
    have hfz : frz v ts = [] := by unfold frz; rw [if_neg hg]
    repeat' (first | (refine r_pure hT rfl rfl rfl rfl ?_) | (refine r_new hT rfl rfl rfl rfl ?_) | (refine r_write hT rfl rfl rfl ?_) | (refine r_nil ?_) | (refine q_nil ?_) | (refine p_call hok rfl rfl rfl rfl rfl (hC _ rfl) rfl rfl rfl ?_) | (refine r_arith rfl rfl rfl rfl rfl rfl rfl (by omega) ?_) | (with_reducible refine r_seq ?_) | (with_reducible refine x_then ?_) | (with_reducible refine r_region ?_) | (refine r_draw hM (by kernel_rfl) ?_) | (with_reducible refine r_skip ?_) | (with_reducible refine r_ret ?_) | (with_reducible refine x_then_ret ?_) | (with_reducible refine r_block ?_) | (with_reducible refine x_block ?_) | (with_reducible refine x_block_ret ?_) | (with_reducible refine r_exit ?_) | (with_reducible refine x_then_exit ?_) | (with_reducible refine x_block_here ?_) | (refine x_block_past rfl ?_) | (refine c_yes rfl (by omega) ?_) | (refine c_no rfl (by omega) ?_) | (refine c_no rfl (fun h => h rfl) ?_) | (refine r_cond_false rfl ?_) | (refine r_cond_true rfl ?_) | (refine r_cond_dec rfl (fun _ => ?_) (fun _ => ?_)) | (refine r_cond_true rfl ?_) | (refine r_cond_false rfl ?_) | (refine c_not rfl (fun _ => ?_) (fun _ => ?_)) | (refine r_off rfl rfl rfl ?_) | (refine q_guard rfl rfl (fun _ => ?_) (fun _ => ?_)) | (refine q_guardn rfl rfl (fun _ => ?_) (fun _ => ?_)))
    exact r_fin hT rfl (⟨(frz v ts).toArray⟩ : ByteArray) rfl rfl (congrArg (fun z : List UInt8 => some (Value.string ⟨z.toArray⟩)) hfz) trivial rfl ⟨rfl, rfl⟩
end Go.Proofs.YtkamfnmbidnhdaaDoor
