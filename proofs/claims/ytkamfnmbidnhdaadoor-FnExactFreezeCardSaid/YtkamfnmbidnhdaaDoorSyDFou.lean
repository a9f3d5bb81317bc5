/- FnExactFreeze: the law's walk. No condition. -/
import Derived.Test.YtkamfnmbidnhdaaDoorSyDzQS
import Derived.Test.YtkamfnmbidnhdaaDoorSyDzX24
import Derived.Test.YtkamfnmbidnhdaaDoorSyDzX5
import Derived.Test.YtkamfnmbidnhdaaDoorSyDzX6
import Derived.Test.YtkamfnmbidnhdaaDoorSyDzX78
import Derived.Test.YtkamfnmbidnhdaaDoorSyDFn
set_option linter.unusedVariables false
set_option linter.unusedSimpArgs false
set_option linter.unusedSectionVars false
namespace Go.Sy
theorem q_glt {P : Program} {F : Fr} {tm : Tm} {L : Lm} {u : Hp} {Q : Exit → Act → World → Prop} {q : Md} {l r : List Oper} {o : Oper} {d : Nat} {x y : Int} (hg : guardE l o = some d) (hd : kget tm d = some (.v (.bool (decide (x < y))))) (hp : ¬ x < y) (h2 : Run P Q F ((d, .v (.bool false)) :: tm) L u q l (o :: r)) :
    Run P Q F tm L u q l (o :: r) := q_guard hg hd (fun h => absurd h hp) (fun _ => h2)
end Go.Sy
namespace Go.Proofs.YtkamfnmbidnhdaaDoor
open Go.Sy
set_option maxRecDepth 100000
set_option maxHeartbeats 4000000
set_option linter.unusedVariables false
set_option linter.unusedSimpArgs false
theorem szTsf_len : ∀ (ts : List (List Pr)) (l : Int), 0 ≤ szTsf ts l → 0 ≤ l → ∀ t ∈ ts, (t.length : Int) ≤ l
  | [], l, _, _, t, ht => by cases ht
  | s :: r, l, h, h0, t, ht => by
    have h1 := szTf_le s l h0
    have h2 : 0 ≤ szTf s l ∧ 0 ≤ szTsf r (szTf s l) := by
      simp only [szTsf] at h
      split at h
      · omega
      · exact ⟨by omega, h⟩
    rcases List.mem_cons.1 ht with rfl | ht
    · have h3 := h2.1
      unfold szTf at h3
      split at h3
      · omega
      · unfold szPairsF at h3
        split at h3 <;> omega
    · have := szTsf_len r _ h2.2 h2.1 t ht
      omega
theorem szG_len {v : V} {ts : List (List Pr)} {l : Int} (h0 : 0 ≤ l) (h : 0 ≤ szGf v ts l) : (ts.length : Int) ≤ l ∧ ∀ t ∈ ts, (t.length : Int) ≤ l := by
  have h1 := szVf_le v.s l h0
  unfold szGf at h
  split at h
  · omega
  · split at h
    · omega
    · rename_i a b
      unfold szTablesF at h b
      split at h
      · omega
      · rename_i c
        refine ⟨by omega, fun t ht => ?_⟩
        have := szTsf_len ts _ h (by omega) t ht
        omega
theorem cnt_le : ∀ (ts : List (List Pr)) (m : Nat), (∀ t ∈ ts, t.length ≤ m) → cnt ts ≤ ts.length * m
  | [], m, _ => by simp [cnt]
  | t :: r, m, h => by
    have h1 := cnt_le r m (fun s hs => h s (.tail _ hs))
    have h2 := h t (.head _)
    simp only [cnt, List.length_cons, Nat.add_mul]; omega
theorem cT_le (v : V) (ts : List (List Pr)) : (cT v ts).length ≤ 200 ∧ ∀ t ∈ cT v ts, t.length ≤ 100 := by
  unfold cT
  split
  · rename_i hg
    obtain ⟨h1, h2, h3, h4⟩ := gok_in hg
    refine ⟨by have := (ordOf_nm h1 h2).len; simp [cTs]; omega, fun t ht => ?_⟩
    simp only [cTs, List.mem_map] at ht
    obtain ⟨a, ha, rfl⟩ := ht
    have hlt := (ordOf_nm h1 h2).lt a ha
    rw [List.getD_eq_getElem?_getD, List.getElem?_eq_getElem hlt]
    simp only [Option.getD_some, List.length_map]
    exact h4 _ (List.getElem_mem hlt)
  · exact ⟨by simp, fun t ht => by cases ht⟩
theorem cT_ok (v : V) {ts : List (List Pr)} (h : okTs ts) : okTs (cT v ts) := by
  obtain ⟨g1, g2⟩ := cT_le v ts
  refine ⟨by omega, fun t ht => ⟨by have := g2 t ht; omega, fun p hp => ?_⟩⟩
  unfold cT at ht
  split at ht
  · rename_i hg
    obtain ⟨h1, h2, h3, h4⟩ := gok_in hg
    simp only [cTs, List.mem_map] at ht
    obtain ⟨a, ha, rfl⟩ := ht
    have hlt := (ordOf_nm h1 h2).lt a ha
    rw [List.getD_eq_getElem?_getD, List.getElem?_eq_getElem hlt, Option.getD_some] at hp
    obtain ⟨q, hq, rfl⟩ := List.mem_map.1 hp
    obtain ⟨k1, k2⟩ := (h.2 _ (List.getElem_mem hlt)).2 q hq
    refine ⟨k1, ?_⟩
    show (ren (ordOf ts v) q.val).okS
    unfold ren
    split
    · exact k2
    · exact k2
  · cases ht
/-- A heap stays where other rows are written. -/
theorem le_rows {u0 u u' : Hp} {A : Option Addr} {hs : List Hd} (hl : Le u0 u) (ho : OffAll u0 A hs) (hu : ∀ b, (∀ y ∈ hs, blk y.A ≠ some b) → u' b = u b) : Le u0 u' := fun b o hb => by
  rw [hu b (fun y hy e => by rw [ho.2 y hy b e] at hb; cases hb)]; exact hl b o hb
theorem ot_rows {w u u' : Hp} {A B : Option Addr} {n c m d : Nat} {hs gs : List Hd} {ts ss : List (List Pr)} (hO : OT u 59 61 A n c hs ts) (hB : OT w 59 61 B m d gs ss) (hof : OffAll w A hs) (hu : ∀ b, (∀ y ∈ gs, blk y.A ≠ some b) → u' b = u b) : OT u' 59 61 A n c hs ts :=
  hO.keep fun b o hb ho => by
    rw [hu b (fun y hy e => ?_)]
    · exact ho
    · have hlive := hB.rows.live hy e
      rcases hb with hb | ⟨x, hx, hb⟩
      · exact hlive (hof.1 b hb)
      · exact hlive (hof.2 x hx b hb)
end Go.Proofs.YtkamfnmbidnhdaaDoor
namespace Go.Proofs.YtkamfnmbidnhdaaDoor
open Go.Sy
set_option maxRecDepth 100000
set_option maxHeartbeats 4000000
set_option linter.unusedVariables false
set_option linter.unusedSimpArgs false
theorem lawFreeze (v : V) (ts : List (List Pr)) (A : Option Addr) (n c : Nat) (h : Hp) (hP : Tabs h A n ts) (hv : v.okS) (hok : okTs ts) (hr : RngG v ts) (ht10 : Tab10 h) :
    TriS Tryd.prog 6 [.ag (gsv v A n c)] [] h (fun y : Bool => .v (.bool y)) (fun _ => []) (fun y h' => y = true ∧ Le h h') := by
  refine enterS Tryd.func6 rfl (n := 27) rfl rfl (fun k N => ?_)
  repeat' (first | (refine r_pure hT rfl rfl rfl rfl ?_) | (refine r_new hT rfl rfl rfl rfl ?_) | (refine r_write hT rfl rfl rfl ?_) | (refine r_nil ?_) | (refine q_nil ?_) | (refine p_call (szGraph v ts A n c 1048576 _ hP hv hok (by omega) (by omega)) rfl rfl rfl rfl rfl (hC _ rfl) rfl rfl rfl ?_) | (refine r_cond_dec rfl (fun hz => ?_) (fun hz => ?_)) | (refine r_arith rfl rfl rfl rfl rfl rfl rfl (by omega) ?_) | (with_reducible refine r_seq ?_) | (with_reducible refine x_then ?_) | (with_reducible refine r_region ?_) | (refine r_draw hM (by kernel_rfl) ?_) | (with_reducible refine r_skip ?_) | (with_reducible refine r_ret ?_) | (with_reducible refine x_then_ret ?_) | (with_reducible refine r_block ?_) | (with_reducible refine x_block ?_) | (with_reducible refine x_block_ret ?_) | (with_reducible refine r_exit ?_) | (with_reducible refine x_then_exit ?_) | (with_reducible refine x_block_here ?_) | (refine x_block_past rfl ?_) | (refine c_yes rfl (by omega) ?_) | (refine c_no rfl (by omega) ?_) | (refine c_no rfl (fun h => h rfl) ?_) | (refine r_cond_false rfl ?_) | (refine r_cond_true rfl ?_) | (refine r_cond_dec rfl (fun _ => ?_) (fun _ => ?_)) | (refine r_cond_true rfl ?_) | (refine r_cond_false rfl ?_) | (refine c_not rfl (fun _ => ?_) (fun _ => ?_)) | (refine r_off rfl rfl rfl ?_) | (refine q_guard rfl rfl (fun _ => ?_) (fun _ => ?_)) | (refine q_guardn rfl rfl (fun _ => ?_) (fun _ => ?_)))
  · exact r_fin hT rfl true rfl rfl rfl trivial rfl ⟨rfl, Le.refl _⟩
  obtain ⟨l1, l2⟩ := szG_len (by omega) (Int.not_lt.1 hz)
  have l1' : ts.length ≤ 1048576 := by omega
  have l2' : ∀ t ∈ ts, t.length ≤ 1048576 := fun t ht => by have := l2 t ht; omega
  repeat' (first | (refine r_pure hT rfl rfl rfl rfl ?_) | (refine r_new hT rfl rfl rfl rfl ?_) | (refine r_write hT rfl rfl rfl ?_) | (refine r_nil ?_) | (refine q_nil ?_) | (refine r_call (toGraph v ts A n c _ hP l1' l2') rfl rfl rfl rfl rfl (hC _ rfl) rfl rfl (fun y1 u1 hy1 => ?_)) | (refine r_arith rfl rfl rfl rfl rfl rfl rfl (by omega) ?_) | (with_reducible refine r_seq ?_) | (with_reducible refine x_then ?_) | (with_reducible refine r_region ?_) | (refine r_draw hM (by kernel_rfl) ?_) | (with_reducible refine r_skip ?_) | (with_reducible refine r_ret ?_) | (with_reducible refine x_then_ret ?_) | (with_reducible refine r_block ?_) | (with_reducible refine x_block ?_) | (with_reducible refine x_block_ret ?_) | (with_reducible refine r_exit ?_) | (with_reducible refine x_then_exit ?_) | (with_reducible refine x_block_here ?_) | (refine x_block_past rfl ?_) | (refine c_yes rfl (by omega) ?_) | (refine c_no rfl (by omega) ?_) | (refine c_no rfl (fun h => h rfl) ?_) | (refine r_cond_false rfl ?_) | (refine r_cond_true rfl ?_) | (refine r_cond_dec rfl (fun _ => ?_) (fun _ => ?_)) | (refine r_cond_true rfl ?_) | (refine r_cond_false rfl ?_) | (refine c_not rfl (fun _ => ?_) (fun _ => ?_)) | (refine r_off rfl rfl rfl ?_) | (refine q_guard rfl rfl (fun _ => ?_) (fun _ => ?_)) | (refine q_guardn rfl rfl (fun _ => ?_) (fun _ => ?_)))
  repeat' (first | (refine r_pure hT rfl rfl rfl rfl ?_) | (refine r_new hT rfl rfl rfl rfl ?_) | (refine r_write hT rfl rfl rfl ?_) | (refine r_nil ?_) | (refine q_nil ?_) | (refine p_call (specFreeze v ts y1.1.1 ts.length y1.1.2 _ hy1.1.tabs hr) rfl rfl rfl rfl rfl (hC _ rfl) rfl rfl rfl ?_) | (refine r_arith rfl rfl rfl rfl rfl rfl rfl (by omega) ?_) | (with_reducible refine r_seq ?_) | (with_reducible refine x_then ?_) | (with_reducible refine r_region ?_) | (refine r_draw hM (by kernel_rfl) ?_) | (with_reducible refine r_skip ?_) | (with_reducible refine r_ret ?_) | (with_reducible refine x_then_ret ?_) | (with_reducible refine r_block ?_) | (with_reducible refine x_block ?_) | (with_reducible refine x_block_ret ?_) | (with_reducible refine r_exit ?_) | (with_reducible refine x_then_exit ?_) | (with_reducible refine x_block_here ?_) | (refine x_block_past rfl ?_) | (refine c_yes rfl (by omega) ?_) | (refine c_no rfl (by omega) ?_) | (refine c_no rfl (fun h => h rfl) ?_) | (refine r_cond_false rfl ?_) | (refine r_cond_true rfl ?_) | (refine r_cond_dec rfl (fun _ => ?_) (fun _ => ?_)) | (refine r_cond_true rfl ?_) | (refine r_cond_false rfl ?_) | (refine c_not rfl (fun _ => ?_) (fun _ => ?_)) | (refine r_off rfl rfl rfl ?_) | (refine q_guard rfl rfl (fun _ => ?_) (fun _ => ?_)) | (refine q_guardn rfl rfl (fun _ => ?_) (fun _ => ?_)))
  have lh1 : Le h u1 := hy1.2.1
  repeat' (first | (refine r_pure hT rfl rfl rfl rfl ?_) | (refine r_new hT rfl rfl rfl rfl ?_) | (refine r_write hT rfl rfl rfl ?_) | (refine r_nil ?_) | (refine q_nil ?_) | (refine r_call (toGraph v ts A n c _ (hP.le lh1) l1' l2') rfl rfl rfl rfl rfl (hC _ rfl) rfl rfl (fun y2 u2 hy2 => ?_)) | (refine r_arith rfl rfl rfl rfl rfl rfl rfl (by omega) ?_) | (with_reducible refine r_seq ?_) | (with_reducible refine x_then ?_) | (with_reducible refine r_region ?_) | (refine r_draw hM (by kernel_rfl) ?_) | (with_reducible refine r_skip ?_) | (with_reducible refine r_ret ?_) | (with_reducible refine x_then_ret ?_) | (with_reducible refine r_block ?_) | (with_reducible refine x_block ?_) | (with_reducible refine x_block_ret ?_) | (with_reducible refine r_exit ?_) | (with_reducible refine x_then_exit ?_) | (with_reducible refine x_block_here ?_) | (refine x_block_past rfl ?_) | (refine c_yes rfl (by omega) ?_) | (refine c_no rfl (by omega) ?_) | (refine c_no rfl (fun h => h rfl) ?_) | (refine r_cond_false rfl ?_) | (refine r_cond_true rfl ?_) | (refine r_cond_dec rfl (fun _ => ?_) (fun _ => ?_)) | (refine r_cond_true rfl ?_) | (refine r_cond_false rfl ?_) | (refine c_not rfl (fun _ => ?_) (fun _ => ?_)) | (refine r_off rfl rfl rfl ?_) | (refine q_guard rfl rfl (fun _ => ?_) (fun _ => ?_)) | (refine q_guardn rfl rfl (fun _ => ?_) (fun _ => ?_)))
  have lh2 : Le h u2 := lh1.trans hy2.2.1
  repeat' (first | (refine r_pure hT rfl rfl rfl rfl ?_) | (refine r_new hT rfl rfl rfl rfl ?_) | (refine r_write hT rfl rfl rfl ?_) | (refine r_nil ?_) | (refine q_nil ?_) | (refine p_call (implFreeze v ts y2.1.1 ts.length y2.1.2 _ hy2.1.tabs hr (ht10.le lh2)) rfl rfl rfl rfl rfl (hC _ rfl) rfl rfl rfl ?_) | (refine r_arith rfl rfl rfl rfl rfl rfl rfl (by omega) ?_) | (with_reducible refine r_seq ?_) | (with_reducible refine x_then ?_) | (with_reducible refine r_region ?_) | (with_reducible refine r_skip ?_) | (with_reducible refine r_ret ?_) | (with_reducible refine x_then_ret ?_) | (with_reducible refine r_block ?_) | (with_reducible refine x_block ?_) | (with_reducible refine x_block_ret ?_) | (with_reducible refine r_exit ?_) | (with_reducible refine x_then_exit ?_) | (with_reducible refine x_block_here ?_) | (refine x_block_past rfl ?_) | (refine c_yes rfl (by omega) ?_) | (refine c_no rfl (by omega) ?_) | (refine c_no rfl (fun h => h rfl) ?_) | (refine r_cond_false rfl ?_) | (refine r_cond_true rfl ?_) | (refine r_cond_dec rfl (fun _ => ?_) (fun _ => ?_)) | (refine r_cond_true rfl ?_) | (refine r_cond_false rfl ?_) | (refine c_not rfl (fun _ => ?_) (fun _ => ?_)) | (refine r_off rfl rfl rfl ?_) | (refine q_guard rfl rfl (fun _ => ?_) (fun _ => ?_)) | (refine q_guardn rfl rfl (fun _ => ?_) (fun _ => ?_)))
  repeat' (first | (refine r_pure hT rfl rfl rfl rfl ?_) | (refine r_new hT rfl rfl rfl rfl ?_) | (refine r_write hT rfl rfl rfl ?_) | (refine r_nil ?_) | (refine q_nil ?_) | (refine r_many (id := 10) [0, 1] [] u2 (Le.refl u2) hM (by kernel_rfl) rfl (by kernel_rfl) rfl rfl rfl (fun β0 => ?_)) | (refine r_call (toGraph v ts A n c _ (hP.le lh2) l1' l2') rfl rfl rfl rfl rfl (hC _ rfl) rfl rfl (fun y5 u5 hy5 => ?_)) | (refine p_call (eqGraph v ts y2.1.1 y5.1.1 _ y2.1.2 _ y5.1.2 _ (hy2.1.le hy5.2.1).tabs hy5.1.tabs hok) rfl rfl rfl rfl rfl (hC _ rfl) rfl rfl rfl ?_) | (refine m_keep hy5.2.1 ⟨rfl, rfl, trivial⟩ rfl rfl ?_) | (refine r_arith rfl rfl rfl rfl rfl rfl rfl (by omega) ?_) | (with_reducible refine r_seq ?_) | (with_reducible refine x_then ?_) | (with_reducible refine r_region ?_) | (with_reducible refine r_skip ?_) | (with_reducible refine r_ret ?_) | (with_reducible refine x_then_ret ?_) | (with_reducible refine r_block ?_) | (with_reducible refine x_block ?_) | (with_reducible refine x_block_ret ?_) | (with_reducible refine r_exit ?_) | (with_reducible refine x_then_exit ?_) | (with_reducible refine x_block_here ?_) | (refine x_block_past rfl ?_) | (refine c_yes rfl (by omega) ?_) | (refine c_no rfl (by omega) ?_) | (refine c_no rfl (fun h => h rfl) ?_) | (refine r_cond_false rfl ?_) | (refine r_cond_true rfl ?_) | (refine r_cond_dec rfl (fun _ => ?_) (fun _ => ?_)) | (refine r_cond_true rfl ?_) | (refine r_cond_false rfl ?_) | (refine c_not rfl (fun _ => ?_) (fun _ => ?_)) | (refine r_off rfl rfl rfl ?_) | (refine q_guard rfl rfl (fun _ => ?_) (fun _ => ?_)) | (refine q_guardn rfl rfl (fun _ => ?_) (fun _ => ?_)) | (refine s_nil ?_) | (with_reducible refine a_full ?_) | (refine m_step rfl rfl (List.cons_ne_nil _ _) ?_) | (refine allR_cons rfl ?_ ?_) | (exact allR_nil) | (refine m_end rfl rfl rfl ?_))
  exact r_fin hT rfl true rfl rfl rfl trivial rfl ⟨rfl, lh2.trans hy5.2.1⟩
end Go.Proofs.YtkamfnmbidnhdaaDoor
