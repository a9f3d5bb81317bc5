/- FnBound, walked: its matrix. No condition. -/
import Derived.Test.YtkamfnmbidnhdaaDoorSyDQ
set_option linter.unusedVariables false
set_option linter.unusedSimpArgs false
set_option linter.unusedSectionVars false
namespace Go.Proofs.YtkamfnmbidnhdaaDoor
open Go.Sy
set_option maxRecDepth 100000
set_option maxHeartbeats 8000000
set_option linter.unusedVariables false
set_option linter.unusedSimpArgs false
/-- A row appended to owned rows. -/
theorem otg_app {α : Type} {cc : α → List Value} {sz : Nat} {u v u5 : Hp} {eT eP : TypeId} {A A' : Option Addr} {i c c' : Nat} {hs : List Hd} {ts : List (List α)} {t : List α} {b0 : Nat} {y : Hd} (h : OTG cc sz u eT eP A i c hs ts) (hb0 : u b0 = none) (hv : ∀ x, x ≠ b0 → u x ≠ none → v x = u x) (hy : blk y.A = some b0)
    (hn : y.n = t.length) (hOy : Own v y.A y.n y.c eP sz (t.flatMap cc)) (hG : Grown v u5 A A') (hO : Own u5 A' (i + 1) c' eT 1 (hs.flatMap Hd.v ++ Hd.v y)) : OTG cc sz u5 eT eP A' (i + 1) c' (hs ++ [y]) (ts ++ [t]) := by
  have hA0 : blk A ≠ some b0 := fun e => h.own.live e hb0
  have hlv : ∀ b o, u b = some o → v b = some o := fun b o ho => by
    rw [hv b (fun e => by rw [e, hb0] at ho; cases ho) (fun e => by rw [ho] at e; cases e)]; exact ho
  have kk : ∀ b o, (∃ x ∈ hs, blk x.A = some b) → u b = some o → u5 b = some o ∧ blk A' ≠ some b := fun b o hx ho => by
    obtain ⟨x, hx, hb⟩ := hx
    obtain ⟨j, hj, e⟩ := List.getElem_of_mem hx
    have hap := (h.rows.apart j x b (by rw [List.getElem?_eq_getElem hj, e]) hb).1
    exact hG.keep b o (hlv b o ho) hap
  have hX : ORowG cc sz u eP (blk A') hs ts := ⟨h.rows.len, h.rows.rows, fun j x b hx hb => by
    have hm := List.mem_of_getElem? hx
    obtain ⟨o, ho⟩ := Option.ne_none_iff_exists'.1 (h.rows.live hm hb)
    exact ⟨(kk b o ⟨x, hm, hb⟩ ho).2, (h.rows.apart j x b hx hb).2⟩⟩
  obtain ⟨o0, ho0⟩ := Option.ne_none_iff_exists'.1 (hOy.live hy)
  have h0 := hG.keep b0 o0 ho0 hA0
  refine ⟨by simp [h.num], ?_, hX.snoc (fun b o hx ho => (kk b o hx ho).1) hn (hOy.le fun b o hb ho => ?_) (fun b hb => ?_)⟩
  · rw [List.flatMap_append]; simpa using hO
  · rw [hy] at hb
    obtain rfl := Option.some.inj hb
    rw [ho0] at ho
    rw [← Option.some.inj ho]; exact h0.1
  · rw [hy] at hb
    obtain rfl := Option.some.inj hb
    exact ⟨h0.2, hb0⟩
theorem lawBound (tE : TypeId) (vE : Value) (bs : List Int) (A : Option Addr) (n c : Nat) (h : Hp) (hP : Bys h A n bs) (hb : ∀ x ∈ bs, 0 ≤ x ∧ x ≤ 255) (hE : At h 0 0 [.iface tE vE]) (k1 : n ≤ 9223372036854775807) :
    TriS Tryd.prog 3 [.v (.slice A n c)] [] h (fun y : Bool => .v (.bool y)) (fun _ => []) (fun y h' => y = true ∧ Le h h') := by
  refine enterS Tryd.func3 rfl (n := 94) rfl rfl (fun k N => ?_)
  by_cases hbig : 1048576 < n
  · repeat' (first | (refine r_pure hT rfl rfl rfl rfl ?_) | (refine r_new hT rfl rfl rfl rfl ?_) | (refine r_write hT rfl rfl rfl ?_) | (refine r_nil ?_) | (refine q_nil ?_) | (refine r_arith rfl rfl rfl rfl rfl rfl rfl (by omega) ?_) | (with_reducible refine r_seq ?_) | (with_reducible refine x_then ?_) | (with_reducible refine r_region ?_) | (refine r_draw hM (by kernel_rfl) ?_) | (with_reducible refine r_skip ?_) | (with_reducible refine r_ret ?_) | (with_reducible refine x_then_ret ?_) | (with_reducible refine r_block ?_) | (with_reducible refine x_block ?_) | (with_reducible refine x_block_ret ?_) | (with_reducible refine r_exit ?_) | (with_reducible refine x_then_exit ?_) | (with_reducible refine x_block_here ?_) | (refine x_block_past rfl ?_) | (refine c_yes rfl (by omega) ?_) | (refine c_no rfl (by omega) ?_) | (refine c_no rfl (fun h => h rfl) ?_) | (refine r_cond_false rfl ?_) | (refine r_cond_true rfl ?_) | (refine r_cond_dec rfl (fun _ => ?_) (fun _ => ?_)) | (refine r_cond_true rfl ?_) | (refine r_cond_false rfl ?_) | (refine c_not rfl (fun _ => ?_) (fun _ => ?_)) | (refine r_off rfl rfl rfl ?_) | (refine q_guard rfl rfl (fun _ => ?_) (fun _ => ?_)) | (refine q_guardn rfl rfl (fun _ => ?_) (fun _ => ?_)))
    exact r_fin hT rfl true rfl rfl rfl trivial rfl ⟨rfl, Le.refl _⟩
  · have hwb := wByte bs A n c 0 h hP (by omega) (by omega) hb
    obtain ⟨b, hbv, hb255⟩ : ∃ b : Nat, wB bs 0 = (b : Int) ∧ b ≤ 255 := by
      have : 0 ≤ wB bs 0 ∧ wB bs 0 ≤ 255 := by
        unfold wB
        rw [List.getD_eq_getElem?_getD]
        cases hg : bs[0 % bs.length]? with
        | none => simp
        | some x => exact hb x (List.mem_of_getElem? hg)
      exact ⟨(wB bs 0).toNat, by omega, by omega⟩
    rw [hbv] at hwb
    have hr : b % 59 < 59 := Nat.mod_lt _ (by omega)
    repeat' (first | (refine r_pure hT rfl rfl rfl rfl ?_) | (refine r_new hT rfl rfl rfl rfl ?_) | (refine r_write hT rfl rfl rfl ?_) | (refine r_nil ?_) | (refine q_nil ?_) | (refine p_call hwb rfl rfl rfl rfl rfl (hC _ rfl) rfl rfl rfl ?_) | (refine r_remN (q := 59) rfl rfl rfl rfl rfl rfl (by omega) ?_) | (refine r_addN (p := 2) rfl rfl rfl rfl rfl rfl (by omega) ?_) | (refine r_arith rfl rfl rfl rfl rfl rfl rfl (by omega) ?_) | (with_reducible refine r_seq ?_) | (with_reducible refine x_then ?_) | (with_reducible refine r_region ?_) | (refine r_draw hM (by kernel_rfl) ?_) | (with_reducible refine r_skip ?_) | (with_reducible refine r_ret ?_) | (with_reducible refine x_then_ret ?_) | (with_reducible refine r_block ?_) | (with_reducible refine x_block ?_) | (with_reducible refine x_block_ret ?_) | (with_reducible refine r_exit ?_) | (with_reducible refine x_then_exit ?_) | (with_reducible refine x_block_here ?_) | (refine x_block_past rfl ?_) | (refine c_yes rfl (by omega) ?_) | (refine c_no rfl (by omega) ?_) | (refine c_no rfl (fun h => h rfl) ?_) | (refine r_cond_false rfl ?_) | (refine r_cond_true rfl ?_) | (refine r_cond_dec rfl (fun _ => ?_) (fun _ => ?_)) | (refine r_cond_true rfl ?_) | (refine r_cond_false rfl ?_) | (refine c_not rfl (fun _ => ?_) (fun _ => ?_)) | (refine r_off rfl rfl rfl ?_) | (refine q_guard rfl rfl (fun _ => ?_) (fun _ => ?_)) | (refine q_guardn rfl rfl (fun _ => ?_) (fun _ => ?_)))
    generalize hM0 : 2 + b % 59 = m
    have hm2 : 2 ≤ m ∧ m ≤ 60 := by omega
    have htk : ∀ i, i < m → ((bM m).take i).length = i := fun i hi => by rw [List.length_take, bM_len]; omega
    refine r_loop (γ := (Nat × Hp) × ((Option Addr × Nat) × List Hd)) (fun g => g.1.1 ≤ m ∧ Le h g.1.2 ∧ OTG Ic 1 g.1.2 25 3 g.2.1.1 g.1.1 g.2.1.2 g.2.2 ((bM m).take g.1.1) ∧ OffAll h g.2.1.1 g.2.2)
      (fun g => [(2, .v (.bool false)), (3, .v (.int .i64 m)), (4, .v (.slice g.2.1.1 g.1.1 g.2.1.2)), (5, .v (.int .i64 g.1.1))]) (fun _ => []) (fun g => g.1.2) (fun g => m - g.1.1)
      ((0, h), ((none, 0), [])) ⟨Nat.zero_le _, Le.refl _, ⟨rfl, own_nil, ORowG.nil⟩, off_nil, fun x hx => (by cases hx)⟩ (into rfl ⟨rfl, rfl, rfl, rfl, trivial⟩ trivial rfl rfl) ?_
    rintro ⟨⟨i, u⟩, ⟨⟨Ao, co⟩, hs⟩⟩ ⟨hi, hle, hO, hoff⟩
    dsimp only at *
    by_cases hlt : i < m
    · repeat' (first | (refine r_pure hT rfl rfl rfl rfl ?_) | (refine r_new hT rfl rfl rfl rfl ?_) | (refine r_write hT rfl rfl rfl ?_) | (refine r_nil ?_) | (refine q_nil ?_) | (refine r_makeN hT rfl rfl rfl rfl rfl rfl rfl (by simp) rfl rfl (by dsimp only; omega) (by omega) (fun b0 hb0 => ?_)) | (refine r_arith rfl rfl rfl rfl rfl rfl rfl (by omega) ?_) | (with_reducible refine r_seq ?_) | (with_reducible refine x_then ?_) | (with_reducible refine r_region ?_) | (refine r_draw hM (by kernel_rfl) ?_) | (with_reducible refine r_skip ?_) | (with_reducible refine r_ret ?_) | (with_reducible refine x_then_ret ?_) | (with_reducible refine r_block ?_) | (with_reducible refine x_block ?_) | (with_reducible refine x_block_ret ?_) | (with_reducible refine r_exit ?_) | (with_reducible refine x_then_exit ?_) | (with_reducible refine x_block_here ?_) | (refine x_block_past rfl ?_) | (refine c_yes rfl (by omega) ?_) | (refine c_no rfl (by omega) ?_) | (refine c_no rfl (fun h => h rfl) ?_) | (refine r_cond_false rfl ?_) | (refine r_cond_true rfl ?_) | (refine r_cond_dec rfl (fun _ => ?_) (fun _ => ?_)) | (refine r_cond_true rfl ?_) | (refine r_cond_false rfl ?_) | (refine c_not rfl (fun _ => ?_) (fun _ => ?_)) | (refine r_off rfl rfl rfl ?_) | (refine q_guard rfl rfl (fun _ => ?_) (fun _ => ?_)) | (refine q_guardn rfl rfl (fun _ => ?_) (fun _ => ?_)))
      refine r_loop (γ := Nat × Hp) (fun g => g.1 ≤ m ∧ Own g.2 (some ⟨b0, 0, none⟩) m m 3 1 (((bRow m i).take g.1).flatMap Ic ++ reps (m - g.1) [Value.int .i64 0]) ∧ ∀ x, x ≠ b0 → g.2 x = u x)
        (fun g => [(2, .v (.bool false)), (3, .v (.int .i64 m)), (4, .v (.slice Ao i co)), (5, .v (.int .i64 i)), (6, .v (.slice (some ⟨b0, 0, none⟩) m m)), (25, .v (.slice (some ⟨b0, 0, none⟩) m m)), (26, .v (.int .i64 m)), (27, .v (.int .i64 g.1))]) (fun _ => []) (fun g => g.2) (fun g => m - g.1)
        (0, upd u b0 (.cells (reps m [Value.int .i64 0]).toArray 3 (0, 0))) ⟨Nat.zero_le _, by simp only [List.take_zero, List.flatMap_nil, List.nil_append, Nat.sub_zero]; exact own_made rfl, fun x hx => upd_ne hx⟩
        (into rfl ⟨rfl, rfl, rfl, rfl, rfl, rfl, rfl, rfl, trivial⟩ trivial rfl rfl) ?_
      rintro ⟨j, v⟩ ⟨hj, hOr, hvu⟩
      dsimp only at *
      by_cases hjm : j < m
      · by_cases hij : i < j
        · have hg : (bRow m i)[j]? = some 1 := by rw [bRow_get hjm, if_pos hij]
          repeat' (first | (refine r_pure hT rfl rfl rfl rfl ?_) | (refine r_new hT rfl rfl rfl rfl ?_) | (refine r_write hT rfl rfl rfl ?_) | (refine r_nil ?_) | (refine q_nil ?_) | (refine r_indexN hT rfl rfl rfl rfl rfl rfl rfl rfl rfl (by omega) ?_) | (refine r_store_own (o := j * 1) hT hOr rfl rfl rfl rfl rfl rfl rfl rfl rfl rfl rfl (by rw [hOr.len]; show j * 1 + 1 ≤ m * 1; omega) (fun u' hO' hu' => ?_)) | (refine r_arith rfl rfl rfl rfl rfl rfl rfl (by omega) ?_) | (with_reducible refine r_seq ?_) | (with_reducible refine x_then ?_) | (with_reducible refine r_region ?_) | (refine r_draw hM (by kernel_rfl) ?_) | (with_reducible refine r_skip ?_) | (with_reducible refine r_ret ?_) | (with_reducible refine x_then_ret ?_) | (with_reducible refine r_block ?_) | (with_reducible refine x_block ?_) | (with_reducible refine x_block_ret ?_) | (with_reducible refine r_exit ?_) | (with_reducible refine x_then_exit ?_) | (with_reducible refine x_block_here ?_) | (refine x_block_past rfl ?_) | (refine c_yes rfl (by omega) ?_) | (refine c_no rfl (by omega) ?_) | (refine c_no rfl (fun h => h rfl) ?_) | (refine r_cond_false rfl ?_) | (refine r_cond_true rfl ?_) | (refine r_cond_dec rfl (fun _ => ?_) (fun _ => ?_)) | (refine r_cond_true rfl ?_) | (refine r_cond_false rfl ?_) | (refine c_not rfl (fun _ => ?_) (fun _ => ?_)) | (refine r_off rfl rfl rfl ?_) | (refine q_guard rfl rfl (fun _ => ?_) (fun _ => ?_)) | (refine q_guardn rfl rfl (fun _ => ?_) (fun _ => ?_)))
          rw [show [Value.int .i64 1] = Ic 1 from rfl, set_next Ic_len rfl hg (bRow_len _ _).symm] at hO'
          exact x_round (j + 1, u') ⟨hjm, hO', fun x hx => (hu' x hx).trans (hvu x hx)⟩ (by dsimp only; omega) (into rfl ⟨rfl, rfl, rfl, rfl, rfl, rfl, rfl, rfl, trivial⟩ trivial rfl rfl)
        · have hg : (bRow m i)[j]? = some 0 := by rw [bRow_get hjm, if_neg hij]
          have hOn : Own v (some ⟨b0, 0, none⟩) m m 3 1 (((bRow m i).take (j + 1)).flatMap Ic ++ reps (m - (j + 1)) [Value.int .i64 0]) := by
            rw [take_snoc hg, List.flatMap_append, List.append_assoc]
            have e : m - j = (m - (j + 1)) + 1 := by omega
            rw [e] at hOr
            exact hOr
          repeat' (first | (refine r_pure hT rfl rfl rfl rfl ?_) | (refine r_new hT rfl rfl rfl rfl ?_) | (refine r_write hT rfl rfl rfl ?_) | (refine r_nil ?_) | (refine q_nil ?_) | (refine r_arith rfl rfl rfl rfl rfl rfl rfl (by omega) ?_) | (with_reducible refine r_seq ?_) | (with_reducible refine x_then ?_) | (with_reducible refine r_region ?_) | (refine r_draw hM (by kernel_rfl) ?_) | (with_reducible refine r_skip ?_) | (with_reducible refine r_ret ?_) | (with_reducible refine x_then_ret ?_) | (with_reducible refine r_block ?_) | (with_reducible refine x_block ?_) | (with_reducible refine x_block_ret ?_) | (with_reducible refine r_exit ?_) | (with_reducible refine x_then_exit ?_) | (with_reducible refine x_block_here ?_) | (refine x_block_past rfl ?_) | (refine c_yes rfl (by omega) ?_) | (refine c_no rfl (by omega) ?_) | (refine c_no rfl (fun h => h rfl) ?_) | (refine r_cond_false rfl ?_) | (refine r_cond_true rfl ?_) | (refine r_cond_dec rfl (fun _ => ?_) (fun _ => ?_)) | (refine r_cond_true rfl ?_) | (refine r_cond_false rfl ?_) | (refine c_not rfl (fun _ => ?_) (fun _ => ?_)) | (refine r_off rfl rfl rfl ?_) | (refine q_guard rfl rfl (fun _ => ?_) (fun _ => ?_)) | (refine q_guardn rfl rfl (fun _ => ?_) (fun _ => ?_)))
          exact x_round (j + 1, v) ⟨hjm, hOn, hvu⟩ (by dsimp only; omega) (into rfl ⟨rfl, rfl, rfl, rfl, rfl, rfl, rfl, rfl, trivial⟩ trivial rfl rfl)
      · obtain rfl : j = m := by omega
        rw [List.take_of_length_le (by rw [bRow_len]; exact Nat.le_refl _), Nat.sub_self] at hOr
        simp only [reps, List.append_nil] at hOr
        have hOv : Own v Ao i co 25 1 (hs.flatMap Hd.v) := hO.own.le fun x o hx ho => by rw [hvu x (fun e => by rw [e, hb0] at ho; cases ho)]; exact ho
        have hlv : Le h v := fun x o hx => by rw [hvu x (fun e => by have := hle x o hx; rw [e, hb0] at this; cases this)]; exact hle x o hx
        repeat' (first | (refine r_pure hT rfl rfl rfl rfl ?_) | (refine r_new hT rfl rfl rfl rfl ?_) | (refine r_write hT rfl rfl rfl ?_) | (refine r_nil ?_) | (refine q_nil ?_) | (refine r_bslice hT (ps := [(0, .tmp 38)]) rfl rfl rfl rfl rfl rfl rfl (by simp) rfl rfl (by decide) (fun b2 hb2 => ?_)) | (refine r_append hT (cs := hs.flatMap Hd.v) (news := Hd.v ⟨some ⟨b0, 0, none⟩, j, j⟩) rfl rfl rfl rfl rfl rfl rfl rfl rfl rfl rfl (hOv.le fun b o hb ho => by rw [upd_ne (fun e => by subst e; rw [hb2] at ho; cases ho)]; exact ho) (sl_all (upd_here ..) rfl) (by intro v hv; simp [Hd.v] at hv; subst hv; rfl) (by dsimp only; omega) (by omega) (fun A' c' u5 hO5 hG5 => ?_)) | (refine r_arith rfl rfl rfl rfl rfl rfl rfl (by omega) ?_) | (with_reducible refine r_seq ?_) | (with_reducible refine x_then ?_) | (with_reducible refine r_region ?_) | (refine r_draw hM (by kernel_rfl) ?_) | (with_reducible refine r_skip ?_) | (with_reducible refine r_ret ?_) | (with_reducible refine x_then_ret ?_) | (with_reducible refine r_block ?_) | (with_reducible refine x_block ?_) | (with_reducible refine x_block_ret ?_) | (with_reducible refine r_exit ?_) | (with_reducible refine x_then_exit ?_) | (with_reducible refine x_block_here ?_) | (refine x_block_past rfl ?_) | (refine c_yes rfl (by omega) ?_) | (refine c_no rfl (by omega) ?_) | (refine c_no rfl (fun h => h rfl) ?_) | (refine r_cond_false rfl ?_) | (refine r_cond_true rfl ?_) | (refine r_cond_dec rfl (fun _ => ?_) (fun _ => ?_)) | (refine r_cond_true rfl ?_) | (refine r_cond_false rfl ?_) | (refine c_not rfl (fun _ => ?_) (fun _ => ?_)) | (refine r_off rfl rfl rfl ?_) | (refine q_guard rfl rfl (fun _ => ?_) (fun _ => ?_)) | (refine q_guardn rfl rfl (fun _ => ?_) (fun _ => ?_)))
        have hlv2 := le_fresh (o := .cells (Hd.v ⟨some ⟨b0, 0, none⟩, j, j⟩).toArray 25 (0, 0)) hlv hb2
        obtain ⟨g1, g2⟩ := hG5 h hlv2 hoff.1
        have hOT := otg_app hO hb0 (fun x hx hu => by rw [upd_ne (fun e => by subst e; rw [← hvu _ hx, hb2] at hu; exact hu rfl), hvu x hx]) (y := ⟨some ⟨b0, 0, none⟩, j, j⟩) (t := bRow j i) rfl (bRow_len _ _).symm (hOr.le fun x o hx ho => by rw [upd_ne (fun e => by subst e; rw [hb2] at ho; cases ho)]; exact ho) hG5 hO5
        exact x_round ((i + 1, u5), ((A', c'), hs ++ [⟨some ⟨b0, 0, none⟩, j, j⟩])) ⟨hlt, g1, by rw [take_snoc (bM_get hlt)]; exact hOT, g2, fun x hx b hb => by
          rcases List.mem_append.1 hx with hx | hx
          · exact hoff.2 x hx b hb
          · rw [List.mem_singleton] at hx; subst hx
            have e := Option.some.inj hb; subst e; exact none_le hle hb0⟩ (by dsimp only; omega) (into rfl ⟨rfl, rfl, rfl, rfl, trivial⟩ trivial rfl rfl)
    · obtain rfl : i = m := by omega
      rw [List.take_of_length_le (by rw [bM_len]; exact Nat.le_refl _)] at hO
      obtain ⟨s1, s2, s3, s4⟩ := bM_sort (n := i) (by omega)
      have s5 := sAsk_le (bM i)
      have hsort := implSort tE vE (bM i) Ao i co u hO.tabs (hE.le hle)
      rw [s1, s2] at hsort
      rw [upTo_len] at hsort
      generalize sAsk (bM i) = Qs at *
      repeat' (first | (refine r_pure hT rfl rfl rfl rfl ?_) | (refine r_new hT rfl rfl rfl rfl ?_) | (refine r_write hT rfl rfl rfl ?_) | (refine r_nil ?_) | (refine q_nil ?_) | (refine r_call hsort rfl rfl rfl rfl rfl (hC _ rfl) rfl rfl (fun y u6 hy => ?_)) | (refine q_guard rfl rfl (fun hx => absurd rfl hx) (fun _ => ?_)) | (refine q_gno rfl rfl (by omega) ?_) | (refine p_call (most14 i (by omega) _) rfl rfl rfl rfl rfl (hC _ rfl) rfl rfl rfl ?_) | (refine p_call (most15 i (by omega) _) rfl rfl rfl rfl rfl (hC _ rfl) rfl rfl rfl ?_) | (refine r_arith rfl rfl rfl rfl rfl rfl rfl (by omega) ?_) | (with_reducible refine r_seq ?_) | (with_reducible refine x_then ?_) | (with_reducible refine r_region ?_) | (refine r_draw hM (by kernel_rfl) ?_) | (with_reducible refine r_skip ?_) | (with_reducible refine r_ret ?_) | (with_reducible refine x_then_ret ?_) | (with_reducible refine r_block ?_) | (with_reducible refine x_block ?_) | (with_reducible refine x_block_ret ?_) | (with_reducible refine r_exit ?_) | (with_reducible refine x_then_exit ?_) | (with_reducible refine x_block_here ?_) | (refine x_block_past rfl ?_) | (refine c_yes rfl (by omega) ?_) | (refine c_no rfl (by omega) ?_) | (refine c_no rfl (fun h => h rfl) ?_) | (refine r_cond_false rfl ?_) | (refine r_cond_true rfl ?_) | (refine r_cond_dec rfl (fun _ => ?_) (fun _ => ?_)) | (refine r_cond_true rfl ?_) | (refine r_cond_false rfl ?_) | (refine c_not rfl (fun _ => ?_) (fun _ => ?_)) | (refine r_off rfl rfl rfl ?_) | (refine q_guard rfl rfl (fun _ => ?_) (fun _ => ?_)) | (refine q_guardn rfl rfl (fun _ => ?_) (fun _ => ?_)))
      have hI : Ints u6 y.1.1 i (upTo i) := ⟨(upTo_len _).symm, hy.1.sl⟩
      have hl6 : Le h u6 := hle.trans hy.2.2.1
      refine r_loop (γ := Nat) (fun j => j ≤ i) (fun j => [(2, .v (.bool false)), (77, .v (.slice y.1.1 i y.1.2)), (78, .v (.int .i64 i)), (79, .v (.int .i64 j))]) (fun _ => []) (fun _ => u6) (fun j => i - j) 0 (Nat.zero_le _) (into rfl ⟨rfl, rfl, rfl, rfl, trivial⟩ trivial rfl rfl) ?_
      rintro j hj
      by_cases hji : j < i
      · obtain ⟨bx, ox, x, hA, hd, hix, hm, hat⟩ := hI.elem Ic_len (i := j) (by rw [upTo_len]; exact hji)
        obtain rfl : x = (j : Int) := by rw [upTo_get hji] at hix; exact (Option.some.inj hix).symm
        generalize y.1.1 = Ay at *
        subst hA
        repeat' (first | (refine r_pure hT rfl rfl rfl rfl ?_) | (refine r_new hT rfl rfl rfl rfl ?_) | (refine r_write hT rfl rfl rfl ?_) | (refine r_nil ?_) | (refine q_nil ?_) | (refine r_indexN hT rfl rfl rfl rfl rfl rfl rfl rfl rfl (by omega) ?_) | (refine r_load hT hat rfl rfl rfl rfl rfl (Nat.add_zero _).symm rfl rfl rfl rfl rfl ?_) | (refine r_arith rfl rfl rfl rfl rfl rfl rfl (by omega) ?_) | (with_reducible refine r_seq ?_) | (with_reducible refine x_then ?_) | (with_reducible refine r_region ?_) | (refine r_draw hM (by kernel_rfl) ?_) | (with_reducible refine r_skip ?_) | (with_reducible refine r_ret ?_) | (with_reducible refine x_then_ret ?_) | (with_reducible refine r_block ?_) | (with_reducible refine x_block ?_) | (with_reducible refine x_block_ret ?_) | (with_reducible refine r_exit ?_) | (with_reducible refine x_then_exit ?_) | (with_reducible refine x_block_here ?_) | (refine x_block_past rfl ?_) | (refine c_yes rfl (by omega) ?_) | (refine c_no rfl (by omega) ?_) | (refine c_no rfl (fun h => h rfl) ?_) | (refine r_cond_false rfl ?_) | (refine r_cond_true rfl ?_) | (refine r_cond_dec rfl (fun _ => ?_) (fun _ => ?_)) | (refine r_cond_true rfl ?_) | (refine r_cond_false rfl ?_) | (refine c_not rfl (fun _ => ?_) (fun _ => ?_)) | (refine r_off rfl rfl rfl ?_) | (refine q_guard rfl rfl (fun _ => ?_) (fun _ => ?_)) | (refine q_guardn rfl rfl (fun _ => ?_) (fun _ => ?_)))
        exact x_round (j + 1) hji (by omega) (into rfl ⟨rfl, rfl, rfl, rfl, trivial⟩ trivial rfl rfl)
      · repeat' (first | (refine r_pure hT rfl rfl rfl rfl ?_) | (refine r_new hT rfl rfl rfl rfl ?_) | (refine r_write hT rfl rfl rfl ?_) | (refine r_nil ?_) | (refine q_nil ?_) | (refine p_call (mostBad (-1) (by omega) _) rfl rfl rfl rfl rfl (hC _ rfl) rfl rfl rfl ?_) | (refine p_call (mostBad 201 (by omega) _) rfl rfl rfl rfl rfl (hC _ rfl) rfl rfl rfl ?_) | (refine q_guard rfl rfl (fun _ => ?_) (fun hx => absurd rfl hx)) | (refine r_arith rfl rfl rfl rfl rfl rfl rfl (by omega) ?_) | (with_reducible refine r_seq ?_) | (with_reducible refine x_then ?_) | (with_reducible refine r_region ?_) | (refine r_draw hM (by kernel_rfl) ?_) | (with_reducible refine r_skip ?_) | (with_reducible refine r_ret ?_) | (with_reducible refine x_then_ret ?_) | (with_reducible refine r_block ?_) | (with_reducible refine x_block ?_) | (with_reducible refine x_block_ret ?_) | (with_reducible refine r_exit ?_) | (with_reducible refine x_then_exit ?_) | (with_reducible refine x_block_here ?_) | (refine x_block_past rfl ?_) | (refine c_yes rfl (by omega) ?_) | (refine c_no rfl (by omega) ?_) | (refine c_no rfl (fun h => h rfl) ?_) | (refine r_cond_false rfl ?_) | (refine r_cond_true rfl ?_) | (refine r_cond_dec rfl (fun _ => ?_) (fun _ => ?_)) | (refine r_cond_true rfl ?_) | (refine r_cond_false rfl ?_) | (refine c_not rfl (fun _ => ?_) (fun _ => ?_)) | (refine r_off rfl rfl rfl ?_) | (refine q_guard rfl rfl (fun _ => ?_) (fun _ => ?_)) | (refine q_guardn rfl rfl (fun _ => ?_) (fun _ => ?_)))
        exact r_fin hT rfl true rfl rfl rfl trivial rfl ⟨rfl, hl6⟩
end Go.Proofs.YtkamfnmbidnhdaaDoor
