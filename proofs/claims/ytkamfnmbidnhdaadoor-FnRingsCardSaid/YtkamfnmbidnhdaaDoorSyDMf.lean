/- The drawer's graphs; spec.Drawn. No condition. -/
import Derived.Test.YtkamfnmbidnhdaaDoorSqAQ
import Derived.Test.YtkamfnmbidnhdaaDoorSqAL
set_option linter.unusedVariables false
set_option linter.unusedSimpArgs false
set_option linter.unusedSectionVars false
namespace Go.Proofs.YtkamfnmbidnhdaaDoor
open Go.Sy
set_option maxRecDepth 100000
set_option maxHeartbeats 8000000
set_option linter.unusedVariables false
set_option linter.unusedSimpArgs false
theorem isK_snoc {t : List Pr} {j : Nat} {p : Pr} {k : V} (h : t[j]? = some p) : isK (t.take (j + 1)) k = (isK (t.take j) k || decide (p.key = k)) := by
  rw [take_snoc h]
  unfold isK
  rw [List.any_append]
  simp only [List.any_cons, List.any_nil, Bool.or_false]
  congr 1
  rw [decide_eq_decide]
  constructor
  · rintro ⟨h1, h2, h3, h4⟩
    cases hk : p.key; cases k
    rw [hk] at h1 h2 h3 h4
    simp only at h1 h2 h3 h4
    rw [h1, h2, h3, h4]
  · intro e; rw [e]; exact ⟨rfl, rfl, rfl, rfl⟩
theorem graphF (h : Hp) (pb : Nat) (A : Option Addr) (n c : Nat) (s : DS) (bs : List Int) (hX : Cx h pb A n bs) (hi : s.1 ≤ 1000000) :
    TriS Tryd.prog 89 [.v (pt0 pb)] [] (Wc h pb A n c s) (fun y : Option Addr × Nat => .ag (gsv (grD bs s).1.1 y.1 (grD bs s).1.2.length y.2)) (fun _ => [])
      (fun y u' => ∃ h', u' = Wc h' pb A n c (grD bs s).2 ∧ h' pb = none ∧ Le h h' ∧ Tabs h' y.1 (grD bs s).1.2.length (grD bs s).1.2) := by
  have a1 := pk_at bs 9 s
  have c1 := pickF h pb A n c s bs 9 hX (by omega) (by omega)
  have c2 := pickF h pb A n c (pk bs 9 s).2 bs 25 hX (by omega) (by omega)
  have hn2 := nD_le bs s
  have hna := nD_at bs s
  have hnd : nD bs s = (if (pk bs 25 (pk bs 9 s).2).1 = 0 then 200 else (pk bs 9 s).1, (pk bs 25 (pk bs 9 s).2).2) := rfl
  have hG := grD_ok bs s
  unfold grD at hG ⊢
  refine enterS Tryd.func89 rfl (n := 88) rfl rfl (fun k N => ?_)
  repeat' (first | (refine r_pure hT rfl rfl rfl rfl ?_) | (refine r_new hT rfl rfl rfl rfl ?_) | (refine r_write hT rfl rfl rfl ?_) | (refine r_nil ?_) | (refine q_nil ?_) | ((refine r_call c1 rfl rfl rfl rfl rfl (hC _ rfl) rfl rfl (fun y0 u1 hy => ?_) ; subst hy)) | ((refine r_call c2 rfl rfl rfl rfl rfl (hC _ rfl) rfl rfl (fun y0 u1 hy => ?_) ; subst hy)) | (refine r_arith rfl rfl rfl rfl rfl rfl rfl (by omega) ?_) | (with_reducible refine r_seq ?_) | (with_reducible refine x_then ?_) | (with_reducible refine r_region ?_) | (refine r_draw hM (by kernel_rfl) ?_) | (with_reducible refine r_skip ?_) | (with_reducible refine r_ret ?_) | (with_reducible refine x_then_ret ?_) | (with_reducible refine r_block ?_) | (with_reducible refine x_block ?_) | (with_reducible refine x_block_ret ?_) | (with_reducible refine r_exit ?_) | (with_reducible refine x_then_exit ?_) | (with_reducible refine x_block_here ?_) | (refine x_block_past rfl ?_) | (refine c_yes rfl (by omega) ?_) | (refine c_no rfl (by omega) ?_) | (refine c_no rfl (fun h => h rfl) ?_) | (refine r_cond_false rfl ?_) | (refine r_cond_true rfl ?_) | (refine r_cond_true rfl ?_) | (refine r_cond_false rfl ?_) | (refine r_off rfl rfl rfl ?_) | (refine q_guard rfl rfl (fun _ => ?_) (fun _ => ?_)) | (refine q_guardn rfl rfl (fun _ => ?_) (fun _ => ?_)))
  have hs2 : (pk bs 25 (pk bs 9 s).2).2 = (nD bs s).2 := rfl
  rw [hs2]
  refine r_cutD (c := .tmp 17) (γ := Unit) (p := (((pk bs 25 (pk bs 9 s).2).1 : Nat) : Int) = 0) rfl (fun _ => True) (fun _ => [(0, .v (pt0 pb)), (2, .p 2 0), (3, .v (.int .i64 ((nD bs s).1 : Int)))]) (fun _ => [(2, ⟨none, [.v (.int .i64 0), .v (.int .i64 0), .v (.string ⟨⟨[]⟩⟩), .v (.int .i64 0), .v (.slice none 0 0)], 51⟩)]) (fun _ => Wc h pb A n c (nD bs s).2) (fun h0 => ?_) (fun h0 => ?_) (fun _ _ => ?_)
  · have e : (nD bs s).1 = 200 := by rw [hnd]; exact if_pos (by omega)
    repeat' (first | (refine r_pure hT rfl rfl rfl rfl ?_) | (refine r_new hT rfl rfl rfl rfl ?_) | (refine r_write hT rfl rfl rfl ?_) | (refine r_nil ?_) | (refine q_nil ?_) | (refine r_arith rfl rfl rfl rfl rfl rfl rfl (by omega) ?_) | (with_reducible refine r_seq ?_) | (with_reducible refine x_then ?_) | (with_reducible refine r_region ?_) | (refine r_draw hM (by kernel_rfl) ?_) | (with_reducible refine r_skip ?_) | (with_reducible refine r_ret ?_) | (with_reducible refine x_then_ret ?_) | (with_reducible refine r_block ?_) | (with_reducible refine x_block ?_) | (with_reducible refine x_block_ret ?_) | (with_reducible refine r_exit ?_) | (with_reducible refine x_then_exit ?_) | (with_reducible refine x_block_here ?_) | (refine x_block_past rfl ?_) | (refine c_yes rfl (by omega) ?_) | (refine c_no rfl (by omega) ?_) | (refine c_no rfl (fun h => h rfl) ?_) | (refine r_cond_false rfl ?_) | (refine r_cond_true rfl ?_) | (refine r_cond_dec rfl (fun _ => ?_) (fun _ => ?_)) | (refine r_cond_true rfl ?_) | (refine r_cond_false rfl ?_) | (refine c_not rfl (fun _ => ?_) (fun _ => ?_)) | (refine r_off rfl rfl rfl ?_) | (refine q_guard rfl rfl (fun _ => ?_) (fun _ => ?_)) | (refine q_guardn rfl rfl (fun _ => ?_) (fun _ => ?_)))
    exact x_cut () trivial (into rfl ⟨rfl, rfl, congrArg (fun z : Nat => some (SV.v (.int .i64 (z : Int)))) e.symm, trivial⟩ ⟨rfl, trivial⟩ rfl rfl)
  · have e : (nD bs s).1 = (pk bs 9 s).1 := by rw [hnd]; exact if_neg (by omega)
    repeat' (first | (refine r_pure hT rfl rfl rfl rfl ?_) | (refine r_new hT rfl rfl rfl rfl ?_) | (refine r_write hT rfl rfl rfl ?_) | (refine r_nil ?_) | (refine q_nil ?_) | (refine r_arith rfl rfl rfl rfl rfl rfl rfl (by omega) ?_) | (with_reducible refine r_seq ?_) | (with_reducible refine x_then ?_) | (with_reducible refine r_region ?_) | (refine r_draw hM (by kernel_rfl) ?_) | (with_reducible refine r_skip ?_) | (with_reducible refine r_ret ?_) | (with_reducible refine x_then_ret ?_) | (with_reducible refine r_block ?_) | (with_reducible refine x_block ?_) | (with_reducible refine x_block_ret ?_) | (with_reducible refine r_exit ?_) | (with_reducible refine x_then_exit ?_) | (with_reducible refine x_block_here ?_) | (refine x_block_past rfl ?_) | (refine c_yes rfl (by omega) ?_) | (refine c_no rfl (by omega) ?_) | (refine c_no rfl (fun h => h rfl) ?_) | (refine r_cond_false rfl ?_) | (refine r_cond_true rfl ?_) | (refine r_cond_dec rfl (fun _ => ?_) (fun _ => ?_)) | (refine r_cond_true rfl ?_) | (refine r_cond_false rfl ?_) | (refine c_not rfl (fun _ => ?_) (fun _ => ?_)) | (refine r_off rfl rfl rfl ?_) | (refine q_guard rfl rfl (fun _ => ?_) (fun _ => ?_)) | (refine q_guardn rfl rfl (fun _ => ?_) (fun _ => ?_)))
    exact x_cut () trivial (into rfl ⟨rfl, rfl, congrArg (fun z : Nat => some (SV.v (.int .i64 (z : Int)))) e.symm, trivial⟩ ⟨rfl, trivial⟩ rfl rfl)
  clear hnd hs2
  generalize hnn : nD bs s = nn at *
  obtain ⟨m0, s0⟩ := nn
  dsimp only at *
  repeat' (first | (refine r_pure hT rfl rfl rfl rfl ?_) | (refine r_new hT rfl rfl rfl rfl ?_) | (refine r_write hT rfl rfl rfl ?_) | (refine r_nil ?_) | (refine q_nil ?_) | (refine r_arith rfl rfl rfl rfl rfl rfl rfl (by omega) ?_) | (with_reducible refine r_seq ?_) | (with_reducible refine x_then ?_) | (with_reducible refine r_region ?_) | (refine r_draw hM (by kernel_rfl) ?_) | (with_reducible refine r_skip ?_) | (with_reducible refine r_ret ?_) | (with_reducible refine x_then_ret ?_) | (with_reducible refine r_block ?_) | (with_reducible refine x_block ?_) | (with_reducible refine x_block_ret ?_) | (with_reducible refine r_exit ?_) | (with_reducible refine x_then_exit ?_) | (with_reducible refine x_block_here ?_) | (refine x_block_past rfl ?_) | (refine c_yes rfl (by omega) ?_) | (refine c_no rfl (by omega) ?_) | (refine c_no rfl (fun h => h rfl) ?_) | (refine r_cond_false rfl ?_) | (refine r_cond_true rfl ?_) | (refine r_cond_true rfl ?_) | (refine r_cond_false rfl ?_) | (refine r_off rfl rfl rfl ?_) | (refine q_guard rfl rfl (fun _ => ?_) (fun _ => ?_)) | (refine q_guardn rfl rfl (fun _ => ?_) (fun _ => ?_)))
  refine r_loop (γ := (Nat × Hp) × ((Option Addr × Nat) × (List Hd × Hp))) (fun g => g.1.1 ≤ m0 ∧ g.1.2 pb = none ∧ Gr h g.1.2 g.2.2.2 g.2.1.1 g.2.1.2 g.2.2.1 (tsD bs m0 g.1.1 s0).1)
    (fun g => [(0, .v (pt0 pb)), (2, .p 2 0), (4, .p 4 0), (3, .v (.int .i64 (m0 : Int))), (5, .v (.int .i64 (g.1.1 : Int)))])
    (fun g => [(4, ⟨none, [.v (.int .i64 0), .v (.int .i64 0), .v (.string ⟨⟨[]⟩⟩), .v (.int .i64 0), .v (.slice g.2.1.1 g.1.1 g.2.1.2)], 51⟩), (2, ⟨none, [.v (.int .i64 0), .v (.int .i64 0), .v (.string ⟨⟨[]⟩⟩), .v (.int .i64 0), .v (.slice none 0 0)], 51⟩)])
    (fun g => Wc g.1.2 pb A n c (tsD bs m0 g.1.1 s0).2) (fun g => m0 - g.1.1)
    ((0, h), ((none, 0), ([], h))) ⟨Nat.zero_le _, hX.hp, Gr.start h⟩ (into rfl ⟨rfl, rfl, rfl, rfl, rfl, trivial⟩ ⟨rfl, rfl, trivial⟩ rfl rfl) ?_
  rintro ⟨⟨i, v1⟩, ⟨⟨A2, c2'⟩, ⟨hs2, q2⟩⟩⟩ ⟨hi2, hp1, hG2⟩
  dsimp only at *
  have hts := tsD_ok bs m0 s0 i
  have hX1 := hX.le (hG2.hq.trans hG2.qu) hp1
  by_cases hlt : i < m0
  · have etb : tsD bs m0 (i + 1) s0 = ((tsD bs m0 i s0).1 ++ [(tbD bs m0 (tsD bs m0 i s0).2).1], (tbD bs m0 (tsD bs m0 i s0).2).2) := rfl
    have htb := tbD_ok bs m0 (tsD bs m0 i s0).2
    have ems : mD bs (tsD bs m0 i s0).2 = (if (pk bs 60 (pk bs 4 (tsD bs m0 i s0).2).2).1 = 0 then 100 else (pk bs 4 (tsD bs m0 i s0).2).1, (pk bs 60 (pk bs 4 (tsD bs m0 i s0).2).2).2) := rfl
    have etd : tbD bs m0 (tsD bs m0 i s0).2 = paD bs m0 (mD bs (tsD bs m0 i s0).2).1 (mD bs (tsD bs m0 i s0).2).1 (mD bs (tsD bs m0 i s0).2).2 := rfl
    have hm1 := mD_le bs (tsD bs m0 i s0).2
    have hm2 := mD_at bs (tsD bs m0 i s0).2
    have hbnd : (tsD bs m0 i s0).2.1 ≤ 3000000 := by
      have : 6000 * i ≤ 6000 * 200 := Nat.mul_le_mul_left _ (by omega)
      omega
    obtain ⟨hl1, _, _, _⟩ := hts
    generalize tsD bs m0 i s0 = ts1 at *
    obtain ⟨T1, s1⟩ := ts1
    dsimp only at *
    have a3 := pk_at bs 4 s1
    have d1 := pickF v1 pb A n c s1 bs 4 hX1 (by omega) (by omega)
    have d2 := pickF v1 pb A n c (pk bs 4 s1).2 bs 60 hX1 (by omega) (by omega)
    repeat' (first | (refine r_pure hT rfl rfl rfl rfl ?_) | (refine r_new hT rfl rfl rfl rfl ?_) | (refine r_write hT rfl rfl rfl ?_) | (refine r_nil ?_) | (refine q_nil ?_) | (refine c_yes rfl (by omega) ?_) | ((refine r_call d1 rfl rfl rfl rfl rfl (hC _ rfl) rfl rfl (fun y0 u1 hy => ?_) ; subst hy)) | ((refine r_call d2 rfl rfl rfl rfl rfl (hC _ rfl) rfl rfl (fun y0 u1 hy => ?_) ; subst hy)) | (refine r_arith rfl rfl rfl rfl rfl rfl rfl (by omega) ?_) | (with_reducible refine r_seq ?_) | (with_reducible refine x_then ?_) | (with_reducible refine r_region ?_) | (refine r_draw hM (by kernel_rfl) ?_) | (with_reducible refine r_skip ?_) | (with_reducible refine r_ret ?_) | (with_reducible refine x_then_ret ?_) | (with_reducible refine r_block ?_) | (with_reducible refine x_block ?_) | (with_reducible refine x_block_ret ?_) | (with_reducible refine r_exit ?_) | (with_reducible refine x_then_exit ?_) | (with_reducible refine x_block_here ?_) | (refine x_block_past rfl ?_) | (refine c_yes rfl (by omega) ?_) | (refine c_no rfl (by omega) ?_) | (refine c_no rfl (fun h => h rfl) ?_) | (refine r_cond_false rfl ?_) | (refine r_cond_true rfl ?_) | (refine r_cond_true rfl ?_) | (refine r_cond_false rfl ?_) | (refine r_off rfl rfl rfl ?_) | (refine q_guard rfl rfl (fun _ => ?_) (fun _ => ?_)) | (refine q_guardn rfl rfl (fun _ => ?_) (fun _ => ?_)))
    have hs3 : (pk bs 60 (pk bs 4 s1).2).2 = (mD bs s1).2 := rfl
    rw [hs3]
    refine r_cutD (c := .tmp 27) (γ := Unit) (p := (((pk bs 60 (pk bs 4 s1).2).1 : Nat) : Int) = 0) rfl (fun _ => True) (fun _ => [(0, .v (pt0 pb)), (2, .p 2 0), (4, .p 4 0), (6, .p 6 0), (3, .v (.int .i64 (m0 : Int))), (5, .v (.int .i64 (i : Int))), (7, .v (.int .i64 ((mD bs s1).1 : Int)))])
      (fun _ => [(6, ⟨none, [.v (.slice none 0 0)], 59⟩), (4, ⟨none, [.v (.int .i64 0), .v (.int .i64 0), .v (.string ⟨⟨[]⟩⟩), .v (.int .i64 0), .v (.slice A2 i c2')], 51⟩), (2, ⟨none, [.v (.int .i64 0), .v (.int .i64 0), .v (.string ⟨⟨[]⟩⟩), .v (.int .i64 0), .v (.slice none 0 0)], 51⟩)]) (fun _ => Wc v1 pb A n c (mD bs s1).2) (fun h0 => ?_) (fun h0 => ?_) (fun _ _ => ?_)
    · have e : (mD bs s1).1 = 100 := by rw [ems]; exact if_pos (by omega)
      repeat' (first | (refine r_pure hT rfl rfl rfl rfl ?_) | (refine r_new hT rfl rfl rfl rfl ?_) | (refine r_write hT rfl rfl rfl ?_) | (refine r_nil ?_) | (refine q_nil ?_) | (refine r_arith rfl rfl rfl rfl rfl rfl rfl (by omega) ?_) | (with_reducible refine r_seq ?_) | (with_reducible refine x_then ?_) | (with_reducible refine r_region ?_) | (refine r_draw hM (by kernel_rfl) ?_) | (with_reducible refine r_skip ?_) | (with_reducible refine r_ret ?_) | (with_reducible refine x_then_ret ?_) | (with_reducible refine r_block ?_) | (with_reducible refine x_block ?_) | (with_reducible refine x_block_ret ?_) | (with_reducible refine r_exit ?_) | (with_reducible refine x_then_exit ?_) | (with_reducible refine x_block_here ?_) | (refine x_block_past rfl ?_) | (refine c_yes rfl (by omega) ?_) | (refine c_no rfl (by omega) ?_) | (refine c_no rfl (fun h => h rfl) ?_) | (refine r_cond_false rfl ?_) | (refine r_cond_true rfl ?_) | (refine r_cond_dec rfl (fun _ => ?_) (fun _ => ?_)) | (refine r_cond_true rfl ?_) | (refine r_cond_false rfl ?_) | (refine c_not rfl (fun _ => ?_) (fun _ => ?_)) | (refine r_off rfl rfl rfl ?_) | (refine q_guard rfl rfl (fun _ => ?_) (fun _ => ?_)) | (refine q_guardn rfl rfl (fun _ => ?_) (fun _ => ?_)))
      exact x_cut () trivial (into rfl ⟨rfl, rfl, rfl, rfl, rfl, rfl, congrArg (fun z : Nat => some (SV.v (.int .i64 (z : Int)))) e.symm, trivial⟩ ⟨rfl, rfl, rfl, trivial⟩ rfl rfl)
    · have e : (mD bs s1).1 = (pk bs 4 s1).1 := by rw [ems]; exact if_neg (by omega)
      repeat' (first | (refine r_pure hT rfl rfl rfl rfl ?_) | (refine r_new hT rfl rfl rfl rfl ?_) | (refine r_write hT rfl rfl rfl ?_) | (refine r_nil ?_) | (refine q_nil ?_) | (refine r_arith rfl rfl rfl rfl rfl rfl rfl (by omega) ?_) | (with_reducible refine r_seq ?_) | (with_reducible refine x_then ?_) | (with_reducible refine r_region ?_) | (refine r_draw hM (by kernel_rfl) ?_) | (with_reducible refine r_skip ?_) | (with_reducible refine r_ret ?_) | (with_reducible refine x_then_ret ?_) | (with_reducible refine r_block ?_) | (with_reducible refine x_block ?_) | (with_reducible refine x_block_ret ?_) | (with_reducible refine r_exit ?_) | (with_reducible refine x_then_exit ?_) | (with_reducible refine x_block_here ?_) | (refine x_block_past rfl ?_) | (refine c_yes rfl (by omega) ?_) | (refine c_no rfl (by omega) ?_) | (refine c_no rfl (fun h => h rfl) ?_) | (refine r_cond_false rfl ?_) | (refine r_cond_true rfl ?_) | (refine r_cond_dec rfl (fun _ => ?_) (fun _ => ?_)) | (refine r_cond_true rfl ?_) | (refine r_cond_false rfl ?_) | (refine c_not rfl (fun _ => ?_) (fun _ => ?_)) | (refine r_off rfl rfl rfl ?_) | (refine q_guard rfl rfl (fun _ => ?_) (fun _ => ?_)) | (refine q_guardn rfl rfl (fun _ => ?_) (fun _ => ?_)))
      exact x_cut () trivial (into rfl ⟨rfl, rfl, rfl, rfl, rfl, rfl, congrArg (fun z : Nat => some (SV.v (.int .i64 (z : Int)))) e.symm, trivial⟩ ⟨rfl, rfl, rfl, trivial⟩ rfl rfl)
    clear ems hs3 d1 d2 a3
    generalize mD bs s1 = mm at *
    obtain ⟨m1, s2⟩ := mm
    dsimp only at *
    repeat' (first | (refine r_pure hT rfl rfl rfl rfl ?_) | (refine r_new hT rfl rfl rfl rfl ?_) | (refine r_write hT rfl rfl rfl ?_) | (refine r_nil ?_) | (refine q_nil ?_) | (refine r_arith rfl rfl rfl rfl rfl rfl rfl (by omega) ?_) | (with_reducible refine r_seq ?_) | (with_reducible refine x_then ?_) | (with_reducible refine r_region ?_) | (refine r_draw hM (by kernel_rfl) ?_) | (with_reducible refine r_skip ?_) | (with_reducible refine r_ret ?_) | (with_reducible refine x_then_ret ?_) | (with_reducible refine r_block ?_) | (with_reducible refine x_block ?_) | (with_reducible refine x_block_ret ?_) | (with_reducible refine r_exit ?_) | (with_reducible refine x_then_exit ?_) | (with_reducible refine x_block_here ?_) | (refine x_block_past rfl ?_) | (refine c_yes rfl (by omega) ?_) | (refine c_no rfl (by omega) ?_) | (refine c_no rfl (fun h => h rfl) ?_) | (refine r_cond_false rfl ?_) | (refine r_cond_true rfl ?_) | (refine r_cond_true rfl ?_) | (refine r_cond_false rfl ?_) | (refine r_off rfl rfl rfl ?_) | (refine q_guard rfl rfl (fun _ => ?_) (fun _ => ?_)) | (refine q_guardn rfl rfl (fun _ => ?_) (fun _ => ?_)))
    refine r_loop (γ := (Nat × Hp) × (Option Addr × Nat)) (fun g => g.1.1 ≤ m1 ∧ g.1.2 pb = none ∧ Le v1 g.1.2 ∧ Off v1 g.2.1 ∧ Own g.1.2 g.2.1 (paD bs m0 m1 g.1.1 s2).1.length g.2.2 61 8 ((paD bs m0 m1 g.1.1 s2).1.flatMap Pr.c))
      (fun g => [(0, .v (pt0 pb)), (2, .p 2 0), (4, .p 4 0), (6, .p 6 0), (3, .v (.int .i64 (m0 : Int))), (5, .v (.int .i64 (i : Int))), (7, .v (.int .i64 (m1 : Int))), (8, .v (.int .i64 (g.1.1 : Int)))])
      (fun g => [(6, ⟨none, [.v (.slice g.2.1 (paD bs m0 m1 g.1.1 s2).1.length g.2.2)], 59⟩), (4, ⟨none, [.v (.int .i64 0), .v (.int .i64 0), .v (.string ⟨⟨[]⟩⟩), .v (.int .i64 0), .v (.slice A2 i c2')], 51⟩), (2, ⟨none, [.v (.int .i64 0), .v (.int .i64 0), .v (.string ⟨⟨[]⟩⟩), .v (.int .i64 0), .v (.slice none 0 0)], 51⟩)])
      (fun g => Wc g.1.2 pb A n c (paD bs m0 m1 g.1.1 s2).2) (fun g => m1 - g.1.1)
      ((0, v1), (none, 0)) ⟨Nat.zero_le _, hp1, Le.refl v1, off_nil, own_nil⟩ (into rfl ⟨rfl, rfl, rfl, rfl, rfl, rfl, rfl, rfl, trivial⟩ ⟨rfl, rfl, rfl, trivial⟩ rfl rfl) ?_
    rintro ⟨⟨kk, v2⟩, ⟨Ap, cp⟩⟩ ⟨hk, hp2, hl2, hof2, hO2⟩
    dsimp only at *
    have hX2 := hX1.le hl2 hp2
    have hpa := paD_ok bs m0 m1 s2 kk (by omega)
    by_cases hltk : kk < m1
    · have enx : paD bs m0 m1 (kk + 1) s2 = nxP bs m0 m1 kk (paD bs m0 m1 kk s2) := rfl
      have hb3 : (paD bs m0 m1 kk s2).2.1 ≤ 4000000 := by
        have : 50 * kk ≤ 50 * 100 := Nat.mul_le_mul_left _ (by omega)
        omega
      obtain ⟨_, hpl, _, _⟩ := hpa
      generalize paD bs m0 m1 kk s2 = pk1 at *
      obtain ⟨t, s3⟩ := pk1
      dsimp only at *
      have ka := kyD_at bs s3
      have e1 := dkeyF v2 pb A n c s3 bs hX2 (by omega)
      have e2 := dvalF v2 pb A n c m0 (kyD bs s3).2 bs hX2 (by omega) (by omega)
      have enp : nxP bs m0 m1 kk (t, s3) = (if isK t (if m1 = 100 then inV (kk : Int) else (kyD bs s3).1) = true then t else t ++ [⟨(if m1 = 100 then inV (kk : Int) else (kyD bs s3).1), (vaD bs m0 (kyD bs s3).2).1⟩], (vaD bs m0 (kyD bs s3).2).2) := rfl
      rw [enp] at enx
      clear enp
      generalize kyD bs s3 = ky at *
      generalize vaD bs m0 ky.2 = va at *
      obtain ⟨kv, s4⟩ := ky
      obtain ⟨vv, s5⟩ := va
      dsimp only at *
      obtain ⟨key, hkey⟩ : ∃ key, key = if m1 = 100 then inV (kk : Int) else kv := ⟨_, rfl⟩
      rw [← hkey] at enx
      repeat' (first | (refine r_pure hT rfl rfl rfl rfl ?_) | (refine r_new hT rfl rfl rfl rfl ?_) | (refine r_write hT rfl rfl rfl ?_) | (refine r_nil ?_) | (refine q_nil ?_) | (refine c_yes rfl (by omega) ?_) | ((refine r_call e1 rfl rfl rfl rfl rfl (hC _ rfl) rfl rfl (fun y0 u1 hy => ?_) ; subst hy)) | ((refine r_call e2 rfl rfl rfl rfl rfl (hC _ rfl) rfl rfl (fun y0 u1 hy => ?_) ; subst hy)) | (refine r_build hT rfl rfl rfl (ps := [(0, .tmp 34), (1, .tmp 37)]) rfl rfl rfl rfl rfl rfl ?_) | (refine r_arith rfl rfl rfl rfl rfl rfl rfl (by omega) ?_) | (with_reducible refine r_seq ?_) | (with_reducible refine x_then ?_) | (with_reducible refine r_region ?_) | (refine r_draw hM (by kernel_rfl) ?_) | (with_reducible refine r_skip ?_) | (with_reducible refine r_ret ?_) | (with_reducible refine x_then_ret ?_) | (with_reducible refine r_block ?_) | (with_reducible refine x_block ?_) | (with_reducible refine x_block_ret ?_) | (with_reducible refine r_exit ?_) | (with_reducible refine x_then_exit ?_) | (with_reducible refine x_block_here ?_) | (refine x_block_past rfl ?_) | (refine c_yes rfl (by omega) ?_) | (refine c_no rfl (by omega) ?_) | (refine c_no rfl (fun h => h rfl) ?_) | (refine r_cond_false rfl ?_) | (refine r_cond_true rfl ?_) | (refine r_cond_true rfl ?_) | (refine r_cond_false rfl ?_) | (refine r_off rfl rfl rfl ?_) | (refine q_guard rfl rfl (fun _ => ?_) (fun _ => ?_)) | (refine q_guardn rfl rfl (fun _ => ?_) (fun _ => ?_)))
      refine r_cutD (c := .tmp 40) (γ := Unit) (p := (m1 : Int) = 100) rfl (fun _ => True) (fun _ => [(0, .v (pt0 pb)), (2, .p 2 0), (4, .p 4 0), (6, .p 6 0), (9, .p 9 0), (3, .v (.int .i64 (m0 : Int))), (5, .v (.int .i64 (i : Int))), (7, .v (.int .i64 (m1 : Int))), (8, .v (.int .i64 (kk : Int)))])
        (fun _ => [(9, ⟨none, (⟨key, vv⟩ : Pr).sv, 61⟩), (6, ⟨none, [.v (.slice Ap t.length cp)], 59⟩), (4, ⟨none, [.v (.int .i64 0), .v (.int .i64 0), .v (.string ⟨⟨[]⟩⟩), .v (.int .i64 0), .v (.slice A2 i c2')], 51⟩), (2, ⟨none, [.v (.int .i64 0), .v (.int .i64 0), .v (.string ⟨⟨[]⟩⟩), .v (.int .i64 0), .v (.slice none 0 0)], 51⟩)]) (fun _ => Wc v2 pb A n c s5) (fun h0 => ?_) (fun h0 => ?_) (fun _ _ => ?_)
      · have e : key = inV (kk : Int) := by rw [hkey]; exact if_pos (by omega)
        subst e
        repeat' (first | (refine r_pure hT rfl rfl rfl rfl ?_) | (refine r_new hT rfl rfl rfl rfl ?_) | (refine r_write hT rfl rfl rfl ?_) | (refine r_nil ?_) | (refine q_nil ?_) | (refine r_build hT rfl rfl rfl (ps := [(0, .const (.int .i64 2)), (1, .tmp 41)]) rfl rfl rfl rfl rfl rfl ?_) | (refine r_arith rfl rfl rfl rfl rfl rfl rfl (by omega) ?_) | (with_reducible refine r_seq ?_) | (with_reducible refine x_then ?_) | (with_reducible refine r_region ?_) | (refine r_draw hM (by kernel_rfl) ?_) | (with_reducible refine r_skip ?_) | (with_reducible refine r_ret ?_) | (with_reducible refine x_then_ret ?_) | (with_reducible refine r_block ?_) | (with_reducible refine x_block ?_) | (with_reducible refine x_block_ret ?_) | (with_reducible refine r_exit ?_) | (with_reducible refine x_then_exit ?_) | (with_reducible refine x_block_here ?_) | (refine x_block_past rfl ?_) | (refine c_yes rfl (by omega) ?_) | (refine c_no rfl (by omega) ?_) | (refine c_no rfl (fun h => h rfl) ?_) | (refine r_cond_false rfl ?_) | (refine r_cond_true rfl ?_) | (refine r_cond_dec rfl (fun _ => ?_) (fun _ => ?_)) | (refine r_cond_true rfl ?_) | (refine r_cond_false rfl ?_) | (refine c_not rfl (fun _ => ?_) (fun _ => ?_)) | (refine r_off rfl rfl rfl ?_) | (refine q_guard rfl rfl (fun _ => ?_) (fun _ => ?_)) | (refine q_guardn rfl rfl (fun _ => ?_) (fun _ => ?_)))
        exact x_cut () trivial (into rfl ⟨rfl, rfl, rfl, rfl, rfl, rfl, rfl, rfl, rfl, trivial⟩ ⟨rfl, rfl, rfl, rfl, trivial⟩ rfl rfl)
      · have e : key = kv := by rw [hkey]; exact if_neg (by omega)
        subst e
        repeat' (first | (refine r_pure hT rfl rfl rfl rfl ?_) | (refine r_new hT rfl rfl rfl rfl ?_) | (refine r_write hT rfl rfl rfl ?_) | (refine r_nil ?_) | (refine q_nil ?_) | (refine r_arith rfl rfl rfl rfl rfl rfl rfl (by omega) ?_) | (with_reducible refine r_seq ?_) | (with_reducible refine x_then ?_) | (with_reducible refine r_region ?_) | (refine r_draw hM (by kernel_rfl) ?_) | (with_reducible refine r_skip ?_) | (with_reducible refine r_ret ?_) | (with_reducible refine x_then_ret ?_) | (with_reducible refine r_block ?_) | (with_reducible refine x_block ?_) | (with_reducible refine x_block_ret ?_) | (with_reducible refine r_exit ?_) | (with_reducible refine x_then_exit ?_) | (with_reducible refine x_block_here ?_) | (refine x_block_past rfl ?_) | (refine c_yes rfl (by omega) ?_) | (refine c_no rfl (by omega) ?_) | (refine c_no rfl (fun h => h rfl) ?_) | (refine r_cond_false rfl ?_) | (refine r_cond_true rfl ?_) | (refine r_cond_dec rfl (fun _ => ?_) (fun _ => ?_)) | (refine r_cond_true rfl ?_) | (refine r_cond_false rfl ?_) | (refine c_not rfl (fun _ => ?_) (fun _ => ?_)) | (refine r_off rfl rfl rfl ?_) | (refine q_guard rfl rfl (fun _ => ?_) (fun _ => ?_)) | (refine q_guardn rfl rfl (fun _ => ?_) (fun _ => ?_)))
        exact x_cut () trivial (into rfl ⟨rfl, rfl, rfl, rfl, rfl, rfl, rfl, rfl, rfl, trivial⟩ ⟨rfl, rfl, rfl, rfl, trivial⟩ rfl rfl)
      have hPt : Pairs (Wc v2 pb A n c s5) Ap t.length t := own_pairs (hO2.le fun b o _ ho => wc_le hp2 s5 b o ho)
      repeat' (first | (refine r_pure hT rfl rfl rfl rfl ?_) | (refine r_new hT rfl rfl rfl rfl ?_) | (refine r_write hT rfl rfl rfl ?_) | (refine r_nil ?_) | (refine q_nil ?_) | (refine r_arith rfl rfl rfl rfl rfl rfl rfl (by omega) ?_) | (with_reducible refine r_seq ?_) | (with_reducible refine x_then ?_) | (with_reducible refine r_region ?_) | (refine r_draw hM (by kernel_rfl) ?_) | (with_reducible refine r_skip ?_) | (with_reducible refine r_ret ?_) | (with_reducible refine x_then_ret ?_) | (with_reducible refine r_block ?_) | (with_reducible refine x_block ?_) | (with_reducible refine x_block_ret ?_) | (with_reducible refine r_exit ?_) | (with_reducible refine x_then_exit ?_) | (with_reducible refine x_block_here ?_) | (refine x_block_past rfl ?_) | (refine c_yes rfl (by omega) ?_) | (refine c_no rfl (by omega) ?_) | (refine c_no rfl (fun h => h rfl) ?_) | (refine r_cond_false rfl ?_) | (refine r_cond_true rfl ?_) | (refine r_cond_true rfl ?_) | (refine r_cond_false rfl ?_) | (refine r_off rfl rfl rfl ?_) | (refine q_guard rfl rfl (fun _ => ?_) (fun _ => ?_)) | (refine q_guardn rfl rfl (fun _ => ?_) (fun _ => ?_)))
      refine r_loop (γ := Nat) (fun j => j ≤ t.length) (fun j => [(0, .v (pt0 pb)), (2, .p 2 0), (4, .p 4 0), (6, .p 6 0), (9, .p 9 0), (3, .v (.int .i64 (m0 : Int))), (5, .v (.int .i64 (i : Int))), (7, .v (.int .i64 (m1 : Int))), (8, .v (.int .i64 (kk : Int))), (45, .v (.slice Ap t.length cp)), (46, .v (.int .i64 (t.length : Int))), (47, .v (.int .i64 (j : Int))), (10, .v (.bool (isK (t.take j) key)))])
        (fun _ => [(9, ⟨none, (⟨key, vv⟩ : Pr).sv, 61⟩), (6, ⟨none, [.v (.slice Ap t.length cp)], 59⟩), (4, ⟨none, [.v (.int .i64 0), .v (.int .i64 0), .v (.string ⟨⟨[]⟩⟩), .v (.int .i64 0), .v (.slice A2 i c2')], 51⟩), (2, ⟨none, [.v (.int .i64 0), .v (.int .i64 0), .v (.string ⟨⟨[]⟩⟩), .v (.int .i64 0), .v (.slice none 0 0)], 51⟩)]) (fun _ => Wc v2 pb A n c s5) (fun j => t.length - j)
        0 (Nat.zero_le _) (into rfl ⟨rfl, rfl, rfl, rfl, rfl, rfl, rfl, rfl, rfl, rfl, rfl, rfl, rfl, trivial⟩ ⟨rfl, rfl, rfl, rfl, trivial⟩ rfl rfl) ?_
      intro j hj
      by_cases hltj : j < t.length
      · obtain ⟨b7, off7, p, rfl, _, hix, _, hat⟩ := hPt.elem Pr.c_len hltj
        have hsn := isK_snoc (k := key) hix
        cases hb : isK (t.take j) key with
        | true =>
          rw [hb, Bool.true_or] at hsn
          repeat' (first | (refine r_pure hT rfl rfl rfl rfl ?_) | (refine r_new hT rfl rfl rfl rfl ?_) | (refine r_write hT rfl rfl rfl ?_) | (refine r_nil ?_) | (refine q_nil ?_) | (refine r_indexN hT rfl rfl rfl rfl rfl rfl rfl rfl rfl hltj ?_) | (refine r_load hT hat rfl rfl rfl rfl rfl (Nat.add_zero _).symm rfl rfl rfl rfl rfl ?_) | (refine c_yes rfl (by omega) ?_) | (refine r_arith rfl rfl rfl rfl rfl rfl rfl (by omega) ?_) | (with_reducible refine r_seq ?_) | (with_reducible refine x_then ?_) | (with_reducible refine r_region ?_) | (refine r_draw hM (by kernel_rfl) ?_) | (with_reducible refine r_skip ?_) | (with_reducible refine r_ret ?_) | (with_reducible refine x_then_ret ?_) | (with_reducible refine r_block ?_) | (with_reducible refine x_block ?_) | (with_reducible refine x_block_ret ?_) | (with_reducible refine r_exit ?_) | (with_reducible refine x_then_exit ?_) | (with_reducible refine x_block_here ?_) | (refine x_block_past rfl ?_) | (refine c_yes rfl (by omega) ?_) | (refine c_no rfl (by omega) ?_) | (refine c_no rfl (fun h => h rfl) ?_) | (refine r_cond_false rfl ?_) | (refine r_cond_true rfl ?_) | (refine r_cond_true rfl ?_) | (refine r_cond_false rfl ?_) | (refine r_off rfl rfl rfl ?_))
          exact x_round (j + 1) hltj (by omega) (into rfl ⟨rfl, rfl, rfl, rfl, rfl, rfl, rfl, rfl, rfl, rfl, rfl, rfl, congrArg (fun z => some (SV.v (.bool z))) hsn.symm, trivial⟩ ⟨rfl, rfl, rfl, rfl, trivial⟩ rfl rfl)
        | false =>
          rw [hb, Bool.false_or] at hsn
          have heq : ∀ z, (Op.equalIn Op.maxDepth 48 (.agg p.key.c.toArray) (.agg key.c.toArray)).run Tryd.prog z = .ok (decide (p.key = key)) z := fun z => eq29f z p.key.k p.key.n p.key.s p.key.a key
          repeat' (first | (refine r_pure hT rfl rfl rfl rfl ?_) | (refine r_new hT rfl rfl rfl rfl ?_) | (refine r_write hT rfl rfl rfl ?_) | (refine r_nil ?_) | (refine q_nil ?_) | (refine r_indexN hT rfl rfl rfl rfl rfl rfl rfl rfl rfl hltj ?_) | (refine r_load hT hat rfl rfl rfl rfl rfl (Nat.add_zero _).symm rfl rfl rfl rfl rfl ?_) | (refine c_yes rfl (by omega) ?_) | (refine r_eqs heq (by kernel_rfl) (.inl rfl) rfl rfl rfl rfl rfl rfl rfl rfl ?_) | (refine r_arith rfl rfl rfl rfl rfl rfl rfl (by omega) ?_) | (with_reducible refine r_seq ?_) | (with_reducible refine x_then ?_) | (with_reducible refine r_region ?_) | (refine r_draw hM (by kernel_rfl) ?_) | (with_reducible refine r_skip ?_) | (with_reducible refine r_ret ?_) | (with_reducible refine x_then_ret ?_) | (with_reducible refine r_block ?_) | (with_reducible refine x_block ?_) | (with_reducible refine x_block_ret ?_) | (with_reducible refine r_exit ?_) | (with_reducible refine x_then_exit ?_) | (with_reducible refine x_block_here ?_) | (refine x_block_past rfl ?_) | (refine c_yes rfl (by omega) ?_) | (refine c_no rfl (by omega) ?_) | (refine c_no rfl (fun h => h rfl) ?_) | (refine r_cond_false rfl ?_) | (refine r_cond_true rfl ?_) | (refine r_cond_true rfl ?_) | (refine r_cond_false rfl ?_) | (refine r_off rfl rfl rfl ?_))
          exact x_round (j + 1) hltj (by omega) (into rfl ⟨rfl, rfl, rfl, rfl, rfl, rfl, rfl, rfl, rfl, rfl, rfl, rfl, congrArg (fun z => some (SV.v (.bool z))) hsn.symm, trivial⟩ ⟨rfl, rfl, rfl, rfl, trivial⟩ rfl rfl)
      · obtain rfl : j = t.length := by omega
        rw [List.take_length]
        cases hb : isK t key with
        | true =>
          rw [hb, if_pos rfl] at enx
          repeat' (first | (refine r_pure hT rfl rfl rfl rfl ?_) | (refine r_new hT rfl rfl rfl rfl ?_) | (refine r_write hT rfl rfl rfl ?_) | (refine r_nil ?_) | (refine q_nil ?_) | (refine c_no rfl (by omega) ?_) | (refine r_arith rfl rfl rfl rfl rfl rfl rfl (by omega) ?_) | (with_reducible refine r_seq ?_) | (with_reducible refine x_then ?_) | (with_reducible refine r_region ?_) | (refine r_draw hM (by kernel_rfl) ?_) | (with_reducible refine r_skip ?_) | (with_reducible refine r_ret ?_) | (with_reducible refine x_then_ret ?_) | (with_reducible refine r_block ?_) | (with_reducible refine x_block ?_) | (with_reducible refine x_block_ret ?_) | (with_reducible refine r_exit ?_) | (with_reducible refine x_then_exit ?_) | (with_reducible refine x_block_here ?_) | (refine x_block_past rfl ?_) | (refine c_yes rfl (by omega) ?_) | (refine c_no rfl (by omega) ?_) | (refine c_no rfl (fun h => h rfl) ?_) | (refine r_cond_false rfl ?_) | (refine r_cond_true rfl ?_) | (refine r_cond_true rfl ?_) | (refine r_cond_false rfl ?_) | (refine r_off rfl rfl rfl ?_) | (refine q_guard rfl rfl (fun _ => ?_) (fun _ => ?_)) | (refine q_guardn rfl rfl (fun _ => ?_) (fun _ => ?_)))
          have e3 : t = (paD bs m0 m1 (kk + 1) s2).1 := by rw [enx]
          have e4 : s5 = (paD bs m0 m1 (kk + 1) s2).2 := by rw [enx]
          rw [e4]
          exact x_round ((kk + 1, v2), (Ap, cp)) ⟨hltk, hp2, hl2, hof2, by dsimp only; rw [← e3]; exact hO2⟩ (by dsimp only; omega) (into rfl ⟨rfl, rfl, rfl, rfl, rfl, rfl, rfl, rfl, trivial⟩ ⟨congrArg (fun z : List Pr => some (⟨none, [.v (.slice Ap z.length cp)], 59⟩ : Blk)) e3, rfl, rfl, trivial⟩ rfl rfl)
        | false =>
          rw [hb, if_neg (by decide)] at enx
          repeat' (first | (refine r_pure hT rfl rfl rfl rfl ?_) | (refine r_new hT rfl rfl rfl rfl ?_) | (refine r_write hT rfl rfl rfl ?_) | (refine r_nil ?_) | (refine q_nil ?_) | (refine c_no rfl (by omega) ?_) | (refine r_bslice (t := 57) hT (ps := [(0, .tmp 64)]) rfl rfl rfl rfl rfl rfl rfl (by simp) rfl rfl (by decide) (fun b3 hb3 => ?_)) | (refine r_append (t := 57) hT (cs := t.flatMap Pr.c) (news := [(⟨key, vv⟩ : Pr)].flatMap Pr.c) rfl rfl rfl rfl rfl rfl rfl rfl rfl rfl rfl (own_fr (hO2.le fun b o _ ho => wc_le hp2 s5 b o ho) hb3) (sl_blk (upd_here ..) rfl) (Pr.one _) (by dsimp only; omega) (by omega) (fun A6 c6 u6 hO6 hG6 => ?_)) | (refine r_arith rfl rfl rfl rfl rfl rfl rfl (by omega) ?_) | (with_reducible refine r_seq ?_) | (with_reducible refine x_then ?_) | (with_reducible refine r_region ?_) | (refine r_draw hM (by kernel_rfl) ?_) | (with_reducible refine r_skip ?_) | (with_reducible refine r_ret ?_) | (with_reducible refine x_then_ret ?_) | (with_reducible refine r_block ?_) | (with_reducible refine x_block ?_) | (with_reducible refine x_block_ret ?_) | (with_reducible refine r_exit ?_) | (with_reducible refine x_then_exit ?_) | (with_reducible refine x_block_here ?_) | (refine x_block_past rfl ?_) | (refine c_yes rfl (by omega) ?_) | (refine c_no rfl (by omega) ?_) | (refine c_no rfl (fun h => h rfl) ?_) | (refine r_cond_false rfl ?_) | (refine r_cond_true rfl ?_) | (refine r_cond_true rfl ?_) | (refine r_cond_false rfl ?_) | (refine r_off rfl rfl rfl ?_) | (refine q_guard rfl rfl (fun _ => ?_) (fun _ => ?_)) | (refine q_guardn rfl rfl (fun _ => ?_) (fun _ => ?_)))
          obtain ⟨v3, e5, hp3, hO3, hk3⟩ := wc_app hp2 hO2 hb3 hG6 hO6
          have hk4 := hk3 v1 hl2 hof2
          subst e5
          have e3 : t ++ [(⟨key, vv⟩ : Pr)] = (paD bs m0 m1 (kk + 1) s2).1 := by rw [enx]
          have e4 : s5 = (paD bs m0 m1 (kk + 1) s2).2 := by rw [enx]
          have e6 : t.length + 1 = (paD bs m0 m1 (kk + 1) s2).1.length := by rw [← e3]; simp
          rw [e4]
          exact x_round ((kk + 1, v3), (A6, c6)) ⟨hltk, hp3, hk4.1, hk4.2, by dsimp only; rw [← e6, ← e3, List.flatMap_append]; exact hO3⟩ (by dsimp only; omega) (into rfl ⟨rfl, rfl, rfl, rfl, rfl, rfl, rfl, rfl, trivial⟩ ⟨congrArg (fun z : Nat => some (⟨none, [.v (.slice A6 z c6)], 59⟩ : Blk)) e6, rfl, rfl, trivial⟩ rfl rfl)
    · obtain rfl : kk = m1 := by omega
      rw [etd] at etb htb
      generalize paD bs m0 kk kk s2 = pk1 at *
      obtain ⟨t, s3⟩ := pk1
      dsimp only at *
      have htl := htb.2.1
      have hown : Own v1 A2 i c2' 59 1 (hs2.flatMap Hd.v) := by
        have := hG2.own
        rw [hl1] at this; exact this
      repeat' (first | (refine r_pure hT rfl rfl rfl rfl ?_) | (refine r_new hT rfl rfl rfl rfl ?_) | (refine r_write hT rfl rfl rfl ?_) | (refine r_nil ?_) | (refine q_nil ?_) | (refine c_no rfl (by omega) ?_) | (refine r_bslice (t := 49) hT (ps := [(0, .tmp 70)]) rfl rfl rfl rfl rfl rfl rfl (by simp) rfl rfl (by decide) (fun b3 hb3 => ?_)) | (refine r_append (t := 49) hT (cs := hs2.flatMap Hd.v) (news := [(⟨Ap, t.length, cp⟩ : Hd)].flatMap Hd.v) rfl rfl rfl rfl rfl rfl rfl rfl rfl rfl rfl (own_fr (hown.le fun b o _ ho => wc_le hp2 s3 b o (hl2 b o ho)) hb3) (sl_blk (upd_here ..) rfl) (heads_one _) (by dsimp only; omega) (by omega) (fun A6 c6 u6 hO6 hG6 => ?_)) | (refine r_arith rfl rfl rfl rfl rfl rfl rfl (by omega) ?_) | (with_reducible refine r_seq ?_) | (with_reducible refine x_then ?_) | (with_reducible refine r_region ?_) | (refine r_draw hM (by kernel_rfl) ?_) | (with_reducible refine r_skip ?_) | (with_reducible refine r_ret ?_) | (with_reducible refine x_then_ret ?_) | (with_reducible refine r_block ?_) | (with_reducible refine x_block ?_) | (with_reducible refine x_block_ret ?_) | (with_reducible refine r_exit ?_) | (with_reducible refine x_then_exit ?_) | (with_reducible refine x_block_here ?_) | (refine x_block_past rfl ?_) | (refine c_yes rfl (by omega) ?_) | (refine c_no rfl (by omega) ?_) | (refine c_no rfl (fun h => h rfl) ?_) | (refine r_cond_false rfl ?_) | (refine r_cond_true rfl ?_) | (refine r_cond_true rfl ?_) | (refine r_cond_false rfl ?_) | (refine r_off rfl rfl rfl ?_) | (refine q_guard rfl rfl (fun _ => ?_) (fun _ => ?_)) | (refine q_guardn rfl rfl (fun _ => ?_) (fun _ => ?_)))
      obtain ⟨v3, e5, hp3, hO3, hk3⟩ := wc_app hp2 (hown.le fun b o _ ho => hl2 b o ho) hb3 hG6 hO6
      subst e5
      have hG7 := hG2.push (t := t) hl2 (Le.refl v2) (y := ⟨Ap, t.length, cp⟩) hO2 hof2 (by rw [hl1]; exact hO3) hk3
      have e3 : T1 ++ [t] = (tsD bs m0 (i + 1) s0).1 := by rw [etb]
      have e4 : s3 = (tsD bs m0 (i + 1) s0).2 := by rw [etb]
      rw [e4]
      exact x_round ((i + 1, v3), ((A6, c6), (_, _))) ⟨hlt, hp3, by dsimp only; rw [← e3]; exact hG7⟩ (by dsimp only; omega) (into rfl ⟨rfl, rfl, rfl, rfl, rfl, trivial⟩ ⟨rfl, rfl, trivial⟩ rfl rfl)
  · obtain rfl : i = m0 := by omega
    have hbnd : (tsD bs i i s0).2.1 ≤ 3000000 := by
      have : 6000 * i ≤ 6000 * 200 := Nat.mul_le_mul_left _ (by omega)
      omega
    obtain ⟨hl1, _, _, _⟩ := hts
    generalize tsD bs i i s0 = ts1 at *
    obtain ⟨T1, s1⟩ := ts1
    dsimp only at *
    have a4 := vaD_at bs i s1
    have e1 := dvalF v1 pb A n c i s1 bs hX1 (by omega) (by omega)
    generalize vaD bs i s1 = va at *
    obtain ⟨vv, s5⟩ := va
    dsimp only at *
    have e2 := pickF v1 pb A n c s5 bs 8 hX1 (by omega) (by omega)
    have hTb := hG2.tabs
    subst hl1
    by_cases h0 : T1.length = 0
    · rw [if_pos h0]
      repeat' (first | (refine r_pure hT rfl rfl rfl rfl ?_) | (refine r_new hT rfl rfl rfl rfl ?_) | (refine r_write hT rfl rfl rfl ?_) | (refine r_nil ?_) | (refine q_nil ?_) | (refine c_no rfl (by omega) ?_) | ((refine r_call e1 rfl rfl rfl rfl rfl (hC _ rfl) rfl rfl (fun y0 u1 hy => ?_) ; subst hy)) | (refine q_guard rfl rfl (fun hx => absurd hx (by omega)) (fun _ => ?_)) | (refine r_arith rfl rfl rfl rfl rfl rfl rfl (by omega) ?_) | (with_reducible refine r_seq ?_) | (with_reducible refine x_then ?_) | (with_reducible refine r_region ?_) | (refine r_draw hM (by kernel_rfl) ?_) | (with_reducible refine r_skip ?_) | (with_reducible refine r_ret ?_) | (with_reducible refine x_then_ret ?_) | (with_reducible refine r_block ?_) | (with_reducible refine x_block ?_) | (with_reducible refine x_block_ret ?_) | (with_reducible refine r_exit ?_) | (with_reducible refine x_then_exit ?_) | (with_reducible refine x_block_here ?_) | (refine x_block_past rfl ?_) | (refine c_yes rfl (by omega) ?_) | (refine c_no rfl (by omega) ?_) | (refine c_no rfl (fun h => h rfl) ?_) | (refine r_cond_false rfl ?_) | (refine r_cond_true rfl ?_) | (refine r_cond_true rfl ?_) | (refine r_cond_false rfl ?_) | (refine r_off rfl rfl rfl ?_))
      exact r_fin hT rfl ((A2, c2') : Option Addr × Nat) rfl rfl rfl trivial rfl ⟨v1, rfl, hp1, hG2.hq.trans hG2.qu, hTb⟩
    · rw [if_neg h0]
      by_cases h8 : (pk bs 8 s5).1 = 0
      · rw [if_pos h8]
        repeat' (first | (refine r_pure hT rfl rfl rfl rfl ?_) | (refine r_new hT rfl rfl rfl rfl ?_) | (refine r_write hT rfl rfl rfl ?_) | (refine r_nil ?_) | (refine q_nil ?_) | (refine c_no rfl (by omega) ?_) | ((refine r_call e1 rfl rfl rfl rfl rfl (hC _ rfl) rfl rfl (fun y0 u1 hy => ?_) ; subst hy)) | (refine q_guard rfl rfl (fun _ => ?_) (fun hx => absurd (by omega) hx)) | ((refine r_call e2 rfl rfl rfl rfl rfl (hC _ rfl) rfl rfl (fun y0 u1 hy => ?_) ; subst hy)) | (refine r_arith rfl rfl rfl rfl rfl rfl rfl (by omega) ?_) | (with_reducible refine r_seq ?_) | (with_reducible refine x_then ?_) | (with_reducible refine r_region ?_) | (refine r_draw hM (by kernel_rfl) ?_) | (with_reducible refine r_skip ?_) | (with_reducible refine r_ret ?_) | (with_reducible refine x_then_ret ?_) | (with_reducible refine r_block ?_) | (with_reducible refine x_block ?_) | (with_reducible refine x_block_ret ?_) | (with_reducible refine r_exit ?_) | (with_reducible refine x_then_exit ?_) | (with_reducible refine x_block_here ?_) | (refine x_block_past rfl ?_) | (refine c_yes rfl (by omega) ?_) | (refine c_no rfl (by omega) ?_) | (refine c_no rfl (fun h => h rfl) ?_) | (refine r_cond_false rfl ?_) | (refine r_cond_true rfl ?_) | (refine r_cond_true rfl ?_) | (refine r_cond_false rfl ?_) | (refine r_off rfl rfl rfl ?_))
        exact r_fin hT rfl ((A2, c2') : Option Addr × Nat) rfl rfl rfl trivial rfl ⟨v1, rfl, hp1, hG2.hq.trans hG2.qu, hTb⟩
      · rw [if_neg h8]
        repeat' (first | (refine r_pure hT rfl rfl rfl rfl ?_) | (refine r_new hT rfl rfl rfl rfl ?_) | (refine r_write hT rfl rfl rfl ?_) | (refine r_nil ?_) | (refine q_nil ?_) | (refine c_no rfl (by omega) ?_) | ((refine r_call e1 rfl rfl rfl rfl rfl (hC _ rfl) rfl rfl (fun y0 u1 hy => ?_) ; subst hy)) | (refine q_guard rfl rfl (fun _ => ?_) (fun hx => absurd (by omega) hx)) | ((refine r_call e2 rfl rfl rfl rfl rfl (hC _ rfl) rfl rfl (fun y0 u1 hy => ?_) ; subst hy)) | (refine c_yes rfl (by omega) ?_) | (refine r_build hT rfl rfl rfl (ps := [(0, .const (.int .i64 4))]) rfl rfl rfl rfl rfl rfl ?_) | (refine r_arith rfl rfl rfl rfl rfl rfl rfl (by omega) ?_) | (with_reducible refine r_seq ?_) | (with_reducible refine x_then ?_) | (with_reducible refine r_region ?_) | (refine r_draw hM (by kernel_rfl) ?_) | (with_reducible refine r_skip ?_) | (with_reducible refine r_ret ?_) | (with_reducible refine x_then_ret ?_) | (with_reducible refine r_block ?_) | (with_reducible refine x_block ?_) | (with_reducible refine x_block_ret ?_) | (with_reducible refine r_exit ?_) | (with_reducible refine x_then_exit ?_) | (with_reducible refine x_block_here ?_) | (refine x_block_past rfl ?_) | (refine c_yes rfl (by omega) ?_) | (refine c_no rfl (by omega) ?_) | (refine c_no rfl (fun h => h rfl) ?_) | (refine r_cond_false rfl ?_) | (refine r_cond_true rfl ?_) | (refine r_cond_true rfl ?_) | (refine r_cond_false rfl ?_) | (refine r_off rfl rfl rfl ?_))
        exact r_fin hT rfl ((A2, c2') : Option Addr × Nat) rfl rfl rfl trivial rfl ⟨v1, rfl, hp1, hG2.hq.trans hG2.qu, hTb⟩
end Go.Proofs.YtkamfnmbidnhdaaDoor
