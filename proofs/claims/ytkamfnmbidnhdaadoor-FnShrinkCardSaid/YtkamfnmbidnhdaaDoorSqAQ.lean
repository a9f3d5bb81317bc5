/- The drawer's graphs; spec.Drawn. No condition. -/
import Derived.Test.YtkamfnmbidnhdaaDoorSqAI
import Derived.Test.YtkamfnmbidnhdaaDoorSqAP
import Derived.Test.YtkamfnmbidnhdaaDoorSqAG
import Derived.Test.YtkamfnmbidnhdaaDoorSqAN
set_option linter.unusedVariables false
set_option linter.unusedSimpArgs false
set_option linter.unusedSectionVars false
namespace Go.Proofs.YtkamfnmbidnhdaaDoor
open Go.Sy
set_option maxRecDepth 100000
set_option maxHeartbeats 8000000
set_option linter.unusedVariables false
set_option linter.unusedSimpArgs false
theorem isK_snoc {t : List Pr} {j : Nat} {p : Pr} {k : V} (h : t[j]? = some p) : isK (t.take (j + 1)) k = (isK (t.take j) k || decide (p.key = k)) := by
  rw [take_snoc h]
  unfold isK
  rw [List.any_append]
  simp only [List.any_cons, List.any_nil, Bool.or_false]
  congr 1
  rw [decide_eq_decide]
  constructor
  · rintro ⟨h1, h2, h3, h4⟩
    cases hk : p.key; cases k
    rw [hk] at h1 h2 h3 h4
    simp only at h1 h2 h3 h4
    rw [h1, h2, h3, h4]
  · intro e; rw [e]; exact ⟨rfl, rfl, rfl, rfl⟩
theorem graphF (h : Hp) (pb : Nat) (A : Option Addr) (n c : Nat) (s : DS) (bs : List Int) (hX : Cx h pb A n bs) (hi : s.1 ≤ 1000000) :
    TriS Tryd.prog 89 [.v (pt0 pb)] [] (Wc h pb A n c s) (fun y : Option Addr × Nat => .ag (gsv (grD bs s).1.1 y.1 (grD bs s).1.2.length y.2)) (fun _ => [])
      (fun y u' => ∃ h', u' = Wc h' pb A n c (grD bs s).2 ∧ h' pb = none ∧ Le h h' ∧ Tabs h' y.1 (grD bs s).1.2.length (grD bs s).1.2) := by
  have a1 := pk_at bs 9 s
  have c1 := pickF h pb A n c s bs 9 hX (by omega) (by omega)
  have c2 := pickF h pb A n c (pk bs 9 s).2 bs 25 hX (by omega) (by omega)
  have hn2 := nD_le bs s
  have hna := nD_at bs s
  have hnd : nD bs s = (if (pk bs 25 (pk bs 9 s).2).1 = 0 then 200 else (pk bs 9 s).1, (pk bs 25 (pk bs 9 s).2).2) := rfl
  have hG := grD_ok bs s
  unfold grD at hG ⊢
  refine enterS Tryd.func89 rfl (n := 88) rfl rfl (fun k N => ?_)
  repeat' (first | (refine r_pure hT rfl rfl rfl rfl ?_) | (refine r_new hT rfl rfl rfl rfl ?_) | (refine r_write hT rfl rfl rfl ?_) | (refine r_nil ?_) | (refine q_nil ?_) | ((refine r_call c1 rfl rfl rfl rfl rfl (hC _ rfl) rfl rfl (fun y0 u1 hy => ?_) ; subst hy)) | ((refine r_call c2 rfl rfl rfl rfl rfl (hC _ rfl) rfl rfl (fun y0 u1 hy => ?_) ; subst hy)) | (refine r_arith rfl rfl rfl rfl rfl rfl rfl (by omega) ?_) | (with_reducible refine r_seq ?_) | (with_reducible refine x_then ?_) | (with_reducible refine r_region ?_) | (refine r_draw hM (by kernel_rfl) ?_) | (with_reducible refine r_skip ?_) | (with_reducible refine r_ret ?_) | (with_reducible refine x_then_ret ?_) | (with_reducible refine r_block ?_) | (with_reducible refine x_block ?_) | (with_reducible refine x_block_ret ?_) | (with_reducible refine r_exit ?_) | (with_reducible refine x_then_exit ?_) | (with_reducible refine x_block_here ?_) | (refine x_block_past rfl ?_) | (refine c_yes rfl (by omega) ?_) | (refine c_no rfl (by omega) ?_) | (refine c_no rfl (fun h => h rfl) ?_) | (refine r_cond_false rfl ?_) | (refine r_cond_true rfl ?_) | (refine r_cond_true rfl ?_) | (refine r_cond_false rfl ?_) | (refine r_off rfl rfl rfl ?_) | (refine q_guard rfl rfl (fun _ => ?_) (fun _ => ?_)) | (refine q_guardn rfl rfl (fun _ => ?_) (fun _ => ?_)))
  have hs2 : (pk bs 25 (pk bs 9 s).2).2 = (nD bs s).2 := rfl
  rw [hs2]
  refine r_cutD (c := .tmp 17) (γ := Unit) (p := (((pk bs 25 (pk bs 9 s).2).1 : Nat) : Int) = 0) rfl (fun _ => True) (fun _ => [(0, .v (pt0 pb)), (2, .p 2 0), (3, .v (.int .i64 ((nD bs s).1 : Int)))]) (fun _ => [(2, ⟨none, [.v (.int .i64 0), .v (.int .i64 0), .v (.string ⟨⟨[]⟩⟩), .v (.int .i64 0), .v (.slice none 0 0)], 51⟩)]) (fun _ => Wc h pb A n c (nD bs s).2) (fun h0 => ?_) (fun h0 => ?_) (fun _ _ => ?_)
  · have e : (nD bs s).1 = 200 := by rw [hnd]; exact if_pos (by omega)
    repeat' (first | (refine r_pure hT rfl rfl rfl rfl ?_) | (refine r_new hT rfl rfl rfl rfl ?_) | (refine r_write hT rfl rfl rfl ?_) | (refine r_nil ?_) | (refine q_nil ?_) | (refine r_arith rfl rfl rfl rfl rfl rfl rfl (by omega) ?_) | (with_reducible refine r_seq ?_) | (with_reducible refine x_then ?_) | (with_reducible refine r_region ?_) | (refine r_draw hM (by kernel_rfl) ?_) | (with_reducible refine r_skip ?_) | (with_reducible refine r_ret ?_) | (with_reducible refine x_then_ret ?_) | (with_reducible refine r_block ?_) | (with_reducible refine x_block ?_) | (with_reducible refine x_block_ret ?_) | (with_reducible refine r_exit ?_) | (with_reducible refine x_then_exit ?_) | (with_reducible refine x_block_here ?_) | (refine x_block_past rfl ?_) | (refine c_yes rfl (by omega) ?_) | (refine c_no rfl (by omega) ?_) | (refine c_no rfl (fun h => h rfl) ?_) | (refine r_cond_false rfl ?_) | (refine r_cond_true rfl ?_) | (refine r_cond_dec rfl (fun _ => ?_) (fun _ => ?_)) | (refine r_cond_true rfl ?_) | (refine r_cond_false rfl ?_) | (refine c_not rfl (fun _ => ?_) (fun _ => ?_)) | (refine r_off rfl rfl rfl ?_) | (refine q_guard rfl rfl (fun _ => ?_) (fun _ => ?_)) | (refine q_guardn rfl rfl (fun _ => ?_) (fun _ => ?_)))
    exact x_cut () trivial (into rfl ⟨rfl, rfl, congrArg (fun z : Nat => some (SV.v (.int .i64 (z : Int)))) e.symm, trivial⟩ ⟨rfl, trivial⟩ rfl rfl)
  · have e : (nD bs s).1 = (pk bs 9 s).1 := by rw [hnd]; exact if_neg (by omega)
    repeat' (first | (refine r_pure hT rfl rfl rfl rfl ?_) | (refine r_new hT rfl rfl rfl rfl ?_) | (refine r_write hT rfl rfl rfl ?_) | (refine r_nil ?_) | (refine q_nil ?_) | (refine r_arith rfl rfl rfl rfl rfl rfl rfl (by omega) ?_) | (with_reducible refine r_seq ?_) | (with_reducible refine x_then ?_) | (with_reducible refine r_region ?_) | (refine r_draw hM (by kernel_rfl) ?_) | (with_reducible refine r_skip ?_) | (with_reducible refine r_ret ?_) | (with_reducible refine x_then_ret ?_) | (with_reducible refine r_block ?_) | (with_reducible refine x_block ?_) | (with_reducible refine x_block_ret ?_) | (with_reducible refine r_exit ?_) | (with_reducible refine x_then_exit ?_) | (with_reducible refine x_block_here ?_) | (refine x_block_past rfl ?_) | (refine c_yes rfl (by omega) ?_) | (refine c_no rfl (by omega) ?_) | (refine c_no rfl (fun h => h rfl) ?_) | (refine r_cond_false rfl ?_) | (refine r_cond_true rfl ?_) | (refine r_cond_dec rfl (fun _ => ?_) (fun _ => ?_)) | (refine r_cond_true rfl ?_) | (refine r_cond_false rfl ?_) | (refine c_not rfl (fun _ => ?_) (fun _ => ?_)) | (refine r_off rfl rfl rfl ?_) | (refine q_guard rfl rfl (fun _ => ?_) (fun _ => ?_)) | (refine q_guardn rfl rfl (fun _ => ?_) (fun _ => ?_)))
    exact x_cut () trivial (into rfl ⟨rfl, rfl, congrArg (fun z : Nat => some (SV.v (.int .i64 (z : Int)))) e.symm, trivial⟩ ⟨rfl, trivial⟩ rfl rfl)
  clear hnd hs2
  generalize hnn : nD bs s = nn at *
  obtain ⟨m0, s0⟩ := nn
  dsimp only at *
  repeat' (first | (refine r_pure hT rfl rfl rfl rfl ?_) | (refine r_new hT rfl rfl rfl rfl ?_) | (refine r_write hT rfl rfl rfl ?_) | (refine r_nil ?_) | (refine q_nil ?_) | (refine r_arith rfl rfl rfl rfl rfl rfl rfl (by omega) ?_) | (with_reducible refine r_seq ?_) | (with_reducible refine x_then ?_) | (with_reducible refine r_region ?_) | (refine r_draw hM (by kernel_rfl) ?_) | (with_reducible refine r_skip ?_) | (with_reducible refine r_ret ?_) | (with_reducible refine x_then_ret ?_) | (with_reducible refine r_block ?_) | (with_reducible refine x_block ?_) | (with_reducible refine x_block_ret ?_) | (with_reducible refine r_exit ?_) | (with_reducible refine x_then_exit ?_) | (with_reducible refine x_block_here ?_) | (refine x_block_past rfl ?_) | (refine c_yes rfl (by omega) ?_) | (refine c_no rfl (by omega) ?_) | (refine c_no rfl (fun h => h rfl) ?_) | (refine r_cond_false rfl ?_) | (refine r_cond_true rfl ?_) | (refine r_cond_true rfl ?_) | (refine r_cond_false rfl ?_) | (refine r_off rfl rfl rfl ?_) | (refine q_guard rfl rfl (fun _ => ?_) (fun _ => ?_)) | (refine q_guardn rfl rfl (fun _ => ?_) (fun _ => ?_)))
  refine r_loop (γ := (Nat × Hp) × ((Option Addr × Nat) × (List Hd × Hp))) (fun g => g.1.1 ≤ m0 ∧ g.1.2 pb = none ∧ Gr h g.1.2 g.2.2.2 g.2.1.1 g.2.1.2 g.2.2.1 (tsD bs m0 g.1.1 s0).1)
    (fun g => [(0, .v (pt0 pb)), (2, .p 2 0), (4, .p 4 0), (3, .v (.int .i64 (m0 : Int))), (5, .v (.int .i64 (g.1.1 : Int)))])
    (fun g => [(4, ⟨none, [.v (.int .i64 0), .v (.int .i64 0), .v (.string ⟨⟨[]⟩⟩), .v (.int .i64 0), .v (.slice g.2.1.1 g.1.1 g.2.1.2)], 51⟩), (2, ⟨none, [.v (.int .i64 0), .v (.int .i64 0), .v (.string ⟨⟨[]⟩⟩), .v (.int .i64 0), .v (.slice none 0 0)], 51⟩)])
    (fun g => Wc g.1.2 pb A n c (tsD bs m0 g.1.1 s0).2) (fun g => m0 - g.1.1)
    ((0, h), ((none, 0), ([], h))) ⟨Nat.zero_le _, hX.hp, Gr.start h⟩ (into rfl ⟨rfl, rfl, rfl, rfl, rfl, trivial⟩ ⟨rfl, rfl, trivial⟩ rfl rfl) ?_
  rintro ⟨⟨i, v1⟩, ⟨⟨A2, c2'⟩, ⟨hs2, q2⟩⟩⟩ ⟨hi2, hp1, hG2⟩
  dsimp only at *
  have hts := tsD_ok bs m0 s0 i
  have hX1 := hX.le (hG2.hq.trans hG2.qu) hp1
  by_cases hlt : i < m0
  · have etb : tsD bs m0 (i + 1) s0 = ((tsD bs m0 i s0).1 ++ [(tbD bs m0 (tsD bs m0 i s0).2).1], (tbD bs m0 (tsD bs m0 i s0).2).2) := rfl
    have htb := tbD_ok bs m0 (tsD bs m0 i s0).2
    have ems : mD bs (tsD bs m0 i s0).2 = (if (pk bs 60 (pk bs 4 (tsD bs m0 i s0).2).2).1 = 0 then 100 else (pk bs 4 (tsD bs m0 i s0).2).1, (pk bs 60 (pk bs 4 (tsD bs m0 i s0).2).2).2) := rfl
    have etd : tbD bs m0 (tsD bs m0 i s0).2 = paD bs m0 (mD bs (tsD bs m0 i s0).2).1 (mD bs (tsD bs m0 i s0).2).1 (mD bs (tsD bs m0 i s0).2).2 := rfl
    have hm1 := mD_le bs (tsD bs m0 i s0).2
    have hm2 := mD_at bs (tsD bs m0 i s0).2
    have hbnd : (tsD bs m0 i s0).2.1 ≤ 3000000 := by
      have : 6000 * i ≤ 6000 * 200 := Nat.mul_le_mul_left _ (by omega)
      omega
    obtain ⟨hl1, _, _, _⟩ := hts
    generalize tsD bs m0 i s0 = ts1 at *
    obtain ⟨T1, s1⟩ := ts1
    dsimp only at *
    have a3 := pk_at bs 4 s1
    have d1 := pickF v1 pb A n c s1 bs 4 hX1 (by omega) (by omega)
    have d2 := pickF v1 pb A n c (pk bs 4 s1).2 bs 60 hX1 (by omega) (by omega)
    repeat' (first | (refine r_pure hT rfl rfl rfl rfl ?_) | (refine r_new hT rfl rfl rfl rfl ?_) | (refine r_write hT rfl rfl rfl ?_) | (refine r_nil ?_) | (refine q_nil ?_) | (refine c_yes rfl (by omega) ?_) | ((refine r_call d1 rfl rfl rfl rfl rfl (hC _ rfl) rfl rfl (fun y0 u1 hy => ?_) ; subst hy)) | ((refine r_call d2 rfl rfl rfl rfl rfl (hC _ rfl) rfl rfl (fun y0 u1 hy => ?_) ; subst hy)) | (refine r_arith rfl rfl rfl rfl rfl rfl rfl (by omega) ?_) | (with_reducible refine r_seq ?_) | (with_reducible refine x_then ?_) | (with_reducible refine r_region ?_) | (refine r_draw hM (by kernel_rfl) ?_) | (with_reducible refine r_skip ?_) | (with_reducible refine r_ret ?_) | (with_reducible refine x_then_ret ?_) | (with_reducible refine r_block ?_) | (with_reducible refine x_block ?_) | (with_reducible refine x_block_ret ?_) | (with_reducible refine r_exit ?_) | (with_reducible refine x_then_exit ?_) | (with_reducible refine x_block_here ?_) | (refine x_block_past rfl ?_) | (refine c_yes rfl (by omega) ?_) | (refine c_no rfl (by omega) ?_) | (refine c_no rfl (fun h => h rfl) ?_) | (refine r_cond_false rfl ?_) | (refine r_cond_true rfl ?_) | (refine r_cond_true rfl ?_) | (refine r_cond_false rfl ?_) | (refine r_off rfl rfl rfl ?_) | (refine q_guard rfl rfl (fun _ => ?_) (fun _ => ?_)) | (refine q_guardn rfl rfl (fun _ => ?_) (fun _ => ?_)))
    have hs3 : (pk bs 60 (pk bs 4 s1).2).2 = (mD bs s1).2 := rfl
    rw [hs3]
    refine r_cutD (c := .tmp 27) (γ := Unit) (p := (((pk bs 60 (pk bs 4 s1).2).1 : Nat) : Int) = 0) rfl (fun _ => True) (fun _ => [(0, .v (pt0 pb)), (2, .p 2 0), (4, .p 4 0), (6, .p 6 0), (3, .v (.int .i64 (m0 : Int))), (5, .v (.int .i64 (i : Int))), (7, .v (.int .i64 ((mD bs s1).1 : Int)))])
      (fun _ => [(6, ⟨none, [.v (.slice none 0 0)], 59⟩), (4, ⟨none, [.v (.int .i64 0), .v (.int .i64 0), .v (.string ⟨⟨[]⟩⟩), .v (.int .i64 0), .v (.slice A2 i c2')], 51⟩), (2, ⟨none, [.v (.int .i64 0), .v (.int .i64 0), .v (.string ⟨⟨[]⟩⟩), .v (.int .i64 0), .v (.slice none 0 0)], 51⟩)]) (fun _ => Wc v1 pb A n c (mD bs s1).2) (fun h0 => ?_) (fun h0 => ?_) (fun _ _ => ?_)
    · have e : (mD bs s1).1 = 100 := by rw [ems]; exact if_pos (by omega)
      repeat' (first | (refine r_pure hT rfl rfl rfl rfl ?_) | (refine r_new hT rfl rfl rfl rfl ?_) | (refine r_write hT rfl rfl rfl ?_) | (refine r_nil ?_) | (refine q_nil ?_) | (refine r_arith rfl rfl rfl rfl rfl rfl rfl (by omega) ?_) | (with_reducible refine r_seq ?_) | (with_reducible refine x_then ?_) | (with_reducible refine r_region ?_) | (refine r_draw hM (by kernel_rfl) ?_) | (with_reducible refine r_skip ?_) | (with_reducible refine r_ret ?_) | (with_reducible refine x_then_ret ?_) | (with_reducible refine r_block ?_) | (with_reducible refine x_block ?_) | (with_reducible refine x_block_ret ?_) | (with_reducible refine r_exit ?_) | (with_reducible refine x_then_exit ?_) | (with_reducible refine x_block_here ?_) | (refine x_block_past rfl ?_) | (refine c_yes rfl (by omega) ?_) | (refine c_no rfl (by omega) ?_) | (refine c_no rfl (fun h => h rfl) ?_) | (refine r_cond_false rfl ?_) | (refine r_cond_true rfl ?_) | (refine r_cond_dec rfl (fun _ => ?_) (fun _ => ?_)) | (refine r_cond_true rfl ?_) | (refine r_cond_false rfl ?_) | (refine c_not rfl (fun _ => ?_) (fun _ => ?_)) | (refine r_off rfl rfl rfl ?_) | (refine q_guard rfl rfl (fun _ => ?_) (fun _ => ?_)) | (refine q_guardn rfl rfl (fun _ => ?_) (fun _ => ?_)))
      exact x_cut () trivial (into rfl ⟨rfl, rfl, rfl, rfl, rfl, rfl, congrArg (fun z : Nat => some (SV.v (.int .i64 (z : Int)))) e.symm, trivial⟩ ⟨rfl, rfl, rfl, trivial⟩ rfl rfl)
    · have e : (mD bs s1).1 = (pk bs 4 s1).1 := by rw [ems]; exact if_neg (by omega)
      repeat' (first | (refine r_pure hT rfl rfl rfl rfl ?_) | (refine r_new hT rfl rfl rfl rfl ?_) | (refine r_write hT rfl rfl rfl ?_) | (refine r_nil ?_) | (refine q_nil ?_) | (refine r_arith rfl rfl rfl rfl rfl rfl rfl (by omega) ?_) | (with_reducible refine r_seq ?_) | (with_reducible refine x_then ?_) | (with_reducible refine r_region ?_) | (refine r_draw hM (by kernel_rfl) ?_) | (with_reducible refine r_skip ?_) | (with_reducible refine r_ret ?_) | (with_reducible refine x_then_ret ?_) | (with_reducible refine r_block ?_) | (with_reducible refine x_block ?_) | (with_reducible refine x_block_ret ?_) | (with_reducible refine r_exit ?_) | (with_reducible refine x_then_exit ?_) | (with_reducible refine x_block_here ?_) | (refine x_block_past rfl ?_) | (refine c_yes rfl (by omega) ?_) | (refine c_no rfl (by omega) ?_) | (refine c_no rfl (fun h => h rfl) ?_) | (refine r_cond_false rfl ?_) | (refine r_cond_true rfl ?_) | (refine r_cond_dec rfl (fun _ => ?_) (fun _ => ?_)) | (refine r_cond_true rfl ?_) | (refine r_cond_false rfl ?_) | (refine c_not rfl (fun _ => ?_) (fun _ => ?_)) | (refine r_off rfl rfl rfl ?_) | (refine q_guard rfl rfl (fun _ => ?_) (fun _ => ?_)) | (refine q_guardn rfl rfl (fun _ => ?_) (fun _ => ?_)))
      exact x_cut () trivial (into rfl ⟨rfl, rfl, rfl, rfl, rfl, rfl, congrArg (fun z : Nat => some (SV.v (.int .i64 (z : Int)))) e.symm, trivial⟩ ⟨rfl, rfl, rfl, trivial⟩ rfl rfl)
    clear ems hs3 d1 d2 a3
    generalize mD bs s1 = mm at *
    obtain ⟨m1, s2⟩ := mm
    dsimp only at *
    repeat' (first | (refine r_pure hT rfl rfl rfl rfl ?_) | (refine r_new hT rfl rfl rfl rfl ?_) | (refine r_write hT rfl rfl rfl ?_) | (refine r_nil ?_) | (refine q_nil ?_) | (refine r_arith rfl rfl rfl rfl rfl rfl rfl (by omega) ?_) | (with_reducible refine r_seq ?_) | (with_reducible refine x_then ?_) | (with_reducible refine r_region ?_) | (refine r_draw hM (by kernel_rfl) ?_) | (with_reducible refine r_skip ?_) | (with_reducible refine r_ret ?_) | (with_reducible refine x_then_ret ?_) | (with_reducible refine r_block ?_) | (with_reducible refine x_block ?_) | (with_reducible refine x_block_ret ?_) | (with_reducible refine r_exit ?_) | (with_reducible refine x_then_exit ?_) | (with_reducible refine x_block_here ?_) | (refine x_block_past rfl ?_) | (refine c_yes rfl (by omega) ?_) | (refine c_no rfl (by omega) ?_) | (refine c_no rfl (fun h => h rfl) ?_) | (refine r_cond_false rfl ?_) | (refine r_cond_true rfl ?_) | (refine r_cond_true rfl ?_) | (refine r_cond_false rfl ?_) | (refine r_off rfl rfl rfl ?_) | (refine q_guard rfl rfl (fun _ => ?_) (fun _ => ?_)) | (refine q_guardn rfl rfl (fun _ => ?_) (fun _ => ?_)))
    refine r_loop (γ := (Nat × Hp) × (Option Addr × Nat)) (fun g => g.1.1 ≤ m1 ∧ g.1.2 pb = none ∧ Le v1 g.1.2 ∧ Off v1 g.2.1 ∧ Own g.1.2 g.2.1 (paD bs m0 m1 g.1.1 s2).1.length g.2.2 61 8 ((paD bs m0 m1 g.1.1 s2).1.flatMap Pr.c))
      (fun g => [(0, .v (pt0 pb)), (2, .p 2 0), (4, .p 4 0), (6, .p 6 0), (3, .v (.int .i64 (m0 : Int))), (5, .v (.int .i64 (i : Int))), (7, .v (.int .i64 (m1 : Int))), (8, .v (.int .i64 (g.1.1 : Int)))])
      (fun g => [(6, ⟨none, [.v (.slice g.2.1 (paD bs m0 m1 g.1.1 s2).1.length g.2.2)], 59⟩), (4, ⟨none, [.v (.int .i64 0), .v (.int .i64 0), .v (.string ⟨⟨[]⟩⟩), .v (.int .i64 0), .v (.slice A2 i c2')], 51⟩), (2, ⟨none, [.v (.int .i64 0), .v (.int .i64 0), .v (.string ⟨⟨[]⟩⟩), .v (.int .i64 0), .v (.slice none 0 0)], 51⟩)])
      (fun g => Wc g.1.2 pb A n c (paD bs m0 m1 g.1.1 s2).2) (fun g => m1 - g.1.1)
      ((0, v1), (none, 0)) ⟨Nat.zero_le _, hp1, Le.refl v1, off_nil, own_nil⟩ (into rfl ⟨rfl, rfl, rfl, rfl, rfl, rfl, rfl, rfl, trivial⟩ ⟨rfl, rfl, rfl, trivial⟩ rfl rfl) ?_
    rintro ⟨⟨kk, v2⟩, ⟨Ap, cp⟩⟩ ⟨hk, hp2, hl2, hof2, hO2⟩
    dsimp only at *
    have hX2 := hX1.le hl2 hp2
    have hpa := paD_ok bs m0 m1 s2 kk (by omega)
    by_cases hltk : kk < m1
    · have enx : paD bs m0 m1 (kk + 1) s2 = nxP bs m0 m1 kk (paD bs m0 m1 kk s2) := rfl
      have hb3 : (paD bs m0 m1 kk s2).2.1 ≤ 4000000 := by
        have : 50 * kk ≤ 50 * 100 := Nat.mul_le_mul_left _ (by omega)
        omega
      obtain ⟨_, hpl, _, _⟩ := hpa
      generalize paD bs m0 m1 kk s2 = pk1 at *
      obtain ⟨t, s3⟩ := pk1
      dsimp only at *
      have ka := kyD_at bs s3
      have e1 := dkeyF v2 pb A n c s3 bs hX2 (by omega)
      have e2 := dvalF v2 pb A n c m0 (kyD bs s3).2 bs hX2 (by omega) (by omega)
      have enp : nxP bs m0 m1 kk (t, s3) = (if isK t (if m1 = 100 then inV (kk : Int) else (kyD bs s3).1) = true then t else t ++ [⟨(if m1 = 100 then inV (kk : Int) else (kyD bs s3).1), (vaD bs m0 (kyD bs s3).2).1⟩], (vaD bs m0 (kyD bs s3).2).2) := rfl
      rw [enp] at enx
      clear enp
      generalize kyD bs s3 = ky at *
      generalize vaD bs m0 ky.2 = va at *
      obtain ⟨kv, s4⟩ := ky
      obtain ⟨vv, s5⟩ := va
      dsimp only at *
      obtain ⟨key, hkey⟩ : ∃ key, key = if m1 = 100 then inV (kk : Int) else kv := ⟨_, rfl⟩
      rw [← hkey] at enx
      repeat' (first | (refine r_pure hT rfl rfl rfl rfl ?_) | (refine r_new hT rfl rfl rfl rfl ?_) | (refine r_write hT rfl rfl rfl ?_) | (refine r_nil ?_) | (refine q_nil ?_) | (refine c_yes rfl (by omega) ?_) | ((refine r_call e1 rfl rfl rfl rfl rfl (hC _ rfl) rfl rfl (fun y0 u1 hy => ?_) ; subst hy)) | ((refine r_call e2 rfl rfl rfl rfl rfl (hC _ rfl) rfl rfl (fun y0 u1 hy => ?_) ; subst hy)) | (refine r_build hT rfl rfl rfl (ps := [(0, .tmp 34), (1, .tmp 37)]) rfl rfl rfl rfl rfl rfl ?_) | (refine r_arith rfl rfl rfl rfl rfl rfl rfl (by omega) ?_) | (with_reducible refine r_seq ?_) | (with_reducible refine x_then ?_) | (with_reducible refine r_region ?_) | (refine r_draw hM (by kernel_rfl) ?_) | (with_reducible refine r_skip ?_) | (with_reducible refine r_ret ?_) | (with_reducible refine x_then_ret ?_) | (with_reducible refine r_block ?_) | (with_reducible refine x_block ?_) | (with_reducible refine x_block_ret ?_) | (with_reducible refine r_exit ?_) | (with_reducible refine x_then_exit ?_) | (with_reducible refine x_block_here ?_) | (refine x_block_past rfl ?_) | (refine c_yes rfl (by omega) ?_) | (refine c_no rfl (by omega) ?_) | (refine c_no rfl (fun h => h rfl) ?_) | (refine r_cond_false rfl ?_) | (refine r_cond_true rfl ?_) | (refine r_cond_true rfl ?_) | (refine r_cond_false rfl ?_) | (refine r_off rfl rfl rfl ?_) | (refine q_guard rfl rfl (fun _ => ?_) (fun _ => ?_)) | (refine q_guardn rfl rfl (fun _ => ?_) (fun _ => ?_)))
      refine r_cutD (c := .tmp 40) (γ := Unit) (p := (m1 : Int) = 100) rfl (fun _ => True) (fun _ => [(0, .v (pt0 pb)), (2, .p 2 0), (4, .p 4 0), (6, .p 6 0), (9, .p 9 0), (3, .v (.int .i64 (m0 : Int))), (5, .v (.int .i64 (i : Int))), (7, .v (.int .i64 (m1 : Int))), (8, .v (.int .i64 (kk : Int)))])
        (fun _ => [(9, ⟨none, (⟨key, vv⟩ : Pr).sv, 61⟩), (6, ⟨none, [.v (.slice Ap t.length cp)], 59⟩), (4, ⟨none, [.v (.int .i64 0), .v (.int .i64 0), .v (.string ⟨⟨[]⟩⟩), .v (.int .i64 0), .v (.slice A2 i c2')], 51⟩), (2, ⟨none, [.v (.int .i64 0), .v (.int .i64 0), .v (.string ⟨⟨[]⟩⟩), .v (.int .i64 0), .v (.slice none 0 0)], 51⟩)]) (fun _ => Wc v2 pb A n c s5) (fun h0 => ?_) (fun h0 => ?_) (fun _ _ => ?_)
      · have e : key = inV (kk : Int) := by rw [hkey]; exact if_pos (by omega)
        subst e
        repeat' (first | (refine r_pure hT rfl rfl rfl rfl ?_) | (refine r_new hT rfl rfl rfl rfl ?_) | (refine r_write hT rfl rfl rfl ?_) | (refine r_nil ?_) | (refine q_nil ?_) | (refine r_build hT rfl rfl rfl (ps := [(0, .const (.int .i64 2)), (1, .tmp 41)]) rfl rfl rfl rfl rfl rfl ?_) | (refine r_arith rfl rfl rfl rfl rfl rfl rfl (by omega) ?_) | (with_reducible refine r_seq ?_) | (with_reducible refine x_then ?_) | (with_reducible refine r_region ?_) | (refine r_draw hM (by kernel_rfl) ?_) | (with_reducible refine r_skip ?_) | (with_reducible refine r_ret ?_) | (with_reducible refine x_then_ret ?_) | (with_reducible refine r_block ?_) | (with_reducible refine x_block ?_) | (with_reducible refine x_block_ret ?_) | (with_reducible refine r_exit ?_) | (with_reducible refine x_then_exit ?_) | (with_reducible refine x_block_here ?_) | (refine x_block_past rfl ?_) | (refine c_yes rfl (by omega) ?_) | (refine c_no rfl (by omega) ?_) | (refine c_no rfl (fun h => h rfl) ?_) | (refine r_cond_false rfl ?_) | (refine r_cond_true rfl ?_) | (refine r_cond_dec rfl (fun _ => ?_) (fun _ => ?_)) | (refine r_cond_true rfl ?_) | (refine r_cond_false rfl ?_) | (refine c_not rfl (fun _ => ?_) (fun _ => ?_)) | (refine r_off rfl rfl rfl ?_) | (refine q_guard rfl rfl (fun _ => ?_) (fun _ => ?_)) | (refine q_guardn rfl rfl (fun _ => ?_) (fun _ => ?_)))
        exact x_cut () trivial (into rfl ⟨rfl, rfl, rfl, rfl, rfl, rfl, rfl, rfl, rfl, trivial⟩ ⟨rfl, rfl, rfl, rfl, trivial⟩ rfl rfl)
      · have e : key = kv := by rw [hkey]; exact if_neg (by omega)
        subst e
        repeat' (first | (refine r_pure hT rfl rfl rfl rfl ?_) | (refine r_new hT rfl rfl rfl rfl ?_) | (refine r_write hT rfl rfl rfl ?_) | (refine r_nil ?_) | (refine q_nil ?_) | (refine r_arith rfl rfl rfl rfl rfl rfl rfl (by omega) ?_) | (with_reducible refine r_seq ?_) | (with_reducible refine x_then ?_) | (with_reducible refine r_region ?_) | (refine r_draw hM (by kernel_rfl) ?_) | (with_reducible refine r_skip ?_) | (with_reducible refine r_ret ?_) | (with_reducible refine x_then_ret ?_) | (with_reducible refine r_block ?_) | (with_reducible refine x_block ?_) | (with_reducible refine x_block_ret ?_) | (with_reducible refine r_exit ?_) | (with_reducible refine x_then_exit ?_) | (with_reducible refine x_block_here ?_) | (refine x_block_past rfl ?_) | (refine c_yes rfl (by omega) ?_) | (refine c_no rfl (by omega) ?_) | (refine c_no rfl (fun h => h rfl) ?_) | (refine r_cond_false rfl ?_) | (refine r_cond_true rfl ?_) | (refine r_cond_dec rfl (fun _ => ?_) (fun _ => ?_)) | (refine r_cond_true rfl ?_) | (refine r_cond_false rfl ?_) | (refine c_not rfl (fun _ => ?_) (fun _ => ?_)) | (refine r_off rfl rfl rfl ?_) | (refine q_guard rfl rfl (fun _ => ?_) (fun _ => ?_)) | (refine q_guardn rfl rfl (fun _ => ?_) (fun _ => ?_)))
        exact x_cut () trivial (into rfl ⟨rfl, rfl, rfl, rfl, rfl, rfl, rfl, rfl, rfl, trivial⟩ ⟨rfl, rfl, rfl, rfl, trivial⟩ rfl rfl)
      have hPt : Pairs (Wc v2 pb A n c s5) Ap t.length t := own_pairs (hO2.le fun b o _ ho => wc_le hp2 s5 b o ho)
      repeat' (first | (refine r_pure hT rfl rfl rfl rfl ?_) | (refine r_new hT rfl rfl rfl rfl ?_) | (refine r_write hT rfl rfl rfl ?_) | (refine r_nil ?_) | (refine q_nil ?_) | (refine r_arith rfl rfl rfl rfl rfl rfl rfl (by omega) ?_) | (with_reducible refine r_seq ?_) | (with_reducible refine x_then ?_) | (with_reducible refine r_region ?_) | (refine r_draw hM (by kernel_rfl) ?_) | (with_reducible refine r_skip ?_) | (with_reducible refine r_ret ?_) | (with_reducible refine x_then_ret ?_) | (with_reducible refine r_block ?_) | (with_reducible refine x_block ?_) | (with_reducible refine x_block_ret ?_) | (with_reducible refine r_exit ?_) | (with_reducible refine x_then_exit ?_) | (with_reducible refine x_block_here ?_) | (refine x_block_past rfl ?_) | (refine c_yes rfl (by omega) ?_) | (refine c_no rfl (by omega) ?_) | (refine c_no rfl (fun h => h rfl) ?_) | (refine r_cond_false rfl ?_) | (refine r_cond_true rfl ?_) | (refine r_cond_true rfl ?_) | (refine r_cond_false rfl ?_) | (refine r_off rfl rfl rfl ?_) | (refine q_guard rfl rfl (fun _ => ?_) (fun _ => ?_)) | (refine q_guardn rfl rfl (fun _ => ?_) (fun _ => ?_)))
      refine r_loop (γ := Nat) (fun j => j ≤ t.length) (fun j => [(0, .v (pt0 pb)), (2, .p 2 0), (4, .p 4 0), (6, .p 6 0), (9, .p 9 0), (3, .v (.int .i64 (m0 : Int))), (5, .v (.int .i64 (i : Int))), (7, .v (.int .i64 (m1 : Int))), (8, .v (.int .i64 (kk : Int))), (45, .v (.slice Ap t.length cp)), (46, .v (.int .i64 (t.length : Int))), (47, .v (.int .i64 (j : Int))), (10, .v (.bool (isK (t.take j) key)))])
        (fun _ => [(9, ⟨none, (⟨key, vv⟩ : Pr).sv, 61⟩), (6, ⟨none, [.v (.slice Ap t.length cp)], 59⟩), (4, ⟨none, [.v (.int .i64 0), .v (.int .i64 0), .v (.string ⟨⟨[]⟩⟩), .v (.int .i64 0), .v (.slice A2 i c2')], 51⟩), (2, ⟨none, [.v (.int .i64 0), .v (.int .i64 0), .v (.string ⟨⟨[]⟩⟩), .v (.int .i64 0), .v (.slice none 0 0)], 51⟩)]) (fun _ => Wc v2 pb A n c s5) (fun j => t.length - j)
        0 (Nat.zero_le _) (into rfl ⟨rfl, rfl, rfl, rfl, rfl, rfl, rfl, rfl, rfl, rfl, rfl, rfl, rfl, trivial⟩ ⟨rfl, rfl, rfl, rfl, trivial⟩ rfl rfl) ?_
      intro j hj
      by_cases hltj : j < t.length
      · obtain ⟨b7, off7, p, rfl, _, hix, _, hat⟩ := hPt.elem Pr.c_len hltj
        have hsn := isK_snoc (k := key) hix
        cases hb : isK (t.take j) key with
        | true =>
          rw [hb, Bool.true_or] at hsn
          repeat' (first | (refine r_pure hT rfl rfl rfl rfl ?_) | (refine r_new hT rfl rfl rfl rfl ?_) | (refine r_write hT rfl rfl rfl ?_) | (refine r_nil ?_) | (refine q_nil ?_) | (refine r_indexN hT rfl rfl rfl rfl rfl rfl rfl rfl rfl hltj ?_) | (refine r_load hT hat rfl rfl rfl rfl rfl (Nat.add_zero _).symm rfl rfl rfl rfl rfl ?_) | (refine c_yes rfl (by omega) ?_) | (refine r_arith rfl rfl rfl rfl rfl rfl rfl (by omega) ?_) | (with_reducible refine r_seq ?_) | (with_reducible refine x_then ?_) | (with_reducible refine r_region ?_) | (refine r_draw hM (by kernel_rfl) ?_) | (with_reducible refine r_skip ?_) | (with_reducible refine r_ret ?_) | (with_reducible refine x_then_ret ?_) | (with_reducible refine r_block ?_) | (with_reducible refine x_block ?_) | (with_reducible refine x_block_ret ?_) | (with_reducible refine r_exit ?_) | (with_reducible refine x_then_exit ?_) | (with_reducible refine x_block_here ?_) | (refine x_block_past rfl ?_) | (refine c_yes rfl (by omega) ?_) | (refine c_no rfl (by omega) ?_) | (refine c_no rfl (fun h => h rfl) ?_) | (refine r_cond_false rfl ?_) | (refine r_cond_true rfl ?_) | (refine r_cond_true rfl ?_) | (refine r_cond_false rfl ?_) | (refine r_off rfl rfl rfl ?_))
          exact x_round (j + 1) hltj (by omega) (into rfl ⟨rfl, rfl, rfl, rfl, rfl, rfl, rfl, rfl, rfl, rfl, rfl, rfl, congrArg (fun z => some (SV.v (.bool z))) hsn.symm, trivial⟩ ⟨rfl, rfl, rfl, rfl, trivial⟩ rfl rfl)
        | false =>
          rw [hb, Bool.false_or] at hsn
          have heq : ∀ z, (Op.equalIn Op.maxDepth 48 (.agg p.key.c.toArray) (.agg key.c.toArray)).run Tryd.prog z = .ok (decide (p.key = key)) z := fun z => eq29f z p.key.k p.key.n p.key.s p.key.a key
          repeat' (first | (refine r_pure hT rfl rfl rfl rfl ?_) | (refine r_new hT rfl rfl rfl rfl ?_) | (refine r_write hT rfl rfl rfl ?_) | (refine r_nil ?_) | (refine q_nil ?_) | (refine r_indexN hT rfl rfl rfl rfl rfl rfl rfl rfl rfl hltj ?_) | (refine r_load hT hat rfl rfl rfl rfl rfl (Nat.add_zero _).symm rfl rfl rfl rfl rfl ?_) | (refine c_yes rfl (by omega) ?_) | (refine r_eqs heq (by kernel_rfl) (.inl rfl) rfl rfl rfl rfl rfl rfl rfl rfl ?_) | (refine r_arith rfl rfl rfl rfl rfl rfl rfl (by omega) ?_) | (with_reducible refine r_seq ?_) | (with_reducible refine x_then ?_) | (with_reducible refine r_region ?_) | (refine r_draw hM (by kernel_rfl) ?_) | (with_reducible refine r_skip ?_) | (with_reducible refine r_ret ?_) | (with_reducible refine x_then_ret ?_) | (with_reducible refine r_block ?_) | (with_reducible refine x_block ?_) | (with_reducible refine x_block_ret ?_) | (with_reducible refine r_exit ?_) | (with_reducible refine x_then_exit ?_) | (with_reducible refine x_block_here ?_) | (refine x_block_past rfl ?_) | (refine c_yes rfl (by omega) ?_) | (refine c_no rfl (by omega) ?_) | (refine c_no rfl (fun h => h rfl) ?_) | (refine r_cond_false rfl ?_) | (refine r_cond_true rfl ?_) | (refine r_cond_true rfl ?_) | (refine r_cond_false rfl ?_) | (refine r_off rfl rfl rfl ?_))
          exact x_round (j + 1) hltj (by omega) (into rfl ⟨rfl, rfl, rfl, rfl, rfl, rfl, rfl, rfl, rfl, rfl, rfl, rfl, congrArg (fun z => some (SV.v (.bool z))) hsn.symm, trivial⟩ ⟨rfl, rfl, rfl, rfl, trivial⟩ rfl rfl)
      · obtain rfl : j = t.length := by omega
        rw [List.take_length]
        cases hb : isK t key with
        | true =>
          rw [hb, if_pos rfl] at enx
          repeat' (first | (refine r_pure hT rfl rfl rfl rfl ?_) | (refine r_new hT rfl rfl rfl rfl ?_) | (refine r_write hT rfl rfl rfl ?_) | (refine r_nil ?_) | (refine q_nil ?_) | (refine c_no rfl (by omega) ?_) | (refine r_arith rfl rfl rfl rfl rfl rfl rfl (by omega) ?_) | (with_reducible refine r_seq ?_) | (with_reducible refine x_then ?_) | (with_reducible refine r_region ?_) | (refine r_draw hM (by kernel_rfl) ?_) | (with_reducible refine r_skip ?_) | (with_reducible refine r_ret ?_) | (with_reducible refine x_then_ret ?_) | (with_reducible refine r_block ?_) | (with_reducible refine x_block ?_) | (with_reducible refine x_block_ret ?_) | (with_reducible refine r_exit ?_) | (with_reducible refine x_then_exit ?_) | (with_reducible refine x_block_here ?_) | (refine x_block_past rfl ?_) | (refine c_yes rfl (by omega) ?_) | (refine c_no rfl (by omega) ?_) | (refine c_no rfl (fun h => h rfl) ?_) | (refine r_cond_false rfl ?_) | (refine r_cond_true rfl ?_) | (refine r_cond_true rfl ?_) | (refine r_cond_false rfl ?_) | (refine r_off rfl rfl rfl ?_) | (refine q_guard rfl rfl (fun _ => ?_) (fun _ => ?_)) | (refine q_guardn rfl rfl (fun _ => ?_) (fun _ => ?_)))
          have e3 : t = (paD bs m0 m1 (kk + 1) s2).1 := by rw [enx]
          have e4 : s5 = (paD bs m0 m1 (kk + 1) s2).2 := by rw [enx]
          rw [e4]
          exact x_round ((kk + 1, v2), (Ap, cp)) ⟨hltk, hp2, hl2, hof2, by dsimp only; rw [← e3]; exact hO2⟩ (by dsimp only; omega) (into rfl ⟨rfl, rfl, rfl, rfl, rfl, rfl, rfl, rfl, trivial⟩ ⟨congrArg (fun z : List Pr => some (⟨none, [.v (.slice Ap z.length cp)], 59⟩ : Blk)) e3, rfl, rfl, trivial⟩ rfl rfl)
        | false =>
          rw [hb, if_neg (by decide)] at enx
          repeat' (first | (refine r_pure hT rfl rfl rfl rfl ?_) | (refine r_new hT rfl rfl rfl rfl ?_) | (refine r_write hT rfl rfl rfl ?_) | (refine r_nil ?_) | (refine q_nil ?_) | (refine c_no rfl (by omega) ?_) | (refine r_bslice (t := 57) hT (ps := [(0, .tmp 64)]) rfl rfl rfl rfl rfl rfl rfl (by simp) rfl rfl (by decide) (fun b3 hb3 => ?_)) | (refine r_append (t := 57) hT (cs := t.flatMap Pr.c) (news := [(⟨key, vv⟩ : Pr)].flatMap Pr.c) rfl rfl rfl rfl rfl rfl rfl rfl rfl rfl rfl (own_fr (hO2.le fun b o _ ho => wc_le hp2 s5 b o ho) hb3) (sl_blk (upd_here ..) rfl) (Pr.one _) (by dsimp only; omega) (by omega) (fun A6 c6 u6 hO6 hG6 => ?_)) | (refine r_arith rfl rfl rfl rfl rfl rfl rfl (by omega) ?_) | (with_reducible refine r_seq ?_) | (with_reducible refine x_then ?_) | (with_reducible refine r_region ?_) | (refine r_draw hM (by kernel_rfl) ?_) | (with_reducible refine r_skip ?_) | (with_reducible refine r_ret ?_) | (with_reducible refine x_then_ret ?_) | (with_reducible refine r_block ?_) | (with_reducible refine x_block ?_) | (with_reducible refine x_block_ret ?_) | (with_reducible refine r_exit ?_) | (with_reducible refine x_then_exit ?_) | (with_reducible refine x_block_here ?_) | (refine x_block_past rfl ?_) | (refine c_yes rfl (by omega) ?_) | (refine c_no rfl (by omega) ?_) | (refine c_no rfl (fun h => h rfl) ?_) | (refine r_cond_false rfl ?_) | (refine r_cond_true rfl ?_) | (refine r_cond_true rfl ?_) | (refine r_cond_false rfl ?_) | (refine r_off rfl rfl rfl ?_) | (refine q_guard rfl rfl (fun _ => ?_) (fun _ => ?_)) | (refine q_guardn rfl rfl (fun _ => ?_) (fun _ => ?_)))
          obtain ⟨v3, e5, hp3, hO3, hk3⟩ := wc_app hp2 hO2 hb3 hG6 hO6
          have hk4 := hk3 v1 hl2 hof2
          subst e5
          have e3 : t ++ [(⟨key, vv⟩ : Pr)] = (paD bs m0 m1 (kk + 1) s2).1 := by rw [enx]
          have e4 : s5 = (paD bs m0 m1 (kk + 1) s2).2 := by rw [enx]
          have e6 : t.length + 1 = (paD bs m0 m1 (kk + 1) s2).1.length := by rw [← e3]; simp
          rw [e4]
          exact x_round ((kk + 1, v3), (A6, c6)) ⟨hltk, hp3, hk4.1, hk4.2, by dsimp only; rw [← e6, ← e3, List.flatMap_append]; exact hO3⟩ (by dsimp only; omega) (into rfl ⟨rfl, rfl, rfl, rfl, rfl, rfl, rfl, rfl, trivial⟩ ⟨congrArg (fun z : Nat => some (⟨none, [.v (.slice A6 z c6)], 59⟩ : Blk)) e6, rfl, rfl, trivial⟩ rfl rfl)
    · obtain rfl : kk = m1 := by omega
      rw [etd] at etb htb
      generalize paD bs m0 kk kk s2 = pk1 at *
      obtain ⟨t, s3⟩ := pk1
      dsimp only at *
      have htl := htb.2.1
      have hown : Own v1 A2 i c2' 59 1 (hs2.flatMap Hd.v) := by
        have := hG2.own
        rw [hl1] at this; exact this
      repeat' (first | (refine r_pure hT rfl rfl rfl rfl ?_) | (refine r_new hT rfl rfl rfl rfl ?_) | (refine r_write hT rfl rfl rfl ?_) | (refine r_nil ?_) | (refine q_nil ?_) | (refine c_no rfl (by omega) ?_) | (refine r_bslice (t := 49) hT (ps := [(0, .tmp 70)]) rfl rfl rfl rfl rfl rfl rfl (by simp) rfl rfl (by decide) (fun b3 hb3 => ?_)) | (refine r_append (t := 49) hT (cs := hs2.flatMap Hd.v) (news := [(⟨Ap, t.length, cp⟩ : Hd)].flatMap Hd.v) rfl rfl rfl rfl rfl rfl rfl rfl rfl rfl rfl (own_fr (hown.le fun b o _ ho => wc_le hp2 s3 b o (hl2 b o ho)) hb3) (sl_blk (upd_here ..) rfl) (heads_one _) (by dsimp only; omega) (by omega) (fun A6 c6 u6 hO6 hG6 => ?_)) | (refine r_arith rfl rfl rfl rfl rfl rfl rfl (by omega) ?_) | (with_reducible refine r_seq ?_) | (with_reducible refine x_then ?_) | (with_reducible refine r_region ?_) | (refine r_draw hM (by kernel_rfl) ?_) | (with_reducible refine r_skip ?_) | (with_reducible refine r_ret ?_) | (with_reducible refine x_then_ret ?_) | (with_reducible refine r_block ?_) | (with_reducible refine x_block ?_) | (with_reducible refine x_block_ret ?_) | (with_reducible refine r_exit ?_) | (with_reducible refine x_then_exit ?_) | (with_reducible refine x_block_here ?_) | (refine x_block_past rfl ?_) | (refine c_yes rfl (by omega) ?_) | (refine c_no rfl (by omega) ?_) | (refine c_no rfl (fun h => h rfl) ?_) | (refine r_cond_false rfl ?_) | (refine r_cond_true rfl ?_) | (refine r_cond_true rfl ?_) | (refine r_cond_false rfl ?_) | (refine r_off rfl rfl rfl ?_) | (refine q_guard rfl rfl (fun _ => ?_) (fun _ => ?_)) | (refine q_guardn rfl rfl (fun _ => ?_) (fun _ => ?_)))
      obtain ⟨v3, e5, hp3, hO3, hk3⟩ := wc_app hp2 (hown.le fun b o _ ho => hl2 b o ho) hb3 hG6 hO6
      subst e5
      have hG7 := hG2.push (t := t) hl2 (Le.refl v2) (y := ⟨Ap, t.length, cp⟩) hO2 hof2 (by rw [hl1]; exact hO3) hk3
      have e3 : T1 ++ [t] = (tsD bs m0 (i + 1) s0).1 := by rw [etb]
      have e4 : s3 = (tsD bs m0 (i + 1) s0).2 := by rw [etb]
      rw [e4]
      exact x_round ((i + 1, v3), ((A6, c6), (_, _))) ⟨hlt, hp3, by dsimp only; rw [← e3]; exact hG7⟩ (by dsimp only; omega) (into rfl ⟨rfl, rfl, rfl, rfl, rfl, trivial⟩ ⟨rfl, rfl, trivial⟩ rfl rfl)
  · obtain rfl : i = m0 := by omega
    have hbnd : (tsD bs i i s0).2.1 ≤ 3000000 := by
      have : 6000 * i ≤ 6000 * 200 := Nat.mul_le_mul_left _ (by omega)
      omega
    obtain ⟨hl1, _, _, _⟩ := hts
    generalize tsD bs i i s0 = ts1 at *
    obtain ⟨T1, s1⟩ := ts1
    dsimp only at *
    have a4 := vaD_at bs i s1
    have e1 := dvalF v1 pb A n c i s1 bs hX1 (by omega) (by omega)
    generalize vaD bs i s1 = va at *
    obtain ⟨vv, s5⟩ := va
    dsimp only at *
    have e2 := pickF v1 pb A n c s5 bs 8 hX1 (by omega) (by omega)
    have hTb := hG2.tabs
    subst hl1
    by_cases h0 : T1.length = 0
    · rw [if_pos h0]
      repeat' (first | (refine r_pure hT rfl rfl rfl rfl ?_) | (refine r_new hT rfl rfl rfl rfl ?_) | (refine r_write hT rfl rfl rfl ?_) | (refine r_nil ?_) | (refine q_nil ?_) | (refine c_no rfl (by omega) ?_) | ((refine r_call e1 rfl rfl rfl rfl rfl (hC _ rfl) rfl rfl (fun y0 u1 hy => ?_) ; subst hy)) | (refine q_guard rfl rfl (fun hx => absurd hx (by omega)) (fun _ => ?_)) | (refine r_arith rfl rfl rfl rfl rfl rfl rfl (by omega) ?_) | (with_reducible refine r_seq ?_) | (with_reducible refine x_then ?_) | (with_reducible refine r_region ?_) | (refine r_draw hM (by kernel_rfl) ?_) | (with_reducible refine r_skip ?_) | (with_reducible refine r_ret ?_) | (with_reducible refine x_then_ret ?_) | (with_reducible refine r_block ?_) | (with_reducible refine x_block ?_) | (with_reducible refine x_block_ret ?_) | (with_reducible refine r_exit ?_) | (with_reducible refine x_then_exit ?_) | (with_reducible refine x_block_here ?_) | (refine x_block_past rfl ?_) | (refine c_yes rfl (by omega) ?_) | (refine c_no rfl (by omega) ?_) | (refine c_no rfl (fun h => h rfl) ?_) | (refine r_cond_false rfl ?_) | (refine r_cond_true rfl ?_) | (refine r_cond_true rfl ?_) | (refine r_cond_false rfl ?_) | (refine r_off rfl rfl rfl ?_))
      exact r_fin hT rfl ((A2, c2') : Option Addr × Nat) rfl rfl rfl trivial rfl ⟨v1, rfl, hp1, hG2.hq.trans hG2.qu, hTb⟩
    · rw [if_neg h0]
      by_cases h8 : (pk bs 8 s5).1 = 0
      · rw [if_pos h8]
        repeat' (first | (refine r_pure hT rfl rfl rfl rfl ?_) | (refine r_new hT rfl rfl rfl rfl ?_) | (refine r_write hT rfl rfl rfl ?_) | (refine r_nil ?_) | (refine q_nil ?_) | (refine c_no rfl (by omega) ?_) | ((refine r_call e1 rfl rfl rfl rfl rfl (hC _ rfl) rfl rfl (fun y0 u1 hy => ?_) ; subst hy)) | (refine q_guard rfl rfl (fun _ => ?_) (fun hx => absurd (by omega) hx)) | ((refine r_call e2 rfl rfl rfl rfl rfl (hC _ rfl) rfl rfl (fun y0 u1 hy => ?_) ; subst hy)) | (refine r_arith rfl rfl rfl rfl rfl rfl rfl (by omega) ?_) | (with_reducible refine r_seq ?_) | (with_reducible refine x_then ?_) | (with_reducible refine r_region ?_) | (refine r_draw hM (by kernel_rfl) ?_) | (with_reducible refine r_skip ?_) | (with_reducible refine r_ret ?_) | (with_reducible refine x_then_ret ?_) | (with_reducible refine r_block ?_) | (with_reducible refine x_block ?_) | (with_reducible refine x_block_ret ?_) | (with_reducible refine r_exit ?_) | (with_reducible refine x_then_exit ?_) | (with_reducible refine x_block_here ?_) | (refine x_block_past rfl ?_) | (refine c_yes rfl (by omega) ?_) | (refine c_no rfl (by omega) ?_) | (refine c_no rfl (fun h => h rfl) ?_) | (refine r_cond_false rfl ?_) | (refine r_cond_true rfl ?_) | (refine r_cond_true rfl ?_) | (refine r_cond_false rfl ?_) | (refine r_off rfl rfl rfl ?_))
        exact r_fin hT rfl ((A2, c2') : Option Addr × Nat) rfl rfl rfl trivial rfl ⟨v1, rfl, hp1, hG2.hq.trans hG2.qu, hTb⟩
      · rw [if_neg h8]
        repeat' (first | (refine r_pure hT rfl rfl rfl rfl ?_) | (refine r_new hT rfl rfl rfl rfl ?_) | (refine r_write hT rfl rfl rfl ?_) | (refine r_nil ?_) | (refine q_nil ?_) | (refine c_no rfl (by omega) ?_) | ((refine r_call e1 rfl rfl rfl rfl rfl (hC _ rfl) rfl rfl (fun y0 u1 hy => ?_) ; subst hy)) | (refine q_guard rfl rfl (fun _ => ?_) (fun hx => absurd (by omega) hx)) | ((refine r_call e2 rfl rfl rfl rfl rfl (hC _ rfl) rfl rfl (fun y0 u1 hy => ?_) ; subst hy)) | (refine c_yes rfl (by omega) ?_) | (refine r_build hT rfl rfl rfl (ps := [(0, .const (.int .i64 4))]) rfl rfl rfl rfl rfl rfl ?_) | (refine r_arith rfl rfl rfl rfl rfl rfl rfl (by omega) ?_) | (with_reducible refine r_seq ?_) | (with_reducible refine x_then ?_) | (with_reducible refine r_region ?_) | (refine r_draw hM (by kernel_rfl) ?_) | (with_reducible refine r_skip ?_) | (with_reducible refine r_ret ?_) | (with_reducible refine x_then_ret ?_) | (with_reducible refine r_block ?_) | (with_reducible refine x_block ?_) | (with_reducible refine x_block_ret ?_) | (with_reducible refine r_exit ?_) | (with_reducible refine x_then_exit ?_) | (with_reducible refine x_block_here ?_) | (refine x_block_past rfl ?_) | (refine c_yes rfl (by omega) ?_) | (refine c_no rfl (by omega) ?_) | (refine c_no rfl (fun h => h rfl) ?_) | (refine r_cond_false rfl ?_) | (refine r_cond_true rfl ?_) | (refine r_cond_true rfl ?_) | (refine r_cond_false rfl ?_) | (refine r_off rfl rfl rfl ?_))
        exact r_fin hT rfl ((A2, c2') : Option Addr × Nat) rfl rfl rfl trivial rfl ⟨v1, rfl, hp1, hG2.hq.trans hG2.qu, hTb⟩
end Go.Proofs.YtkamfnmbidnhdaaDoor
/- The tables that a walk adds. -/
namespace Go.Sy
set_option linter.unusedVariables false
theorem goes_closed {ts : List (List Pr)} (hA : AllIn ts) (f : Nat) : ∀ (l : List Pr) (o : List Nat), (∀ p ∈ l, In ts.length p.val) → Nm ts.length o → ts.length - o.length < f → New ts o (goes ts f o l) ∧ ∀ p ∈ l, p.val.k = 4 → p.val.a.toNat ∈ goes ts f o l
  | [], o, _, _, _ => ⟨New.refl _ _, fun p hp => by cases hp⟩
  | p :: r, o, hl, hN, hf => by
    have h1 := go_closed hA f o p.val hN (hl p (.head _)) hf
    have hlen := (go_pre ts f o p.val).length_le
    have h2 := goes_closed hA f r (go ts f o p.val) (fun q hq => hl q (.tail _ hq)) (go_nm hA f o p.val hN (hl p (.head _))) (by omega)
    refine ⟨h1.trans h2.1 (goes_pre ts f r _), fun q hq h4 => ?_⟩
    rcases List.mem_cons.1 hq with rfl | hq
    · obtain ⟨f', rfl⟩ : ∃ f', f = f' + 1 := ⟨f - 1, by omega⟩
      exact (goes_pre ts _ r _).subset (go_mem ts f' o q.val h4)
    · exact h2.2 q hq h4
def cNew (ts : List (List Pr)) (ord O : List Nat) : List (List Pr) := (O.drop ord.length).map fun a => (ts.getD a []).map (nPr O)
theorem cNew_refl (ts : List (List Pr)) (O : List Nat) : cNew ts O O = [] := by simp [cNew]
theorem cNew_nil (ts : List (List Pr)) (O : List Nat) : cNew ts [] O = cTs ts O := by simp [cNew, cTs]
theorem mem_drop_new {a : Nat} {ord b : List Nat} (hn : b.Nodup) (hp : ord <+: b) (ha : a ∈ b.drop ord.length) : a ∉ ord := by
  obtain ⟨e, rfl⟩ := hp
  rw [List.drop_left' rfl] at ha
  exact fun h => (List.nodup_append.1 hn).2.2 a h a ha rfl
theorem nPr_pre {b c : List Nat} (hp : b <+: c) {t : List Pr} (h : ∀ p ∈ t, p.val.k = 4 → p.val.a.toNat ∈ b) : t.map (nPr c) = t.map (nPr b) :=
  List.map_congr_left fun p hpt => by unfold nPr; rw [ren_pre hp (h p hpt)]
theorem cNew_trans {ts : List (List Pr)} {ord b c : List Nat} (h1 : ord <+: b) (h2 : b <+: c) (hN : Nm ts.length b) (hcl : New ts ord b) : cNew ts ord c = cNew ts ord b ++ cNew ts b c := by
  have hl := h1.length_le
  obtain ⟨e, he⟩ := h2
  have hd : c.drop ord.length = b.drop ord.length ++ c.drop b.length := by
    rw [← he, List.drop_append_of_le_length hl, List.drop_left' rfl]
  unfold cNew
  rw [hd, List.map_append]
  congr 1
  refine List.map_congr_left fun a ha => ?_
  have hab : a ∈ b := List.mem_of_mem_drop ha
  have hlt := hN.lt a hab
  rw [List.getD_eq_getElem?_getD, List.getElem?_eq_getElem hlt]
  exact nPr_pre ⟨e, he⟩ (fun p hp h4 => hcl a hab (mem_drop_new hN.nodup h1 ha) _ (List.getElem?_eq_getElem hlt) p hp h4)
theorem cNew_new {ts : List (List Pr)} {ord O : List Nat} {a : Nat} {t : List Pr} (h : ord ++ [a] <+: O) (ht : ts[a]? = some t) : cNew ts ord O = t.map (nPr O) :: cNew ts (ord ++ [a]) O := by
  obtain ⟨e, rfl⟩ := h
  unfold cNew
  have h1 : (ord ++ [a] ++ e).drop ord.length = a :: e := by rw [List.append_assoc, List.drop_left' rfl]; rfl
  have h2 : (ord ++ [a] ++ e).drop (ord ++ [a]).length = e := List.drop_left' rfl
  rw [h1, h2, List.map_cons, List.getD_eq_getElem?_getD, ht]
  rfl
theorem goes_nPr {ts : List (List Pr)} (hA : AllIn ts) {f : Nat} {t : List Pr} {j : Nat} {p : Pr} {o : List Nat} (hp : t[j]? = some p) : goes ts f o (t.take (j + 1)) = go ts f (goes ts f o (t.take j)) p.val := by
  have : t.take (j + 1) = t.take j ++ [p] := by rw [List.take_add_one, hp]; rfl
  rw [this, goes_snoc]
end Go.Sy
/- What impl.Canon's walk holds. -/
namespace Go.Proofs.YtkamfnmbidnhdaaDoor
open Go.Sy
set_option maxRecDepth 100000
set_option maxHeartbeats 4000000
set_option linter.unusedVariables false
set_option linter.unusedSimpArgs false
def gCells (v : V) (A : Option Addr) (n c : Nat) : List Value := [.int .i64 v.k, .int .i64 v.n, .string v.s, .int .i64 v.a, .slice A n c]
def ptr (b : Nat) : Value := .pointer (some ⟨b, 0, none⟩)
/-- The blocks of the tables. -/
def OS (Aq : Option Addr) (hs : List Hd) : Nat → Prop := fun b => blk Aq = some b ∨ ∃ x ∈ hs, blk x.A = some b
def CS (g p4 : Nat) (Aq : Option Addr) (hs : List Hd) : Nat → Prop := fun b => b = g ∨ b = p4 ∨ OS Aq hs b
structure CSt (h0 u : Hp) (p3 p4 p1 p5 g : Nat) (gr : V) (A : Option Addr) (c : Nat) (ts : List (List Pr)) (m : List (Int × Int)) (Aq : Option Addr) (cq : Nat) (hs : List Hd) (tabs : List (List Pr)) (ord : List Nat) : Prop where
  map : MAt Tryd.prog iKey u g m
  keys : ∀ a : Nat, mhas m (a : Int) = decide (a ∈ ord) ∧ (a ∈ ord → mget m (a : Int) = (ord.idxOf a : Int))
  out : u p4 = some (.cells (gCells V0 Aq ord.length cq).toArray 51 (0, 0))
  ot : OT u 59 61 Aq ord.length cq hs tabs
  base : Le h0 u
  off : ∀ b, CS g p4 Aq hs b → h0 b = none
  c3 : h0 p3 = some (.cells [Value.map (some g)].toArray 90 (0, 0))
  c1 : h0 p1 = some (.cells (gCells gr A ts.length c).toArray 51 (0, 0))
  c5 : h0 p5 = some (.cells [Value.func (.func 108) ⟨[]⟩ ⟨[ptr p3, ptr p4, ptr p1, ptr p5]⟩].toArray 103 (0, 0))
  ap : g ≠ p4 ∧ ¬ OS Aq hs g ∧ ¬ OS Aq hs p4
  tabs : Tabs h0 A ts.length ts
theorem at_of {u : Hp} {b : Nat} {cs : List Value} {t : TypeId} {fr : Nat × Nat} (h : u b = some (.cells cs.toArray t fr)) : At u b 0 cs := ⟨_, _, _, h, fun j v hj => by simpa using hj⟩
theorem orows_live {u : Hp} {eT eP : TypeId} {Aq : Option Addr} {n cq : Nat} {hs : List Hd} {tabs : List (List Pr)} (h : OT u eT eP Aq n cq hs tabs) {b : Nat} (hb : OS Aq hs b) : u b ≠ none := by
  rcases hb with hb | ⟨x, hx, hb⟩
  · exact h.own.live hb
  · exact h.rows.live hx hb
/-- The row of tables grows by an empty one. -/
theorem OT_push {u u' : Hp} {Aq A' : Option Addr} {n cq c' : Nat} {hs : List Hd} {tabs : List (List Pr)} (h : OT u 59 61 Aq n cq hs tabs) (hO : Own u' A' (n + 1) c' 59 1 (hs.flatMap Hd.v ++ Hd.v ⟨none, 0, 0⟩))
    (hk : ∀ b o, u b = some o → blk Aq ≠ some b → u' b = some o ∧ blk A' ≠ some b) : OT u' 59 61 A' (n + 1) c' (hs ++ [⟨none, 0, 0⟩]) (tabs ++ [[]]) := by
  have hne : ∀ b, (∃ x ∈ hs, blk x.A = some b) → blk Aq ≠ some b := fun b ⟨x, hx, hb⟩ e => by
    obtain ⟨i, hi, ex⟩ := List.getElem_of_mem hx
    exact (h.rows.apart i x b (by rw [List.getElem?_eq_getElem hi, ex]) hb).1 e
  have hl : ∀ b o, (∃ x ∈ hs, blk x.A = some b) → u b = some o → u' b = some o := fun b o hb ho => (hk b o ho (hne b hb)).1
  refine ⟨by have := h.num; simp; omega, by rw [List.flatMap_append]; simpa using hO, ?_⟩
  have h1 : ORows u 61 (blk A') hs tabs := ⟨h.rows.len, h.rows.rows, fun i x b hx hb => ⟨fun e => by
    have hxm : x ∈ hs := List.mem_of_getElem? hx
    cases ho : u b with
    | none => exact absurd ho (h.rows.live hxm hb)
    | some o => exact (hk b o ho (hne b ⟨x, hxm, hb⟩)).2 e, (h.rows.apart i x b hx hb).2⟩⟩
  exact h1.snoc hl (y := ⟨none, 0, 0⟩) (t := []) rfl own_nil (fun b hb => by simp [blk] at hb)
/-- A header is set: an empty table becomes a full one. -/
theorem OT_put {u u' : Hp} {b off n cq : Nat} {hs : List Hd} {pre post : List (List Pr)} {t : List Pr} {y : Hd} (h : OT u 59 61 (some ⟨b, off, none⟩) n cq hs (pre ++ [] :: post)) (hy : y.n = t.length)
    (hO : Own u' (some ⟨b, off, none⟩) n cq 59 1 (setL (hs.flatMap Hd.v) (pre.length * 1) (Hd.v y))) (hu : ∀ x, x ≠ b → u' x = u x) (hOy : Own u y.A y.n y.c 61 8 (t.flatMap Pr.c)) (hap : ∀ x, blk y.A = some x → ¬ OS (some ⟨b, off, none⟩) hs x) :
    OT u' 59 61 (some ⟨b, off, none⟩) n cq (hs.set pre.length y) (pre ++ t :: post) := by
  have hlen := h.rows.len
  simp at hlen
  have hpl : pre.length < hs.length := by omega
  have hfl : setL (hs.flatMap Hd.v) (pre.length * 1) (Hd.v y) = (hs.set pre.length y).flatMap Hd.v := by
    rw [Nat.mul_one]
    have e : ∀ l : List Hd, l.flatMap Hd.v = l.map fun x => Value.slice x.A x.n x.c := fun l => by
      induction l with
      | nil => rfl
      | cons a r ih => simp [Hd.v, ih]
    rw [e, e, List.map_set]
    apply List.ext_getElem?
    intro j
    rw [setL_get _ _ _ (by simp [Hd.v]; omega), List.getElem?_set]
    by_cases hj : j = pre.length
    · subst hj
      rw [if_pos (by simp [Hd.v]), if_pos rfl, if_pos (by simpa using hpl)]
      simp [Hd.v]
    · rw [if_neg (by simp [Hd.v]; omega), if_neg (fun e => hj e.symm)]
  have hkeep : ∀ x o, x ≠ b → u x = some o → u' x = some o := fun x o hx ho => by rw [hu x hx]; exact ho
  refine ⟨by have := h.num; simp at this ⊢; omega, by rw [← hfl]; exact hO, ⟨by simp [hlen], fun i x s hx hs' => ?_, fun i x d hx hd => ?_⟩⟩
  · by_cases hi : i = pre.length
    · subst hi
      rw [List.getElem?_set, if_pos rfl, if_pos hpl] at hx
      have e := Option.some.inj hx; subst e
      simp at hs'; subst hs'
      exact ⟨hy, hOy.le fun d o hd ho => hkeep d o (fun e => hap d hd (.inl (by rw [e]; rfl))) ho⟩
    · rw [List.getElem?_set, if_neg (fun e => hi e.symm)] at hx
      have hs2 : (pre ++ [] :: post)[i]? = some s := by
        rw [List.getElem?_append] at hs' ⊢
        split
        · rename_i hlt; rw [if_pos hlt] at hs'; exact hs'
        · rename_i hlt; rw [if_neg hlt] at hs'
          rw [List.getElem?_cons] at hs' ⊢
          have : i - pre.length ≠ 0 := by omega
          rw [if_neg this] at hs' ⊢; exact hs'
      obtain ⟨g1, g2⟩ := h.rows.rows i x s hx hs2
      exact ⟨g1, g2.le fun d o hd ho => hkeep d o (fun e => (h.rows.apart i x d hx hd).1 (by rw [e]; rfl)) ho⟩
  · by_cases hi : i = pre.length
    · subst hi
      rw [List.getElem?_set, if_pos rfl, if_pos hpl] at hx
      have e := Option.some.inj hx; subst e
      have hn := hap d hd
      refine ⟨fun e => hn (.inl e), fun j z hz hzd => ?_⟩
      rw [List.getElem?_set] at hz
      split at hz
      · assumption
      · exact absurd (.inr ⟨z, List.mem_of_getElem? hz, hzd⟩) hn
    · rw [List.getElem?_set, if_neg (fun e => hi e.symm)] at hx
      obtain ⟨g1, g2⟩ := h.rows.apart i x d hx hd
      refine ⟨g1, fun j z hz hzd => ?_⟩
      rw [List.getElem?_set] at hz
      split at hz
      · rename_i e
        have e := Option.some.inj hz; subst e
        exact absurd (.inr ⟨x, List.mem_of_getElem? hx, hd⟩) (hap d hzd)
      · exact g2 j z hz hzd
/-- One table more is met. -/
theorem CSt_push {h0 u u1 u3 : Hp} {p3 p4 p1 p5 g : Nat} {gr : V} {A : Option Addr} {c : Nat} {ts : List (List Pr)} {m : List (Int × Int)} {Aq A' : Option Addr} {cq c' : Nat} {hs : List Hd} {tabs : List (List Pr)} {ord : List Nat} {a b2 : Nat} {o2 : Obj}
    (h : CSt h0 u p3 p4 p1 p5 g gr A c ts m Aq cq hs tabs ord) (hn : a ∉ ord) (hM : MAt Tryd.prog iKey u1 g (mset m (a : Int) (ord.length : Int))) (hu1 : ∀ x, x ≠ g → u1 x = u x) (hb2 : u1 b2 = none)
    (hO : Own u3 A' (ord.length + 1) c' 59 1 (hs.flatMap Hd.v ++ Hd.v ⟨none, 0, 0⟩)) (hG : Grown (upd u1 b2 o2) u3 Aq A') :
    u3 p4 = some (.cells (gCells V0 Aq ord.length cq).toArray 51 (0, 0)) ∧
    CSt h0 (upd u3 p4 (.cells (gCells V0 A' (ord.length + 1) c').toArray 51 (0, 0))) p3 p4 p1 p5 g gr A c ts (mset m (a : Int) (ord.length : Int)) A' c' (hs ++ [⟨none, 0, 0⟩]) (tabs ++ [[]]) (ord ++ [a]) ∧
    Keep u (CS g p4 Aq hs) (upd u3 p4 (.cells (gCells V0 A' (ord.length + 1) c').toArray 51 (0, 0))) (CS g p4 A' (hs ++ [⟨none, 0, 0⟩])) := by
  have hK := hG.keep
  have k1 : ∀ x o, u1 x = some o → blk Aq ≠ some x → u3 x = some o ∧ blk A' ≠ some x := fun x o hx hb => hK x o (by rw [upd_ne (fun e => by subst e; rw [hb2] at hx; cases hx)]; exact hx) hb
  obtain ⟨og, hg1, hg2⟩ := hM
  obtain ⟨e1, e2⟩ := k1 g og hg1 (fun e => h.ap.2.1 (.inl e))
  have ho1 := (hu1 p4 (Ne.symm h.ap.1)).trans h.out
  obtain ⟨e3, e4⟩ := k1 p4 _ ho1 (fun e => h.ap.2.2 (.inl e))
  have hos : ∀ b, OS A' (hs ++ [⟨none, 0, 0⟩]) b → blk A' = some b ∨ ∃ x ∈ hs, blk x.A = some b := fun b hb => by
    rcases hb with hb | ⟨x, hx, hb⟩
    · exact .inl hb
    · rcases List.mem_append.1 hx with hx | hx
      · exact .inr ⟨x, hx, hb⟩
      · rw [List.mem_singleton] at hx; subst hx; simp [blk] at hb
  have kk : Keep u (CS g p4 Aq hs) (upd u3 p4 (.cells (gCells V0 A' (ord.length + 1) c').toArray 51 (0, 0))) (CS g p4 A' (hs ++ [⟨none, 0, 0⟩])) := fun x o hx hs' => by
    simp only [CS, OS, not_or] at hs'
    obtain ⟨d1, d2⟩ := k1 x o (by rw [hu1 x hs'.1]; exact hx) hs'.2.2.1
    refine ⟨by rw [upd_ne hs'.2.1]; exact d1, fun hc => ?_⟩
    rcases hc with hc | hc | hc
    · exact hs'.1 hc
    · exact hs'.2.1 hc
    · rcases hos x hc with hc | hc
      · exact d2 hc
      · exact hs'.2.2.2 hc
  obtain ⟨f1, f2⟩ := kk.le h.base h.off
  have hot : OT u3 59 61 A' (ord.length + 1) c' (hs ++ [⟨none, 0, 0⟩]) (tabs ++ [[]]) := OT_push (u := u1) (h.ot.keep fun b o hb ho => by rw [hu1 b (fun e => by subst e; exact h.ap.2.1 hb)]; exact ho) hO k1
  refine ⟨e3, ⟨⟨og, by rw [upd_ne h.ap.1]; exact e1, hg2⟩, fun x => ?_, by rw [upd_here]; simp, ?_, f1, f2, h.c3, h.c1, h.c5, ⟨h.ap.1, fun hc => ?_, fun hc => ?_⟩, h.tabs⟩, kk⟩
  · have hca : ((x : Int) = (a : Int)) ↔ x = a := by omega
    rw [mhas_mset, mget_mset, (h.keys x).1]
    refine ⟨?_, fun hx => ?_⟩
    · rw [Bool.eq_iff_iff]; simp [hca, or_comm]
    · by_cases hxa : x = a
      · subst hxa
        rw [if_pos rfl, List.idxOf_append, if_neg hn]; simp
      · rw [if_neg (fun e => hxa (hca.1 e))]
        have hxo : x ∈ ord := by simpa [hxa] using hx
        rw [(h.keys x).2 hxo, List.idxOf_append, if_pos hxo]
  · have hl : (ord ++ [a]).length = ord.length + 1 := by simp
    rw [hl]
    refine hot.keep fun b o hb ho => ?_
    rw [upd_ne (fun e => ?_)]
    · exact ho
    · subst e
      rcases hos b hb with hc | hc
      · exact e4 hc
      · exact h.ap.2.2 (.inr hc)
  · rcases hos g hc with hc | hc
    · exact e2 hc
    · exact h.ap.2.1 (.inr hc)
  · rcases hos p4 hc with hc | hc
    · exact e4 hc
    · exact h.ap.2.2 (.inr hc)
theorem CSt_live {h0 u : Hp} {p3 p4 p1 p5 g : Nat} {gr : V} {A : Option Addr} {c : Nat} {ts : List (List Pr)} {m : List (Int × Int)} {Aq : Option Addr} {cq : Nat} {hs : List Hd} {tabs : List (List Pr)} {ord : List Nat}
    (h : CSt h0 u p3 p4 p1 p5 g gr A c ts m Aq cq hs tabs ord) {b : Nat} (hb : CS g p4 Aq hs b) : ∃ o, u b = some o := by
  rcases hb with rfl | rfl | hb
  · obtain ⟨o, h1, _⟩ := h.map; exact ⟨o, h1⟩
  · exact ⟨_, h.out⟩
  · exact Option.ne_none_iff_exists'.1 (orows_live h.ot hb)
theorem CSt_keep {h0 u u' : Hp} {p3 p4 p1 p5 g : Nat} {gr : V} {A : Option Addr} {c : Nat} {ts : List (List Pr)} {m : List (Int × Int)} {Aq : Option Addr} {cq : Nat} {hs : List Hd} {tabs : List (List Pr)} {ord : List Nat}
    (h : CSt h0 u p3 p4 p1 p5 g gr A c ts m Aq cq hs tabs ord) (hb : Le h0 u') (hu : ∀ b o, CS g p4 Aq hs b → u b = some o → u' b = some o) : CSt h0 u' p3 p4 p1 p5 g gr A c ts m Aq cq hs tabs ord := by
  obtain ⟨o, h1, h2⟩ := h.map
  exact ⟨⟨o, hu _ _ (.inl rfl) h1, h2⟩, h.keys, hu _ _ (.inr (.inl rfl)) h.out, h.ot.keep fun b o hb ho => hu b o (.inr (.inr hb)) ho, hb, h.off, h.c3, h.c1, h.c5, h.ap, h.tabs⟩
/-- The table that was empty is put in. -/
theorem CSt_put {h0 u u' : Hp} {p3 p4 p1 p5 g : Nat} {gr : V} {A : Option Addr} {c : Nat} {ts : List (List Pr)} {m : List (Int × Int)} {b off cq : Nat} {hs : List Hd} {pre post : List (List Pr)} {t : List Pr} {y : Hd} {ord : List Nat}
    (h : CSt h0 u p3 p4 p1 p5 g gr A c ts m (some ⟨b, off, none⟩) cq hs (pre ++ [] :: post) ord) (hy : y.n = t.length)
    (hO : Own u' (some ⟨b, off, none⟩) ord.length cq 59 1 (setL (hs.flatMap Hd.v) (pre.length * 1) (Hd.v y))) (hu : ∀ x, x ≠ b → u' x = u x) (hOy : Own u y.A y.n y.c 61 8 (t.flatMap Pr.c)) (hap : ∀ x, blk y.A = some x → h0 x = none ∧ ¬ CS g p4 (some ⟨b, off, none⟩) hs x) :
    CSt h0 u' p3 p4 p1 p5 g gr A c ts m (some ⟨b, off, none⟩) cq (hs.set pre.length y) (pre ++ t :: post) ord ∧
    Keep u (fun x => CS g p4 (some ⟨b, off, none⟩) hs x ∨ blk y.A = some x) u' (CS g p4 (some ⟨b, off, none⟩) (hs.set pre.length y)) := by
  have hos : ∀ x, OS (some ⟨b, off, none⟩) (hs.set pre.length y) x → OS (some ⟨b, off, none⟩) hs x ∨ blk y.A = some x := fun x hx => by
    rcases hx with hx | ⟨z, hz, hx⟩
    · exact .inl (.inl hx)
    · rcases List.mem_or_eq_of_mem_set hz with hz | rfl
      · exact .inl (.inr ⟨z, hz, hx⟩)
      · exact .inr hx
  have hcs : ∀ x, CS g p4 (some ⟨b, off, none⟩) (hs.set pre.length y) x → CS g p4 (some ⟨b, off, none⟩) hs x ∨ blk y.A = some x := fun x hx => by
    rcases hx with hx | hx | hx
    · exact .inl (.inl hx)
    · exact .inl (.inr (.inl hx))
    · rcases hos x hx with hx | hx
      · exact .inl (.inr (.inr hx))
      · exact .inr hx
  have hbo : OS (some ⟨b, off, none⟩) hs b := .inl rfl
  have hb0 : h0 b = none := h.off b (.inr (.inr hbo))
  have hgb : g ≠ b := fun e => h.ap.2.1 (e ▸ hbo)
  have hpb : p4 ≠ b := fun e => h.ap.2.2 (e ▸ hbo)
  obtain ⟨o, h1, h2⟩ := h.map
  refine ⟨⟨⟨o, (hu g hgb).trans h1, h2⟩, h.keys, (hu p4 hpb).trans h.out, OT_put h.ot hy hO hu hOy (fun x hx hc => (hap x hx).2 (.inr (.inr hc))), fun x o hx => ?_, fun x hx => ?_, h.c3, h.c1, h.c5, ⟨h.ap.1, fun hc => ?_, fun hc => ?_⟩, h.tabs⟩, fun x o hx hs' => ?_⟩
  · rw [hu x (fun e => by subst e; rw [hb0] at hx; cases hx)]; exact h.base x o hx
  · rcases hcs x hx with hx | hx
    · exact h.off x hx
    · exact (hap x hx).1
  · rcases hos g hc with hc | hc
    · exact h.ap.2.1 hc
    · exact (hap g hc).2 (.inl rfl)
  · rcases hos p4 hc with hc | hc
    · exact h.ap.2.2 hc
    · exact (hap p4 hc).2 (.inr (.inl rfl))
  · simp only [not_or] at hs'
    refine ⟨by rw [hu x (fun e => by subst e; exact hs'.1 (.inr (.inr hbo)))]; exact hx, fun hc => ?_⟩
    rcases hcs x hc with hc | hc
    · exact hs'.1 hc
    · exact hs'.2 hc
end Go.Proofs.YtkamfnmbidnhdaaDoor
