/- The walk by a symbolic frame (SyDzX24): contracts of functions; each with its own conditions as hypotheses. -/
import Derived.Test.YtkamfnmbidnhdaaDoorSyDT
set_option linter.unusedVariables false
set_option linter.unusedSimpArgs false
set_option linter.unusedSectionVars false
namespace Go.Proofs.YtkamfnmbidnhdaaDoor
open Go.Sy
set_option maxRecDepth 100000
set_option linter.unusedVariables false
def szVf (s : ByteArray) (l : Int) : Int := if l - s.size < 0 then -1 else l - s.size
def szPf (p : Pr) (l : Int) : Int := if szVf p.key.s l < 0 then -1 else if szVf p.val.s (szVf p.key.s l) < 0 then -1 else szVf p.val.s (szVf p.key.s l)
def szPsf : List Pr → Int → Int
  | [], l => l
  | p :: r, l => if szPf p l < 0 then -1 else szPsf r (szPf p l)
theorem szVf_le (s : ByteArray) (l : Int) (h : 0 ≤ l) : -1 ≤ szVf s l ∧ szVf s l ≤ l := by unfold szVf; split <;> omega
theorem szPf_le (p : Pr) (l : Int) (h : 0 ≤ l) : -1 ≤ szPf p l ∧ szPf p l ≤ l := by
  have h1 := szVf_le p.key.s l h
  unfold szPf
  split
  · omega
  · rename_i h2
    have h3 := szVf_le p.val.s (szVf p.key.s l) (by omega)
    split <;> omega
theorem szVal (v : V) (l : Int) (h : Hp) (h0 : 0 ≤ l) (h1 : l ≤ 1048576) (hs : v.s.size ≤ 9223372036854775807) : Pur Tryd.prog 61 [.ag v.sv, .v (.int .i64 l)] h (fun y : Int => .v (.int .i64 y)) (szVf v.s l) := by
  refine enterS Tryd.func61 rfl (n := 13) rfl rfl (fun k N => ?_)
  repeat (any_goals (first | refine r_seq ?_ | refine r_region ?_ | refine r_nil ?_ | refine x_then ?_ | refine r_pure hT rfl rfl rfl rfl ?_ | refine r_new hT rfl rfl rfl rfl ?_ | refine r_write hT rfl rfl rfl ?_ | refine r_ret ?_ | refine x_then_ret ?_ | refine r_skip ?_ | refine r_cond_dec rfl (fun _ => ?_) (fun _ => ?_) | refine r_arith rfl rfl rfl rfl rfl rfl rfl (by omega) ?_ | refine r_fin hT rfl _ rfl rfl rfl trivial rfl ?_))
  · exact ⟨by unfold szVf; rw [if_pos (by assumption)], rfl⟩
  · exact ⟨by unfold szVf; rw [if_neg (by assumption)], rfl⟩
theorem szPair (p : Pr) (l : Int) (h : Hp) (h0 : 0 ≤ l) (h1 : l ≤ 1048576) (hk : p.key.s.size ≤ 9223372036854775807) (hv : p.val.s.size ≤ 9223372036854775807) : Pur Tryd.prog 161 [.ag p.sv, .v (.int .i64 l)] h (fun y : Int => .v (.int .i64 y)) (szPf p l) := by
  have g1 := szVf_le p.key.s l h0
  refine enterS Tryd.func161 rfl (n := 18) rfl rfl (fun k N => ?_)
  repeat (any_goals (first | refine r_seq ?_ | refine r_region ?_ | refine r_nil ?_ | refine x_then ?_ | refine r_pure hT rfl rfl rfl rfl ?_ | refine r_new hT rfl rfl rfl rfl ?_ | refine r_write hT rfl rfl rfl ?_ | refine r_ret ?_ | refine x_then_ret ?_ | refine r_skip ?_ | refine r_cond_dec rfl (fun _ => ?_) (fun _ => ?_) | refine r_arith rfl rfl rfl rfl rfl rfl rfl (by omega) ?_ | refine r_fin hT rfl _ rfl rfl rfl trivial rfl ?_ | (refine r_call (szVal p.key l _ h0 h1 hk) rfl rfl rfl rfl rfl (hC _ rfl) rfl rfl ?_; rintro y u' ⟨rfl, rfl⟩) | (refine r_call (szVal p.val (szVf p.key.s l) _ (by omega) (by omega) hv) rfl rfl rfl rfl rfl (hC _ rfl) rfl rfl ?_; rintro y u' ⟨rfl, rfl⟩)))
  all_goals (refine ⟨?_, rfl⟩; unfold szPf; simp [*])
end Go.Proofs.YtkamfnmbidnhdaaDoor
namespace Go.Proofs.YtkamfnmbidnhdaaDoor
open Go.Sy
set_option maxRecDepth 100000
set_option maxHeartbeats 4000000
set_option linter.unusedVariables false
def szPairsF (ps : List Pr) (l : Int) : Int := if l - ps.length < 0 then -1 else szPsf ps (l - ps.length)
theorem szPairS (ps : List Pr) (A : Option Addr) (n c : Nat) (l : Int) (h : Hp) (hP : Pairs h A n ps) (hok : okPs ps) (h0 : 0 ≤ l) (h1 : l ≤ 1048576) :
    Pur Tryd.prog 134 [.v (.slice A n c), .v (.int .i64 l)] h (fun y : Int => .v (.int .i64 y)) (szPairsF ps l) := by
  obtain ⟨hl, hel⟩ := hok
  have hn := hP.1
  refine enterS Tryd.func134 rfl (n := 27) rfl rfl (fun k N => ?_)
  repeat' (first | (refine r_pure hT rfl rfl rfl rfl ?_) | (refine r_new hT rfl rfl rfl rfl ?_) | (refine r_write hT rfl rfl rfl ?_) | (refine r_nil ?_) | (refine q_nil ?_) | (refine r_arith rfl rfl rfl rfl rfl rfl rfl (by omega) ?_) | (with_reducible refine r_seq ?_) | (with_reducible refine x_then ?_) | (with_reducible refine r_region ?_) | (refine r_draw hM (by kernel_rfl) ?_) | (with_reducible refine r_skip ?_) | (with_reducible refine r_ret ?_) | (with_reducible refine x_then_ret ?_) | (with_reducible refine r_block ?_) | (with_reducible refine x_block ?_) | (with_reducible refine x_block_ret ?_) | (with_reducible refine r_exit ?_) | (with_reducible refine x_then_exit ?_) | (with_reducible refine x_block_here ?_) | (refine x_block_past rfl ?_) | (refine c_yes rfl (by omega) ?_) | (refine c_no rfl (by omega) ?_) | (refine c_no rfl (fun h => h rfl) ?_) | (refine r_cond_false rfl ?_) | (refine r_cond_true rfl ?_) | (refine r_cond_dec rfl (fun _ => ?_) (fun _ => ?_)) | (refine r_cond_true rfl ?_) | (refine r_cond_false rfl ?_) | (refine c_not rfl (fun _ => ?_) (fun _ => ?_)) | (refine r_off rfl rfl rfl ?_) | (refine q_guard rfl rfl (fun _ => ?_) (fun _ => ?_)) | (refine q_guardn rfl rfl (fun _ => ?_) (fun _ => ?_)))
  · exact r_fin hT rfl _ rfl rfl rfl trivial rfl ⟨by unfold szPairsF; rw [if_pos (by omega)], rfl⟩
  refine r_loop (γ := Nat × Int) (fun g => g.1 ≤ ps.length ∧ 0 ≤ g.2 ∧ g.2 ≤ 1048576 ∧ szPsf (ps.drop g.1) g.2 = szPairsF ps l) (fun g => [(0, .v (.slice A n c)), (1, .v (.int .i64 g.2)), (5, .v (.int .i64 g.1))]) (fun _ => []) (fun _ => h) (fun g => ps.length - g.1)
    (0, l - n) ⟨by omega, by omega, by omega, by unfold szPairsF; rw [if_neg (by omega), hn]; rfl⟩ (into rfl ⟨rfl, rfl, rfl, trivial⟩ trivial rfl rfl) ?_
  rintro ⟨i, x⟩ ⟨hi, hx0, hx1, hf⟩
  dsimp only at *
  by_cases hlt : i < ps.length
  · obtain ⟨b, off, p, rfl, hd, hix, hm, hat⟩ := hP.elem Pr.c_len hlt
    have hpk := (hel p hm).1
    have hpv := (hel p hm).2
    have hle := szPf_le p x hx0
    rw [hd] at hf
    repeat' (first | (refine r_pure hT rfl rfl rfl rfl ?_) | (refine r_new hT rfl rfl rfl rfl ?_) | (refine r_write hT rfl rfl rfl ?_) | (refine r_nil ?_) | (refine q_nil ?_) | (refine r_indexN hT rfl rfl rfl rfl rfl rfl rfl rfl rfl (by omega) ?_) | (refine r_load hT hat rfl rfl rfl rfl rfl (Nat.add_zero _).symm rfl rfl rfl rfl rfl ?_) | ((refine r_call (szPair p x _ hx0 hx1 hpk hpv) rfl rfl rfl rfl rfl (hC _ rfl) rfl rfl ?_; rintro y u' ⟨rfl, rfl⟩)) | (refine r_arith rfl rfl rfl rfl rfl rfl rfl (by omega) ?_) | (with_reducible refine r_seq ?_) | (with_reducible refine x_then ?_) | (with_reducible refine r_region ?_) | (refine r_draw hM (by kernel_rfl) ?_) | (with_reducible refine r_skip ?_) | (with_reducible refine r_ret ?_) | (with_reducible refine x_then_ret ?_) | (with_reducible refine r_block ?_) | (with_reducible refine x_block ?_) | (with_reducible refine x_block_ret ?_) | (with_reducible refine r_exit ?_) | (with_reducible refine x_then_exit ?_) | (with_reducible refine x_block_here ?_) | (refine x_block_past rfl ?_) | (refine c_yes rfl (by omega) ?_) | (refine c_no rfl (by omega) ?_) | (refine c_no rfl (fun h => h rfl) ?_) | (refine r_cond_false rfl ?_) | (refine r_cond_true rfl ?_) | (refine r_cond_dec rfl (fun _ => ?_) (fun _ => ?_)) | (refine r_cond_true rfl ?_) | (refine r_cond_false rfl ?_) | (refine c_not rfl (fun _ => ?_) (fun _ => ?_)) | (refine r_off rfl rfl rfl ?_) | (refine q_guard rfl rfl (fun _ => ?_) (fun _ => ?_)) | (refine q_guardn rfl rfl (fun _ => ?_) (fun _ => ?_)))
    · rename_i hneg
      exact r_fin hT rfl _ rfl rfl rfl trivial rfl ⟨by rw [← hf, szPsf, if_pos hneg], rfl⟩
    · rename_i hneg
      exact x_round (i + 1, szPf p x) ⟨by omega, by omega, by omega, by rw [← hf, szPsf, if_neg hneg]⟩ (by simp; omega) (into rfl ⟨rfl, rfl, rfl, trivial⟩ trivial rfl rfl)
  · repeat' (first | (refine r_pure hT rfl rfl rfl rfl ?_) | (refine r_new hT rfl rfl rfl rfl ?_) | (refine r_write hT rfl rfl rfl ?_) | (refine r_nil ?_) | (refine q_nil ?_) | (refine r_arith rfl rfl rfl rfl rfl rfl rfl (by omega) ?_) | (with_reducible refine r_seq ?_) | (with_reducible refine x_then ?_) | (with_reducible refine r_region ?_) | (refine r_draw hM (by kernel_rfl) ?_) | (with_reducible refine r_skip ?_) | (with_reducible refine r_ret ?_) | (with_reducible refine x_then_ret ?_) | (with_reducible refine r_block ?_) | (with_reducible refine x_block ?_) | (with_reducible refine x_block_ret ?_) | (with_reducible refine r_exit ?_) | (with_reducible refine x_then_exit ?_) | (with_reducible refine x_block_here ?_) | (refine x_block_past rfl ?_) | (refine c_yes rfl (by omega) ?_) | (refine c_no rfl (by omega) ?_) | (refine c_no rfl (fun h => h rfl) ?_) | (refine r_cond_false rfl ?_) | (refine r_cond_true rfl ?_) | (refine r_cond_dec rfl (fun _ => ?_) (fun _ => ?_)) | (refine r_cond_true rfl ?_) | (refine r_cond_false rfl ?_) | (refine c_not rfl (fun _ => ?_) (fun _ => ?_)) | (refine r_off rfl rfl rfl ?_) | (refine q_guard rfl rfl (fun _ => ?_) (fun _ => ?_)) | (refine q_guardn rfl rfl (fun _ => ?_) (fun _ => ?_)))
    exact r_fin hT rfl _ rfl rfl rfl trivial rfl ⟨by rw [← hf, List.drop_eq_nil_of_le (by omega)]; rfl, rfl⟩
end Go.Proofs.YtkamfnmbidnhdaaDoor
namespace Go.Proofs.YtkamfnmbidnhdaaDoor
open Go.Sy
set_option maxRecDepth 100000
set_option maxHeartbeats 4000000
set_option linter.unusedVariables false
def szTf (t : List Pr) (l : Int) : Int := if szPairsF t l < 0 then -1 else szPairsF t l
def szTsf : List (List Pr) → Int → Int
  | [], l => l
  | t :: r, l => if szTf t l < 0 then -1 else szTsf r (szTf t l)
def szTablesF (ts : List (List Pr)) (l : Int) : Int := if l - ts.length < 0 then -1 else szTsf ts (l - ts.length)
def szGf (v : V) (ts : List (List Pr)) (l : Int) : Int := if szVf v.s l < 0 then -1 else if szTablesF ts (szVf v.s l) < 0 then -1 else szTablesF ts (szVf v.s l)
theorem szPsf_le : ∀ (ps : List Pr) (l : Int), 0 ≤ l → -1 ≤ szPsf ps l ∧ szPsf ps l ≤ l
  | [], l, h => by simp [szPsf]; omega
  | p :: r, l, h => by
    have h1 := szPf_le p l h
    simp only [szPsf]
    split
    · omega
    · have := szPsf_le r (szPf p l) (by omega); omega
theorem szPairsF_le (ps : List Pr) (l : Int) (h : 0 ≤ l) : -1 ≤ szPairsF ps l ∧ szPairsF ps l ≤ l := by
  unfold szPairsF; split
  · omega
  · have := szPsf_le ps (l - ps.length) (by omega); omega
theorem szTf_le (t : List Pr) (l : Int) (h : 0 ≤ l) : -1 ≤ szTf t l ∧ szTf t l ≤ l := by
  have := szPairsF_le t l h
  unfold szTf; split <;> omega
theorem szTsf_le : ∀ (ts : List (List Pr)) (l : Int), 0 ≤ l → -1 ≤ szTsf ts l ∧ szTsf ts l ≤ l
  | [], l, h => by simp [szTsf]; omega
  | p :: r, l, h => by
    have h1 := szTf_le p l h
    simp only [szTsf]
    split
    · omega
    · have := szTsf_le r (szTf p l) (by omega); omega
theorem szTablesF_le (ts : List (List Pr)) (l : Int) (h : 0 ≤ l) : -1 ≤ szTablesF ts l ∧ szTablesF ts l ≤ l := by
  unfold szTablesF; split
  · omega
  · have := szTsf_le ts (l - ts.length) (by omega); omega
theorem szTable (ps : List Pr) (A : Option Addr) (n c : Nat) (l : Int) (h : Hp) (hP : Pairs h A n ps) (hok : okPs ps) (h0 : 0 ≤ l) (h1 : l ≤ 1048576) :
    Pur Tryd.prog 100 [.ag [.v (.slice A n c)], .v (.int .i64 l)] h (fun y : Int => .v (.int .i64 y)) (szTf ps l) := by
  refine enterS Tryd.func100 rfl (n := 12) rfl rfl (fun k N => ?_)
  repeat' (first | (refine r_pure hT rfl rfl rfl rfl ?_) | (refine r_new hT rfl rfl rfl rfl ?_) | (refine r_write hT rfl rfl rfl ?_) | (refine r_nil ?_) | (refine q_nil ?_) | ((refine r_call (szPairS ps A n c l _ hP hok h0 h1) rfl rfl rfl rfl rfl (hC _ rfl) rfl rfl ?_; rintro y u' ⟨rfl, rfl⟩)) | (refine r_fin hT rfl _ rfl rfl rfl trivial rfl ?_) | (refine r_arith rfl rfl rfl rfl rfl rfl rfl (by omega) ?_) | (with_reducible refine r_seq ?_) | (with_reducible refine x_then ?_) | (with_reducible refine r_region ?_) | (refine r_draw hM (by kernel_rfl) ?_) | (with_reducible refine r_skip ?_) | (with_reducible refine r_ret ?_) | (with_reducible refine x_then_ret ?_) | (with_reducible refine r_block ?_) | (with_reducible refine x_block ?_) | (with_reducible refine x_block_ret ?_) | (with_reducible refine r_exit ?_) | (with_reducible refine x_then_exit ?_) | (with_reducible refine x_block_here ?_) | (refine x_block_past rfl ?_) | (refine c_yes rfl (by omega) ?_) | (refine c_no rfl (by omega) ?_) | (refine c_no rfl (fun h => h rfl) ?_) | (refine r_cond_false rfl ?_) | (refine r_cond_true rfl ?_) | (refine r_cond_dec rfl (fun _ => ?_) (fun _ => ?_)) | (refine r_cond_true rfl ?_) | (refine r_cond_false rfl ?_) | (refine c_not rfl (fun _ => ?_) (fun _ => ?_)) | (refine r_off rfl rfl rfl ?_) | (refine q_guard rfl rfl (fun _ => ?_) (fun _ => ?_)) | (refine q_guardn rfl rfl (fun _ => ?_) (fun _ => ?_)))
  all_goals (refine ⟨?_, rfl⟩; unfold szTf; simp [*])
theorem szTableS (ts : List (List Pr)) (A : Option Addr) (n c : Nat) (l : Int) (h : Hp) (hP : Tabs h A n ts) (hok : okTs ts) (h0 : 0 ≤ l) (h1 : l ≤ 1048576) :
    Pur Tryd.prog 62 [.v (.slice A n c), .v (.int .i64 l)] h (fun y : Int => .v (.int .i64 y)) (szTablesF ts l) := by
  obtain ⟨hl, hel⟩ := hok
  have hn := hP.len
  refine enterS Tryd.func62 rfl (n := 27) rfl rfl (fun k N => ?_)
  repeat' (first | (refine r_pure hT rfl rfl rfl rfl ?_) | (refine r_new hT rfl rfl rfl rfl ?_) | (refine r_write hT rfl rfl rfl ?_) | (refine r_nil ?_) | (refine q_nil ?_) | (refine r_arith rfl rfl rfl rfl rfl rfl rfl (by omega) ?_) | (with_reducible refine r_seq ?_) | (with_reducible refine x_then ?_) | (with_reducible refine r_region ?_) | (refine r_draw hM (by kernel_rfl) ?_) | (with_reducible refine r_skip ?_) | (with_reducible refine r_ret ?_) | (with_reducible refine x_then_ret ?_) | (with_reducible refine r_block ?_) | (with_reducible refine x_block ?_) | (with_reducible refine x_block_ret ?_) | (with_reducible refine r_exit ?_) | (with_reducible refine x_then_exit ?_) | (with_reducible refine x_block_here ?_) | (refine x_block_past rfl ?_) | (refine c_yes rfl (by omega) ?_) | (refine c_no rfl (by omega) ?_) | (refine c_no rfl (fun h => h rfl) ?_) | (refine r_cond_false rfl ?_) | (refine r_cond_true rfl ?_) | (refine r_cond_dec rfl (fun _ => ?_) (fun _ => ?_)) | (refine r_cond_true rfl ?_) | (refine r_cond_false rfl ?_) | (refine c_not rfl (fun _ => ?_) (fun _ => ?_)) | (refine r_off rfl rfl rfl ?_) | (refine q_guard rfl rfl (fun _ => ?_) (fun _ => ?_)) | (refine q_guardn rfl rfl (fun _ => ?_) (fun _ => ?_)))
  · exact r_fin hT rfl _ rfl rfl rfl trivial rfl ⟨by unfold szTablesF; rw [if_pos (by omega)], rfl⟩
  refine r_loop (γ := Nat × Int) (fun g => g.1 ≤ ts.length ∧ 0 ≤ g.2 ∧ g.2 ≤ 1048576 ∧ szTsf (ts.drop g.1) g.2 = szTablesF ts l) (fun g => [(0, .v (.slice A n c)), (1, .v (.int .i64 g.2)), (5, .v (.int .i64 g.1))]) (fun _ => []) (fun _ => h) (fun g => ts.length - g.1)
    (0, l - n) ⟨by omega, by omega, by omega, by unfold szTablesF; rw [if_neg (by omega), hn]; rfl⟩ (into rfl ⟨rfl, rfl, rfl, trivial⟩ trivial rfl rfl) ?_
  rintro ⟨i, x⟩ ⟨hi, hx0, hx1, hf⟩
  dsimp only at *
  by_cases hlt : i < ts.length
  · obtain ⟨b, off, A', n', c', p, rfl, hd, hix, hm, hat, hc', hp⟩ := hP.elem hlt
    have hle := szTf_le p x hx0
    rw [hd] at hf
    repeat' (first | (refine r_pure hT rfl rfl rfl rfl ?_) | (refine r_new hT rfl rfl rfl rfl ?_) | (refine r_write hT rfl rfl rfl ?_) | (refine r_nil ?_) | (refine q_nil ?_) | (refine r_indexN hT rfl rfl rfl rfl rfl rfl rfl rfl rfl (by omega) ?_) | (refine r_load hT hat rfl rfl rfl rfl rfl (Nat.add_zero _).symm rfl rfl rfl rfl rfl ?_) | ((refine r_call (szTable p A' n' c' x _ hp (hel p hm) hx0 hx1) rfl rfl rfl rfl rfl (hC _ rfl) rfl rfl ?_; rintro y u' ⟨rfl, rfl⟩)) | (refine r_arith rfl rfl rfl rfl rfl rfl rfl (by omega) ?_) | (with_reducible refine r_seq ?_) | (with_reducible refine x_then ?_) | (with_reducible refine r_region ?_) | (refine r_draw hM (by kernel_rfl) ?_) | (with_reducible refine r_skip ?_) | (with_reducible refine r_ret ?_) | (with_reducible refine x_then_ret ?_) | (with_reducible refine r_block ?_) | (with_reducible refine x_block ?_) | (with_reducible refine x_block_ret ?_) | (with_reducible refine r_exit ?_) | (with_reducible refine x_then_exit ?_) | (with_reducible refine x_block_here ?_) | (refine x_block_past rfl ?_) | (refine c_yes rfl (by omega) ?_) | (refine c_no rfl (by omega) ?_) | (refine c_no rfl (fun h => h rfl) ?_) | (refine r_cond_false rfl ?_) | (refine r_cond_true rfl ?_) | (refine r_cond_dec rfl (fun _ => ?_) (fun _ => ?_)) | (refine r_cond_true rfl ?_) | (refine r_cond_false rfl ?_) | (refine c_not rfl (fun _ => ?_) (fun _ => ?_)) | (refine r_off rfl rfl rfl ?_) | (refine q_guard rfl rfl (fun _ => ?_) (fun _ => ?_)) | (refine q_guardn rfl rfl (fun _ => ?_) (fun _ => ?_)))
    · rename_i hneg
      exact r_fin hT rfl _ rfl rfl rfl trivial rfl ⟨by rw [← hf, szTsf, if_pos hneg], rfl⟩
    · rename_i hneg
      exact x_round (i + 1, szTf p x) ⟨by omega, by omega, by omega, by rw [← hf, szTsf, if_neg hneg]⟩ (by simp; omega) (into rfl ⟨rfl, rfl, rfl, trivial⟩ trivial rfl rfl)
  · repeat' (first | (refine r_pure hT rfl rfl rfl rfl ?_) | (refine r_new hT rfl rfl rfl rfl ?_) | (refine r_write hT rfl rfl rfl ?_) | (refine r_nil ?_) | (refine q_nil ?_) | (refine r_arith rfl rfl rfl rfl rfl rfl rfl (by omega) ?_) | (with_reducible refine r_seq ?_) | (with_reducible refine x_then ?_) | (with_reducible refine r_region ?_) | (refine r_draw hM (by kernel_rfl) ?_) | (with_reducible refine r_skip ?_) | (with_reducible refine r_ret ?_) | (with_reducible refine x_then_ret ?_) | (with_reducible refine r_block ?_) | (with_reducible refine x_block ?_) | (with_reducible refine x_block_ret ?_) | (with_reducible refine r_exit ?_) | (with_reducible refine x_then_exit ?_) | (with_reducible refine x_block_here ?_) | (refine x_block_past rfl ?_) | (refine c_yes rfl (by omega) ?_) | (refine c_no rfl (by omega) ?_) | (refine c_no rfl (fun h => h rfl) ?_) | (refine r_cond_false rfl ?_) | (refine r_cond_true rfl ?_) | (refine r_cond_dec rfl (fun _ => ?_) (fun _ => ?_)) | (refine r_cond_true rfl ?_) | (refine r_cond_false rfl ?_) | (refine c_not rfl (fun _ => ?_) (fun _ => ?_)) | (refine r_off rfl rfl rfl ?_) | (refine q_guard rfl rfl (fun _ => ?_) (fun _ => ?_)) | (refine q_guardn rfl rfl (fun _ => ?_) (fun _ => ?_)))
    exact r_fin hT rfl _ rfl rfl rfl trivial rfl ⟨by rw [← hf, List.drop_eq_nil_of_le (by omega)]; rfl, rfl⟩
theorem szGraph (v : V) (ts : List (List Pr)) (A : Option Addr) (n c : Nat) (l : Int) (h : Hp) (hP : Tabs h A n ts) (hv : v.okS) (hok : okTs ts) (h0 : 0 ≤ l) (h1 : l ≤ 1048576) :
    Pur Tryd.prog 29 [.ag (gsv v A n c), .v (.int .i64 l)] h (fun y : Int => .v (.int .i64 y)) (szGf v ts l) := by
  have g1 := szVf_le v.s l h0
  refine enterS Tryd.func29 rfl (n := 18) rfl rfl (fun k N => ?_)
  repeat' (first | (refine r_pure hT rfl rfl rfl rfl ?_) | (refine r_new hT rfl rfl rfl rfl ?_) | (refine r_write hT rfl rfl rfl ?_) | (refine r_nil ?_) | (refine q_nil ?_) | ((refine r_call (szVal v l _ h0 h1 hv) rfl rfl rfl rfl rfl (hC _ rfl) rfl rfl ?_; rintro y u' ⟨rfl, rfl⟩)) | ((refine r_call (szTableS ts A n c (szVf v.s l) _ hP hok (by omega) (by omega)) rfl rfl rfl rfl rfl (hC _ rfl) rfl rfl ?_; rintro y u' ⟨rfl, rfl⟩)) | (refine r_fin hT rfl _ rfl rfl rfl trivial rfl ?_) | (refine r_arith rfl rfl rfl rfl rfl rfl rfl (by omega) ?_) | (with_reducible refine r_seq ?_) | (with_reducible refine x_then ?_) | (with_reducible refine r_region ?_) | (refine r_draw hM (by kernel_rfl) ?_) | (with_reducible refine r_skip ?_) | (with_reducible refine r_ret ?_) | (with_reducible refine x_then_ret ?_) | (with_reducible refine r_block ?_) | (with_reducible refine x_block ?_) | (with_reducible refine x_block_ret ?_) | (with_reducible refine r_exit ?_) | (with_reducible refine x_then_exit ?_) | (with_reducible refine x_block_here ?_) | (refine x_block_past rfl ?_) | (refine c_yes rfl (by omega) ?_) | (refine c_no rfl (by omega) ?_) | (refine c_no rfl (fun h => h rfl) ?_) | (refine r_cond_false rfl ?_) | (refine r_cond_true rfl ?_) | (refine r_cond_dec rfl (fun _ => ?_) (fun _ => ?_)) | (refine r_cond_true rfl ?_) | (refine r_cond_false rfl ?_) | (refine c_not rfl (fun _ => ?_) (fun _ => ?_)) | (refine r_off rfl rfl rfl ?_) | (refine q_guard rfl rfl (fun _ => ?_) (fun _ => ?_)) | (refine q_guardn rfl rfl (fun _ => ?_) (fun _ => ?_)))
  all_goals (refine ⟨?_, rfl⟩; unfold szGf; simp [*])
end Go.Proofs.YtkamfnmbidnhdaaDoor
