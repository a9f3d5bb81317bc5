/- The walk by a symbolic frame (SyX3): contracts of functions; each with its own conditions as hypotheses. -/
import Derived.Test.YtkamfnmbidnhdaaSyX2
namespace Go.Proofs.Ytkamfnmbidnhdaa
open Go.Sy
set_option maxRecDepth 100000
set_option maxHeartbeats 4000000
set_option linter.unusedVariables false
def szPairsF (ps : List Pr) (l : Int) : Int := if l - ps.length < 0 then -1 else szPsf ps (l - ps.length)
theorem szPairS (ps : List Pr) (A : Option Addr) (n c : Nat) (l : Int) (h : Hp) (hP : Pairs h A n ps) (hok : okPs ps) (h0 : 0 ≤ l) (h1 : l ≤ 1048576) :
    Pur Try.prog 92 [.v (.slice A n c), .v (.int .i64 l)] h (fun y : Int => .v (.int .i64 y)) (szPairsF ps l) := by
  obtain ⟨hl, hel⟩ := hok
  have hn := hP.1
  refine enterS Try.func92 rfl (n := 27) rfl rfl (fun k N => ?_)
  repeat' (first | (refine r_pure hT rfl rfl rfl rfl ?_) | (refine r_new hT rfl rfl rfl rfl ?_) | (refine r_write hT rfl rfl rfl ?_) | (refine r_nil ?_) | (refine q_nil ?_) | (refine r_arith rfl rfl rfl rfl rfl rfl rfl (by omega) ?_) | (with_reducible refine r_seq ?_) | (with_reducible refine x_then ?_) | (with_reducible refine r_region ?_) | (refine r_draw hM (by kernel_rfl) ?_) | (with_reducible refine r_skip ?_) | (with_reducible refine r_ret ?_) | (with_reducible refine x_then_ret ?_) | (with_reducible refine r_block ?_) | (with_reducible refine x_block ?_) | (with_reducible refine x_block_ret ?_) | (with_reducible refine r_exit ?_) | (with_reducible refine x_then_exit ?_) | (with_reducible refine x_block_here ?_) | (refine x_block_past rfl ?_) | (refine c_yes rfl (by omega) ?_) | (refine c_no rfl (by omega) ?_) | (refine c_no rfl (fun h => h rfl) ?_) | (refine r_cond_false rfl ?_) | (refine r_cond_true rfl ?_) | (refine r_cond_dec rfl (fun _ => ?_) (fun _ => ?_)) | (refine r_cond_true rfl ?_) | (refine r_cond_false rfl ?_) | (refine c_not rfl (fun _ => ?_) (fun _ => ?_)) | (refine r_off rfl rfl rfl ?_) | (refine q_guard rfl rfl (fun _ => ?_) (fun _ => ?_)) | (refine q_guardn rfl rfl (fun _ => ?_) (fun _ => ?_)))
  · exact r_fin hT rfl _ rfl rfl rfl trivial rfl ⟨by unfold szPairsF; rw [if_pos (by omega)], rfl⟩
  refine r_loop (γ := Nat × Int) (fun g => g.1 ≤ ps.length ∧ 0 ≤ g.2 ∧ g.2 ≤ 1048576 ∧ szPsf (ps.drop g.1) g.2 = szPairsF ps l) (fun g => [(0, .v (.slice A n c)), (1, .v (.int .i64 g.2)), (5, .v (.int .i64 g.1))]) (fun _ => []) (fun _ => h) (fun g => ps.length - g.1)
    (0, l - n) ⟨by omega, by omega, by omega, by unfold szPairsF; rw [if_neg (by omega), hn]; rfl⟩ (into rfl ⟨rfl, rfl, rfl, trivial⟩ trivial rfl rfl) ?_
  rintro ⟨i, x⟩ ⟨hi, hx0, hx1, hf⟩
  dsimp only at *
  by_cases hlt : i < ps.length
  · obtain ⟨b, off, p, rfl, hd, hix, hm, hat⟩ := hP.elem Pr.c_len hlt
    have hpk := (hel p hm).1
    have hpv := (hel p hm).2
    have hle := szPf_le p x hx0
    rw [hd] at hf
    repeat' (first | (refine r_pure hT rfl rfl rfl rfl ?_) | (refine r_new hT rfl rfl rfl rfl ?_) | (refine r_write hT rfl rfl rfl ?_) | (refine r_nil ?_) | (refine q_nil ?_) | (refine r_indexN hT rfl rfl rfl rfl rfl rfl rfl rfl rfl (by omega) ?_) | (refine r_load hT hat rfl rfl rfl rfl rfl (Nat.add_zero _).symm rfl rfl rfl rfl rfl ?_) | ((refine r_call (szPair p x _ hx0 hx1 hpk hpv) rfl rfl rfl rfl rfl (hC _ rfl) rfl rfl ?_; rintro y u' ⟨rfl, rfl⟩)) | (refine r_arith rfl rfl rfl rfl rfl rfl rfl (by omega) ?_) | (with_reducible refine r_seq ?_) | (with_reducible refine x_then ?_) | (with_reducible refine r_region ?_) | (refine r_draw hM (by kernel_rfl) ?_) | (with_reducible refine r_skip ?_) | (with_reducible refine r_ret ?_) | (with_reducible refine x_then_ret ?_) | (with_reducible refine r_block ?_) | (with_reducible refine x_block ?_) | (with_reducible refine x_block_ret ?_) | (with_reducible refine r_exit ?_) | (with_reducible refine x_then_exit ?_) | (with_reducible refine x_block_here ?_) | (refine x_block_past rfl ?_) | (refine c_yes rfl (by omega) ?_) | (refine c_no rfl (by omega) ?_) | (refine c_no rfl (fun h => h rfl) ?_) | (refine r_cond_false rfl ?_) | (refine r_cond_true rfl ?_) | (refine r_cond_dec rfl (fun _ => ?_) (fun _ => ?_)) | (refine r_cond_true rfl ?_) | (refine r_cond_false rfl ?_) | (refine c_not rfl (fun _ => ?_) (fun _ => ?_)) | (refine r_off rfl rfl rfl ?_) | (refine q_guard rfl rfl (fun _ => ?_) (fun _ => ?_)) | (refine q_guardn rfl rfl (fun _ => ?_) (fun _ => ?_)))
    · rename_i hneg
      exact r_fin hT rfl _ rfl rfl rfl trivial rfl ⟨by rw [← hf, szPsf, if_pos hneg], rfl⟩
    · rename_i hneg
      exact x_round (i + 1, szPf p x) ⟨by omega, by omega, by omega, by rw [← hf, szPsf, if_neg hneg]⟩ (by simp; omega) (into rfl ⟨rfl, rfl, rfl, trivial⟩ trivial rfl rfl)
  · repeat' (first | (refine r_pure hT rfl rfl rfl rfl ?_) | (refine r_new hT rfl rfl rfl rfl ?_) | (refine r_write hT rfl rfl rfl ?_) | (refine r_nil ?_) | (refine q_nil ?_) | (refine r_arith rfl rfl rfl rfl rfl rfl rfl (by omega) ?_) | (with_reducible refine r_seq ?_) | (with_reducible refine x_then ?_) | (with_reducible refine r_region ?_) | (refine r_draw hM (by kernel_rfl) ?_) | (with_reducible refine r_skip ?_) | (with_reducible refine r_ret ?_) | (with_reducible refine x_then_ret ?_) | (with_reducible refine r_block ?_) | (with_reducible refine x_block ?_) | (with_reducible refine x_block_ret ?_) | (with_reducible refine r_exit ?_) | (with_reducible refine x_then_exit ?_) | (with_reducible refine x_block_here ?_) | (refine x_block_past rfl ?_) | (refine c_yes rfl (by omega) ?_) | (refine c_no rfl (by omega) ?_) | (refine c_no rfl (fun h => h rfl) ?_) | (refine r_cond_false rfl ?_) | (refine r_cond_true rfl ?_) | (refine r_cond_dec rfl (fun _ => ?_) (fun _ => ?_)) | (refine r_cond_true rfl ?_) | (refine r_cond_false rfl ?_) | (refine c_not rfl (fun _ => ?_) (fun _ => ?_)) | (refine r_off rfl rfl rfl ?_) | (refine q_guard rfl rfl (fun _ => ?_) (fun _ => ?_)) | (refine q_guardn rfl rfl (fun _ => ?_) (fun _ => ?_)))
    exact r_fin hT rfl _ rfl rfl rfl trivial rfl ⟨by rw [← hf, List.drop_eq_nil_of_le (by omega)]; rfl, rfl⟩
end Go.Proofs.Ytkamfnmbidnhdaa
