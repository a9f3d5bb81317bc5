/- The walk by a symbolic frame (Sy1C): contracts of functions; each with its own conditions as hypotheses. -/
import Derived.Test.YtkamfnmbidnhdaaSy1E
namespace Go.Proofs.Ytkamfnmbidnhdaa
open Go.Sy
set_option maxRecDepth 100000
set_option maxHeartbeats 4000000
set_option linter.unusedVariables false
/-- A value that a graph of n tables may hold. -/
def VOk (v : V) (n : Nat) : Prop :=
  (v.k = 0 ∧ v.n = 0 ∧ v.s.toList = [] ∧ v.a = 0) ∨ (v.k = 1 ∧ (v.n = 0 ∨ v.n = 1) ∧ v.s.toList = [] ∧ v.a = 0) ∨ (v.k = 2 ∧ v.s.toList = [] ∧ v.a = 0) ∨
    (v.k = 3 ∧ v.n = 0 ∧ v.a = 0 ∧ v.s.size ≤ 500) ∨ (v.k = 4 ∧ v.n = 0 ∧ v.s.toList = [] ∧ 0 ≤ v.a ∧ v.a < n)
instance (v : V) (n : Nat) : Decidable (VOk v n) := by unfold VOk; infer_instance
def KOk (v : V) : Prop := (v.k = 1 ∨ v.k = 2 ∨ v.k = 3) ∧ VOk v 0
instance (v : V) : Decidable (KOk v) := by unfold KOk; infer_instance
theorem nil_list : (ByteArray.mk ⟨[]⟩).toList = [] := by decide +kernel
theorem l2val (v g : V) (A : Option Addr) (n c : Nat) (h : Hp) : Pur Try.prog 56 [.ag (gsv g A n c), .ag v.sv] h (fun y : Bool => .v (.bool y)) (decide (VOk v n)) := by
  refine enterS Try.func56 rfl (n := 91) rfl rfl (fun k N => ?_)
  repeat' (first | (refine r_pure hT rfl rfl rfl rfl ?_) | (refine r_new hT rfl rfl rfl rfl ?_) | (refine r_write hT rfl rfl rfl ?_) | (refine r_nil ?_) | (refine q_nil ?_) | (refine r_arith rfl rfl rfl rfl rfl rfl rfl (by omega) ?_) | (with_reducible refine r_seq ?_) | (with_reducible refine x_then ?_) | (with_reducible refine r_region ?_) | (refine r_draw hM (by kernel_rfl) ?_) | (with_reducible refine r_skip ?_) | (with_reducible refine r_ret ?_) | (with_reducible refine x_then_ret ?_) | (with_reducible refine r_block ?_) | (with_reducible refine x_block ?_) | (with_reducible refine x_block_ret ?_) | (with_reducible refine r_exit ?_) | (with_reducible refine x_then_exit ?_) | (with_reducible refine x_block_here ?_) | (refine x_block_past rfl ?_) | (refine c_yes rfl (by omega) ?_) | (refine c_no rfl (by omega) ?_) | (refine c_no rfl (fun h => h rfl) ?_) | (refine r_cond_false rfl ?_) | (refine r_cond_true rfl ?_) | (refine r_cond_dec rfl (fun _ => ?_) (fun _ => ?_)) | (refine r_cond_true rfl ?_) | (refine r_cond_false rfl ?_) | (refine c_not rfl (fun _ => ?_) (fun _ => ?_)) | (refine r_off rfl rfl rfl ?_) | (refine q_guard rfl rfl (fun _ => ?_) (fun _ => ?_)) | (refine q_guardn rfl rfl (fun _ => ?_) (fun _ => ?_)))
  all_goals exact r_fin hT rfl _ rfl rfl rfl trivial rfl ⟨by (try simp only [nil_list] at *); simp_all [VOk] <;> omega, rfl⟩
theorem l2key (v : V) (h : Hp) : Pur Try.prog 43 [.ag v.sv] h (fun y : Bool => .v (.bool y)) (decide (KOk v)) := by
  refine enterS Try.func43 rfl (n := 21) rfl rfl (fun k N => ?_)
  repeat' (first | (refine r_pure hT rfl rfl rfl rfl ?_) | (refine r_new hT rfl rfl rfl rfl ?_) | (refine r_write hT rfl rfl rfl ?_) | (refine r_nil ?_) | (refine q_nil ?_) | (refine r_build hT rfl rfl rfl rfl rfl rfl rfl rfl rfl ?_) | (refine p_call (l2val v ⟨0, 0, ⟨⟨[]⟩⟩, 0⟩ none 0 0 _) rfl rfl rfl rfl rfl (hC _ rfl) rfl rfl rfl ?_) | (refine r_arith rfl rfl rfl rfl rfl rfl rfl (by omega) ?_) | (with_reducible refine r_seq ?_) | (with_reducible refine x_then ?_) | (with_reducible refine r_region ?_) | (refine r_draw hM (by kernel_rfl) ?_) | (with_reducible refine r_skip ?_) | (with_reducible refine r_ret ?_) | (with_reducible refine x_then_ret ?_) | (with_reducible refine r_block ?_) | (with_reducible refine x_block ?_) | (with_reducible refine x_block_ret ?_) | (with_reducible refine r_exit ?_) | (with_reducible refine x_then_exit ?_) | (with_reducible refine x_block_here ?_) | (refine x_block_past rfl ?_) | (refine c_yes rfl (by omega) ?_) | (refine c_no rfl (by omega) ?_) | (refine c_no rfl (fun h => h rfl) ?_) | (refine r_cond_false rfl ?_) | (refine r_cond_true rfl ?_) | (refine r_cond_dec rfl (fun _ => ?_) (fun _ => ?_)) | (refine r_cond_true rfl ?_) | (refine r_cond_false rfl ?_) | (refine c_not rfl (fun _ => ?_) (fun _ => ?_)) | (refine r_off rfl rfl rfl ?_) | (refine q_guard rfl rfl (fun _ => ?_) (fun _ => ?_)) | (refine q_guardn rfl rfl (fun _ => ?_) (fun _ => ?_)))
  all_goals exact r_fin hT rfl _ rfl rfl rfl trivial rfl ⟨by simp_all [KOk], rfl⟩
end Go.Proofs.Ytkamfnmbidnhdaa
