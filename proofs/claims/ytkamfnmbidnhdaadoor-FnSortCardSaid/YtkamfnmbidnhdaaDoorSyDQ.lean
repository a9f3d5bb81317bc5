/- FnBound, walked. No condition. -/
import Derived.Test.YtkamfnmbidnhdaaDoorSyDO
import Derived.Test.YtkamfnmbidnhdaaDoorSyDP
import Derived.Test.YtkamfnmbidnhdaaDoorSyDI
import Derived.Test.YtkamfnmbidnhdaaDoorSyDOp
set_option linter.unusedVariables false
set_option linter.unusedSimpArgs false
set_option linter.unusedSectionVars false
namespace Go.Sy
def Bc (x : Int) : List Value := [.int .u8 x]
theorem Bc_len (x : Int) : (Bc x).length = 1 := rfl
abbrev Bys (u : Hp) (A : Option Addr) (n : Nat) (xs : List Int) : Prop := Rd Bc 1 u A n xs
def wB (bs : List Int) (i : Nat) : Int := bs.getD (i % bs.length) 0
def kBs : Hp → List Int → List Value → Prop := fun u l cs => ∃ A c, cs = [.slice A l.length c] ∧ l.length ≤ c ∧ l.length ≤ maxLen ∧ Bys u A l.length l ∧ ∀ x ∈ l, 0 ≤ x ∧ x ≤ 255
theorem kBs_of {u : Hp} {l : List Int} {cs : List Value} (h : kSl 1 (kInt .u8) u l cs) : kBs u l cs := by
  obtain ⟨A, c, ds, rfl, h1, h2, h3, _, h5, h6⟩ := h
  refine ⟨A, c, rfl, h1, h2, ⟨rfl, ?_⟩, all_of h3 (fun i d y hd hy => by
    have := (h5 i d y hd hy).2
    simp [Lit.wf, IntKind.min, IntKind.max, IntKind.bits, IntKind.signed] at this
    omega)⟩
  rw [← flat_of (c := Bc) h3 (fun i d y hd hy => (h5 i d y hd hy).1)]; exact h6
end Go.Sy
namespace Go.Proofs.YtkamfnmbidnhdaaDoor
open Go.Sy
set_option maxRecDepth 100000
set_option maxHeartbeats 4000000
set_option linter.unusedVariables false
set_option linter.unusedSimpArgs false
theorem op5 : Opn Tryd.prog 5 1 (kInt .u8) := opn_int Tryd.underlying5 (by kernel_rfl)
theorem op22 : Opn Tryd.prog 22 1 kBs := Opn.imp id (opn_slice Tryd.underlying22 (by kernel_rfl) (by decide) op5) (fun _ _ _ h => kBs_of h)
theorem wByte (bs : List Int) (A : Option Addr) (n c i : Nat) (h : Hp) (hP : Bys h A n bs) (hl : n ≤ 1048576) (hi : i ≤ 1000000000) (hb : ∀ x ∈ bs, 0 ≤ x ∧ x ≤ 255) :
    Pur Tryd.prog 12 [.v (.slice A n c), .v (.int .i64 (i : Int))] h (fun y : Int => .v (.int .i64 y)) (wB bs i) := by
  obtain rfl := hP.1
  refine enterS Tryd.func12 rfl (n := 16) rfl rfl (fun k N => ?_)
  by_cases h0 : bs.length = 0
  · have : bs = [] := List.length_eq_zero_iff.1 h0
    subst this
    repeat' (first | (refine r_pure hT rfl rfl rfl rfl ?_) | (refine r_new hT rfl rfl rfl rfl ?_) | (refine r_write hT rfl rfl rfl ?_) | (refine r_nil ?_) | (refine q_nil ?_) | (refine r_arith rfl rfl rfl rfl rfl rfl rfl (by omega) ?_) | (with_reducible refine r_seq ?_) | (with_reducible refine x_then ?_) | (with_reducible refine r_region ?_) | (refine r_draw hM (by kernel_rfl) ?_) | (with_reducible refine r_skip ?_) | (with_reducible refine r_ret ?_) | (with_reducible refine x_then_ret ?_) | (with_reducible refine r_block ?_) | (with_reducible refine x_block ?_) | (with_reducible refine x_block_ret ?_) | (with_reducible refine r_exit ?_) | (with_reducible refine x_then_exit ?_) | (with_reducible refine x_block_here ?_) | (refine x_block_past rfl ?_) | (refine c_yes rfl (by omega) ?_) | (refine c_no rfl (by omega) ?_) | (refine c_no rfl (fun h => h rfl) ?_) | (refine r_cond_false rfl ?_) | (refine r_cond_true rfl ?_) | (refine r_cond_dec rfl (fun _ => ?_) (fun _ => ?_)) | (refine r_cond_true rfl ?_) | (refine r_cond_false rfl ?_) | (refine c_not rfl (fun _ => ?_) (fun _ => ?_)) | (refine r_off rfl rfl rfl ?_) | (refine q_guard rfl rfl (fun _ => ?_) (fun _ => ?_)) | (refine q_guardn rfl rfl (fun _ => ?_) (fun _ => ?_)))
    exact r_fin hT rfl (0 : Int) rfl rfl rfl trivial rfl ⟨rfl, rfl⟩
  · obtain ⟨b, off, x, rfl, hd, hix, hm, hat⟩ := hP.elem Bc_len (i := i % bs.length) (Nat.mod_lt _ (by omega))
    have hx := hb x hm
    have hml := Nat.mod_lt i (show 0 < bs.length by omega)
    repeat' (first | (refine r_pure hT rfl rfl rfl rfl ?_) | (refine r_new hT rfl rfl rfl rfl ?_) | (refine r_write hT rfl rfl rfl ?_) | (refine r_nil ?_) | (refine q_nil ?_) | (refine r_remN rfl rfl rfl rfl rfl rfl (by omega) ?_) | (refine r_indexN hT rfl rfl rfl rfl rfl rfl rfl rfl rfl (by omega) ?_) | (refine r_load hT hat rfl rfl rfl rfl rfl (Nat.add_zero _).symm rfl rfl rfl rfl rfl ?_) | (refine r_conv hT rfl rfl rfl rfl rfl rfl rfl rfl (IntWalk.i64_in _ (by omega)) ?_) | (refine r_arith rfl rfl rfl rfl rfl rfl rfl (by omega) ?_) | (with_reducible refine r_seq ?_) | (with_reducible refine x_then ?_) | (with_reducible refine r_region ?_) | (refine r_draw hM (by kernel_rfl) ?_) | (with_reducible refine r_skip ?_) | (with_reducible refine r_ret ?_) | (with_reducible refine x_then_ret ?_) | (with_reducible refine r_block ?_) | (with_reducible refine x_block ?_) | (with_reducible refine x_block_ret ?_) | (with_reducible refine r_exit ?_) | (with_reducible refine x_then_exit ?_) | (with_reducible refine x_block_here ?_) | (refine x_block_past rfl ?_) | (refine c_yes rfl (by omega) ?_) | (refine c_no rfl (by omega) ?_) | (refine c_no rfl (fun h => h rfl) ?_) | (refine r_cond_false rfl ?_) | (refine r_cond_true rfl ?_) | (refine r_cond_dec rfl (fun _ => ?_) (fun _ => ?_)) | (refine r_cond_true rfl ?_) | (refine r_cond_false rfl ?_) | (refine c_not rfl (fun _ => ?_) (fun _ => ?_)) | (refine r_off rfl rfl rfl ?_) | (refine q_guard rfl rfl (fun _ => ?_) (fun _ => ?_)) | (refine q_guardn rfl rfl (fun _ => ?_) (fun _ => ?_)))
    exact r_fin hT rfl x rfl rfl rfl trivial rfl ⟨by simp [wB, List.getD_eq_getElem?_getD, hix], rfl⟩
end Go.Proofs.YtkamfnmbidnhdaaDoor
