/- The walk by a symbolic frame (Sy1Y): contracts of functions; each with its own conditions as hypotheses. -/
import Derived.Test.YtkamfnmbidnhdaaSy1W
namespace Go.Proofs.Ytkamfnmbidnhdaa
open Go.Sy
set_option maxRecDepth 100000
set_option maxHeartbeats 4000000
set_option linter.unusedVariables false
set_option linter.unusedSimpArgs false
theorem vok_in {v : V} {n : Nat} (h : VOk v n) : In n v := fun h4 => by
  unfold VOk at h; rcases h with h | h | h | h | h <;> omega
theorem gok_in {v : V} {ts : List (List Pr)} (h : GOk v ts) : AllIn ts ∧ In ts.length v ∧ ts.length ≤ 200 ∧ ∀ t ∈ ts, t.length ≤ 100 :=
  ⟨fun t ht p hp => vok_in ((h.2.2 t ht).2.1 p hp).2.1, vok_in h.2.1, h.1, fun t ht => (h.2.2 t ht).1⟩
def V0 : V := ⟨0, 0, ⟨⟨[]⟩⟩, 0⟩
/-- What Canon answers. -/
def cV (v : V) (ts : List (List Pr)) : V := if GOk v ts then ren (ordOf ts v) v else V0
def cT (v : V) (ts : List (List Pr)) : List (List Pr) := if GOk v ts then cTs ts (ordOf ts v) else []
theorem tabs_nil (u : Hp) : Tabs u none 0 [] := ⟨[], rfl, ⟨rfl, own_nil.sl (e := 0)⟩, fun i h t hi => by simp at hi⟩
theorem specCanon (v : V) (ts : List (List Pr)) (A : Option Addr) (n c : Nat) (h : Hp) (hP : Tabs h A n ts) :
    TriS Try.prog 35 [.ag (gsv v A n c)] [] h (fun y : Option Addr × Nat => .ag (gsv (cV v ts) y.1 (cT v ts).length y.2)) (fun _ => []) (fun y h' => Tabs h' y.1 (cT v ts).length (cT v ts) ∧ Le h h') := by
  refine enterS Try.func35 rfl (n := 9) rfl rfl (fun k N => ?_)
  by_cases hg : GOk v ts
  · obtain ⟨h1, h2, h3, h4⟩ := gok_in hg
    have e1 : cV v ts = ren (ordOf ts v) v := if_pos hg
    have e2 : cT v ts = cTs ts (ordOf ts v) := if_pos hg
    have e3 : (cTs ts (ordOf ts v)).length = (ordOf ts v).length := by simp [cTs]
    rw [e1, e2, e3]
    repeat' (first | (refine r_pure hT rfl rfl rfl rfl ?_) | (refine r_new hT rfl rfl rfl rfl ?_) | (refine r_write hT rfl rfl rfl ?_) | (refine r_nil ?_) | (refine q_nil ?_) | (refine p_call (specOk v ts A n c _ hP) rfl rfl rfl rfl rfl (hC _ rfl) rfl rfl rfl ?_) | (refine c_not rfl (fun hx => absurd hg hx) (fun _ => ?_)) | (refine r_call (l2canon v ts A n c _ hP h1 h2 (by omega) (fun t ht => by have := h4 t ht; omega)) rfl rfl rfl rfl rfl (hC _ rfl) rfl rfl (fun y u' hy => ?_)) | (refine r_arith rfl rfl rfl rfl rfl rfl rfl (by omega) ?_) | (with_reducible refine r_seq ?_) | (with_reducible refine x_then ?_) | (with_reducible refine r_region ?_) | (refine r_draw hM (by kernel_rfl) ?_) | (with_reducible refine r_skip ?_) | (with_reducible refine r_ret ?_) | (with_reducible refine x_then_ret ?_) | (with_reducible refine r_block ?_) | (with_reducible refine x_block ?_) | (with_reducible refine x_block_ret ?_) | (with_reducible refine r_exit ?_) | (with_reducible refine x_then_exit ?_) | (with_reducible refine x_block_here ?_) | (refine x_block_past rfl ?_) | (refine c_yes rfl (by omega) ?_) | (refine c_no rfl (by omega) ?_) | (refine c_no rfl (fun h => h rfl) ?_) | (refine r_cond_false rfl ?_) | (refine r_cond_true rfl ?_) | (refine r_cond_dec rfl (fun _ => ?_) (fun _ => ?_)) | (refine r_cond_true rfl ?_) | (refine r_cond_false rfl ?_) | (refine c_not rfl (fun _ => ?_) (fun _ => ?_)) | (refine r_off rfl rfl rfl ?_) | (refine q_guard rfl rfl (fun _ => ?_) (fun _ => ?_)) | (refine q_guardn rfl rfl (fun _ => ?_) (fun _ => ?_)))
    exact r_fin hT rfl y rfl rfl rfl trivial rfl hy
  · have e1 : cV v ts = V0 := if_neg hg
    have e2 : cT v ts = [] := if_neg hg
    rw [e1, e2]
    repeat' (first | (refine r_pure hT rfl rfl rfl rfl ?_) | (refine r_new hT rfl rfl rfl rfl ?_) | (refine r_write hT rfl rfl rfl ?_) | (refine r_nil ?_) | (refine q_nil ?_) | (refine p_call (specOk v ts A n c _ hP) rfl rfl rfl rfl rfl (hC _ rfl) rfl rfl rfl ?_) | (refine c_not rfl (fun _ => ?_) (fun hx => absurd hx hg)) | (refine r_build hT rfl rfl rfl rfl rfl rfl rfl rfl rfl ?_) | (refine r_arith rfl rfl rfl rfl rfl rfl rfl (by omega) ?_) | (with_reducible refine r_seq ?_) | (with_reducible refine x_then ?_) | (with_reducible refine r_region ?_) | (refine r_draw hM (by kernel_rfl) ?_) | (with_reducible refine r_skip ?_) | (with_reducible refine r_ret ?_) | (with_reducible refine x_then_ret ?_) | (with_reducible refine r_block ?_) | (with_reducible refine x_block ?_) | (with_reducible refine x_block_ret ?_) | (with_reducible refine r_exit ?_) | (with_reducible refine x_then_exit ?_) | (with_reducible refine x_block_here ?_) | (refine x_block_past rfl ?_) | (refine c_yes rfl (by omega) ?_) | (refine c_no rfl (by omega) ?_) | (refine c_no rfl (fun h => h rfl) ?_) | (refine r_cond_false rfl ?_) | (refine r_cond_true rfl ?_) | (refine r_cond_dec rfl (fun _ => ?_) (fun _ => ?_)) | (refine r_cond_true rfl ?_) | (refine r_cond_false rfl ?_) | (refine c_not rfl (fun _ => ?_) (fun _ => ?_)) | (refine r_off rfl rfl rfl ?_) | (refine q_guard rfl rfl (fun _ => ?_) (fun _ => ?_)) | (refine q_guardn rfl rfl (fun _ => ?_) (fun _ => ?_)))
    exact r_fin hT rfl ((none, 0) : Option Addr × Nat) rfl rfl rfl trivial rfl ⟨tabs_nil _, Le.refl _⟩
end Go.Proofs.Ytkamfnmbidnhdaa
