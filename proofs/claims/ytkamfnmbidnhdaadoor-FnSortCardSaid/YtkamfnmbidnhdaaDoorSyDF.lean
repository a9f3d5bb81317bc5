/- The deferred closure of impl.sortBy: at a regular end it does nothing; a panic with what halts it takes for the error. -/
import Derived.Test.YtkamfnmbidnhdaaDoorSyDE
set_option linter.unusedVariables false
set_option linter.unusedSimpArgs false
set_option linter.unusedSectionVars false
namespace Go.Proofs.YtkamfnmbidnhdaaDoor
open Go.Sy
set_option maxRecDepth 100000
set_option maxHeartbeats 4000000
set_option linter.unusedVariables false
set_option linter.unusedSimpArgs false
def frame94 (p q v : Value) : Tm := (2, .v v) :: (5, .v v) :: argTm 0 [p, q]
theorem rel94 (p q v : Value) (β : Nat → Nat) : RelT ⟨18, []⟩ [] β (frame94 p q v) ((({ tmps := #[p, q] ++ Array.replicate (Tryd.f94.ntmps - (#[p, q] : Array Value).size) undef, defers := [] } : Act).put (some 5) v).put (some 2) v) :=
  put_rel (s := .v v) rfl (put_rel (s := .v v) rfl (rel_args 18 [p, q] (by simp) β) rfl) rfl
theorem idle94 (p q : Value) (w : World) : CallsD Tryd.prog 94 #[p, q] .returning w fun e u' w' => e = .returned (.tuple #[]) ∧ u' = .returning ∧ Kept w w' := by
  refine callsD_of_wpS Tryd.func94 rfl fun c₀ cs hu => ?_
  apply wpS_seq
  refine wpS_recover (v := .nilIface) (cs' := c₀ :: cs) rfl rfl rfl rfl rfl rfl (by simp [recoverD, hu]) (by show 5 < _; simp [Tryd.ntmps94]) ?_
  refine wpS_of_wp ?_
  refine (show St ⟨fun b => w.heap[b]?, w, ⟨18, []⟩, [], fun _ => 0⟩ (frame94 p q .nilIface) [] (fun _ => none) (fun a w' => Code.wp Tryd.prog _ (fun e a' w'' => bodyPostS Tryd.prog Tryd.f94 c₀ cs (fun e u' w' => e = .returned (.tuple #[]) ∧ u' = .returning ∧ Kept w w') e a' (c₀ :: cs) w'') a w') from ?_) _ _ w (fun i hi => by cases hi) (rel94 p q .nilIface _) (den_all w)
  repeat' (first | (refine r_pure hT rfl rfl rfl rfl ?_) | (refine r_new hT rfl rfl rfl rfl ?_) | (refine r_write hT rfl rfl rfl ?_) | (refine r_nil ?_) | (refine q_nil ?_) | (refine r_ifnil hT rfl rfl rfl rfl (.inr rfl) rfl rfl rfl rfl ?_) | (refine r_arith rfl rfl rfl rfl rfl rfl rfl (by omega) ?_) | (with_reducible refine r_seq ?_) | (with_reducible refine x_then ?_) | (with_reducible refine r_region ?_) | (refine r_draw hM (by kernel_rfl) ?_) | (with_reducible refine r_skip ?_) | (with_reducible refine r_ret ?_) | (with_reducible refine x_then_ret ?_) | (with_reducible refine r_block ?_) | (with_reducible refine x_block ?_) | (with_reducible refine x_block_ret ?_) | (with_reducible refine r_exit ?_) | (with_reducible refine x_then_exit ?_) | (with_reducible refine x_block_here ?_) | (refine x_block_past rfl ?_) | (refine c_yes rfl (by omega) ?_) | (refine c_no rfl (by omega) ?_) | (refine c_no rfl (fun h => h rfl) ?_) | (refine r_cond_false rfl ?_) | (refine r_cond_true rfl ?_) | (refine r_cond_dec rfl (fun _ => ?_) (fun _ => ?_)) | (refine r_cond_true rfl ?_) | (refine r_cond_false rfl ?_) | (refine c_not rfl (fun _ => ?_) (fun _ => ?_)) | (refine r_off rfl rfl rfl ?_) | (refine q_guard rfl rfl (fun _ => ?_) (fun _ => ?_)) | (refine q_guardn rfl rfl (fun _ => ?_) (fun _ => ?_)))
  exact r_endS (u' := .returning) (s := .tu []) hT rfl (by rw [← hu]) rfl (fun β w' hd => ⟨rfl, rfl, kept_all hd⟩)
def halt (E : Value) : Value := .iface 126 (.agg [E].toArray)
theorem rec94 (tE : TypeId) (vE : Value) (w : World) (bi bj : Nat) (x y : Value) (hij : bi ≠ bj) (h1 : w.heap[bi]? = some (.cells #[x] 25 (0, 0))) (h2 : w.heap[bj]? = some (.cells #[y] 72 (0, 0))) :
    CallsD Tryd.prog 94 #[ptr bi, ptr bj] (.panicking [{ v := halt (.iface tE vE), recovered := false }]) w fun e u' w' => e = .returned (.tuple #[]) ∧ u' = .panicking [{ v := halt (.iface tE vE), recovered := true }] ∧ Rec w w' bi bj (.slice none 0 0) (.iface tE vE) 25 72 := by
  refine callsD_of_wpS Tryd.func94 rfl fun c₀ cs hu => ?_
  apply wpS_seq
  refine wpS_recover (v := halt (.iface tE vE)) (cs' := { c₀ with mode := .panicking [{ v := halt (.iface tE vE), recovered := true }] } :: cs) rfl rfl rfl rfl rfl rfl (by simp [recoverD, hu]) (by show 5 < _; simp [Tryd.ntmps94]) ?_
  refine wpS_of_wp ?_
  have u1 : twoOf w bi bj bi = some (.cells [x].toArray 25 (0, 0)) := by unfold twoOf; rw [if_pos (.inl rfl)]; exact h1
  have u2 : twoOf w bi bj bj = some (.cells [y].toArray 72 (0, 0)) := by unfold twoOf; rw [if_pos (.inr rfl)]; exact h2
  refine (show St ⟨restOf w bi bj, w, ⟨18, []⟩, [], fun _ => 0⟩ (frame94 (ptr bi) (ptr bj) (halt (.iface tE vE))) [] (twoOf w bi bj) (fun a w' => Code.wp Tryd.prog _ (fun e a' w'' => bodyPostS Tryd.prog Tryd.f94 c₀ cs (fun e u' w' => e = .returned (.tuple #[]) ∧ u' = .panicking [{ v := halt (.iface tE vE), recovered := true }] ∧ Rec w w' bi bj (.slice none 0 0) (.iface tE vE) 25 72) e a' ({ c₀ with mode := .panicking [{ v := halt (.iface tE vE), recovered := true }] } :: cs) w'') a w') from ?_) _ _ w (fun i hi => by cases hi) (rel94 (ptr bi) (ptr bj) (halt (.iface tE vE)) _) (den_two w bi bj)
  have u3 : upd (twoOf w bi bj) bi (.cells (setL [x].toArray.toList 0 [Value.slice none 0 0]).toArray 25 (0, 0)) bj = some (.cells [y].toArray 72 (0, 0)) := by rw [upd_ne (Ne.symm hij)]; exact u2
  repeat' (first | (refine r_pure hT rfl rfl rfl rfl ?_) | (refine r_new hT rfl rfl rfl rfl ?_) | (refine r_write hT rfl rfl rfl ?_) | (refine r_nil ?_) | (refine q_nil ?_) | (refine r_many (id := 5) [0, 1] [3] (fun _ => none) (fun b o h => by cases h) hM (by kernel_rfl) rfl (by kernel_rfl) rfl rfl rfl (fun β0 => ?_)) | (refine m_keep (fun b o h => by cases h) ⟨rfl, trivial⟩ rfl rfl ?_) | (refine m_late rfl rfl ?_) | (refine r_store hT rfl rfl rfl rfl rfl rfl rfl rfl rfl rfl u1 (Nat.le_refl 1) ?_) | (refine r_store hT rfl rfl rfl rfl rfl rfl rfl rfl rfl rfl u3 (Nat.le_refl 1) ?_) | (refine r_ifnil hT rfl rfl rfl rfl (.inr rfl) rfl rfl rfl rfl ?_) | (refine r_assert hT (.ag [.v (.iface tE vE)]) rfl rfl rfl rfl rfl rfl rfl rfl ?_) | (refine r_arith rfl rfl rfl rfl rfl rfl rfl (by omega) ?_) | (with_reducible refine r_seq ?_) | (with_reducible refine x_then ?_) | (with_reducible refine r_region ?_) | (with_reducible refine r_skip ?_) | (with_reducible refine r_ret ?_) | (with_reducible refine x_then_ret ?_) | (with_reducible refine r_block ?_) | (with_reducible refine x_block ?_) | (with_reducible refine x_block_ret ?_) | (with_reducible refine r_exit ?_) | (with_reducible refine x_then_exit ?_) | (with_reducible refine x_block_here ?_) | (refine x_block_past rfl ?_) | (refine c_yes rfl (by omega) ?_) | (refine c_no rfl (by omega) ?_) | (refine c_no rfl (fun h => h rfl) ?_) | (refine r_cond_false rfl ?_) | (refine r_cond_true rfl ?_) | (refine r_cond_dec rfl (fun _ => ?_) (fun _ => ?_)) | (refine r_cond_true rfl ?_) | (refine r_cond_false rfl ?_) | (refine c_not rfl (fun _ => ?_) (fun _ => ?_)) | (refine r_off rfl rfl rfl ?_) | (refine q_guard rfl rfl (fun _ => ?_) (fun _ => ?_)) | (refine q_guardn rfl rfl (fun _ => ?_) (fun _ => ?_)) | (refine s_nil ?_) | (with_reducible refine a_full ?_) | (refine m_step rfl rfl (List.cons_ne_nil _ _) ?_) | (refine allR_cons rfl ?_ ?_) | (exact allR_nil) | (refine m_end rfl rfl rfl ?_))
  refine r_endS (u' := .panicking [{ v := halt (.iface tE vE), recovered := true }]) (s := .tu []) hT rfl rfl rfl (fun β w' hd => ⟨rfl, rfl, rec_two hd ?_ ?_⟩)
  · rw [upd_ne hij, upd_here]; rfl
  · rw [upd_here]; rfl
end Go.Proofs.YtkamfnmbidnhdaaDoor
