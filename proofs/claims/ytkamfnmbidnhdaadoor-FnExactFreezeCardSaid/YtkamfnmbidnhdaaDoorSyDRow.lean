/- The listed variable of the Sort laws; a start that meets the condition. -/
import Derived.Test.YtkamfnmbidnhdaaDoorRows
import Derived.Test.YtkamfnmbidnhdaaDoorCards
import Derived.Test.YtkamfnmbidnhdaaDoorTie
import Derived.Test.YtkamfnmbidnhdaaDoorSyW
import Derived.Test.YtkamfnmbidnhdaaDoorSyDOp
import Derived.WalkKit
import Derived.ProofKit
import Derived.LaidMore
import Derived.OpenShut
import Derived.ShutString
import Derived.ChangeOld
import Derived.Below
import Derived.ChangeVars
import Derived.Stop.LaidErr
import Derived.SevenTiedAt
set_option linter.unusedVariables false
set_option linter.unusedSimpArgs false
set_option linter.unusedSectionVars false
namespace Go.Proofs.YtkamfnmbidnhdaaDoor
open Go.Sy Go.ChangeShapes Go.WideShapes Go.ChangeAt Go.RowKit Go.Stop
theorem own : ownKnob Tryd.prog.godebug = none := by kernel_rfl
theorem laidOut : laidOutB Tryd.prog = true := by kernel_rfl
theorem gE : Tryd.prog.globalNamed "loop.example/cloth/impl.errFails" = some 0 := by kernel_rfl
theorem gEt : (Tryd.prog.globals[0]?).map (·.type) = some 72 := by kernel_rfl
theorem star : "*" ++ "errors.errorString" = "*errors.errorString" := by decide
theorem row228 (u : TypeId) (h : Tryd.prog.typeName? 3 u = some "*errors.errorString") : u = 228 :=
  typeName_ptr_named (nm := "errors.errorString") (by rw [star]; kernel_rfl) (by kernel_rfl) (by decide) u (by rw [star]; exact h)
theorem cells242 : Tryd.prog.cellsOf 242 = 1 := by kernel_rfl
theorem cells9 : Tryd.prog.cellsOf 9 = 1 := by kernel_rfl
theorem below_var {W W' : World} (h : Below W.heap.size W W') {n : String} {cs : Array Value} (hv : W.var? Tryd.prog n = some cs) : W'.var? Tryd.prog n = some cs := by
  unfold World.var? at hv ⊢
  cases hg : Tryd.prog.globalNamed n with
  | none => simp [hg] at hv
  | some g =>
    simp only [hg, Option.bind_some] at hv ⊢
    have hlt : g < W.heap.size := by
      cases hh : W.heap[g]? with
      | none => simp [hh] at hv
      | some o => exact (Array.getElem?_eq_some_iff.1 hh).1
    rw [h.block g hlt]; exact hv
/-- What the condition on the listed variable gives. -/
theorem of_laid {W : World} (h : laidMetH Tryd.prog [("loop.example/cloth/impl.errFails", Rows.laid_loop_example_cloth_impl_errFails)] W) :
    ∃ a, W.var? Tryd.prog "loop.example/cloth/impl.errFails" = some #[.iface 228 (.pointer (some a))] ∧ At (hpOf W) 0 0 [.iface 228 (.pointer (some a))] := by
  rw [MakeChecks.laidMetH_plain _ _ _ (by kernel_rfl)] at h
  obtain ⟨a, s, hv, _⟩ := laid_sentinel h gE gEt Tryd.underlying72 row228 Tryd.underlying228 Tryd.underlying242 rfl rfl Tryd.underlying9 cells242 cells9
  refine ⟨a, hv, ?_⟩
  unfold World.var? at hv
  rw [gE] at hv
  simp only [Option.bind_some] at hv
  unfold At hpOf
  cases hh : W.heap[0]? with
  | none => simp [hh] at hv
  | some o =>
    cases o with
    | cells cs t fr =>
      simp [hh] at hv
      subst hv
      exact ⟨_, _, _, rfl, fun j v hj => by simpa using hj⟩
    | _ => simp [hh] at hv
theorem door_met (os : Os) (args : Array Value) : laidMetH Tryd.prog [("loop.example/cloth/impl.errFails", Rows.laid_loop_example_cloth_impl_errFails)] ((World.doorLaid Tryd.prog 400 os).forCall (fun _ _ => 0) ⟨#[], args, []⟩).memory :=
  laidMetH_of_parts3 (fuel := 8) (laidMet_of_run' 8 (by kernel_rfl) (by kernel_rfl)) (by kernel_rfl) (by kernel_rfl)
end Go.Proofs.YtkamfnmbidnhdaaDoor
