/- What the arguments of the laws of this seat are. No condition. -/
import Derived.Test.YtkamfnmbidnhdaaDoorSyDT
import Derived.Test.YtkamfnmbidnhdaaDoorSyRowG
import Derived.Test.YtkamfnmbidnhdaaDoorSyDRow
import Derived.Test.YtkamfnmbidnhdaaDoorSyDFa
set_option linter.unusedVariables false
set_option linter.unusedSimpArgs false
set_option linter.unusedSectionVars false
namespace Go.Proofs.YtkamfnmbidnhdaaDoor
open Go.Sy
set_option maxRecDepth 100000
theorem og3 : Opn Tryd.prog 3 1 (kInt .i64) := opn_int Tryd.underlying3 (by kernel_rfl)
theorem og2 : Opn Tryd.prog 2 1 (kInt .i64) := opn_int Tryd.underlying2 (by kernel_rfl)
theorem og9 : Opn Tryd.prog 9 1 kStr := opn_str Tryd.underlying9 (by kernel_rfl)
theorem og26 : Opn Tryd.prog 42 4 kV := Opn.imp (fun x => (⟨x.1, x.2.1, x.2.2.1, x.2.2.2⟩ : V)) (opn_struct (opn_cons rfl og3 rfl (opn_cons rfl og2 rfl (opn_cons rfl og9 rfl (opn_one rfl og3)))) Tryd.underlying42 rfl (by kernel_rfl)) (fun _ _ _ h => kV_of h)
theorem og146 : Opn Tryd.prog 196 8 kP := Opn.imp (fun x => (⟨x.1, x.2⟩ : Pr)) (opn_struct (opn_cons rfl og26 rfl (opn_one rfl og26)) Tryd.underlying196 rfl (by kernel_rfl)) (fun _ _ _ h => kP_of h)
theorem og115 : Opn Tryd.prog 133 1 kPs := Opn.imp id (opn_slice Tryd.underlying133 (by kernel_rfl) (by decide) og146) (fun _ _ _ h => kPs_of h)
theorem og117 : Opn Tryd.prog 135 1 kPs := opn_struct (opn_one rfl og115) Tryd.underlying135 rfl (by kernel_rfl)
theorem og41 : Opn Tryd.prog 43 1 kTs := Opn.imp id (opn_slice Tryd.underlying43 (by kernel_rfl) (by decide) og117) (fun _ _ _ h => kTs_of h)
theorem og43 : Opn Tryd.prog 45 5 kG := Opn.imp id (opn_struct (opn_cons rfl og26 rfl (opn_one rfl og41)) Tryd.underlying45 rfl (by kernel_rfl)) (fun _ _ _ h => kG_of h)
end Go.Proofs.YtkamfnmbidnhdaaDoor
/- The listed tables of the laws that print numbers; a start that meets the condition. -/
namespace Go.Proofs.YtkamfnmbidnhdaaDoor
open Go.Sy Go.ChangeShapes Go.WideShapes Go.ChangeAt Go.RowKit Go.Stop
theorem laidVars_third {P : Program} {W : World} {x0 x1 : String × DataW Unit} {name : String} {k : IntKind} {zs : List Int} {rest : List (String × DataW Unit)} {g : Nat} {t e : TypeId} {n : Nat}
    (hg : P.globalNamed name = some g) (hty : (P.globals[g]?).map (·.type) = some t) (ht : P.underlying t = some (.array n e)) (he : P.underlying e = some (.int k)) (hce : P.cellsOf e = 1) (hct : P.cellsOf t = n)
    (h : laidMet P (x0 :: x1 :: (name, Lib.tabData k zs) :: rest) W) : Lib.TabIs P W name k zs := by
  obtain ⟨ps, ⟨_, _, _, _, _, _, _, _, _, _, ⟨_, _, _, _, _, _, _, _, _, _, ⟨g', t', cs, fuel, p, q, hg', ht', hvar, hd, _, _⟩, _⟩, _⟩, _⟩ := h
  obtain rfl := Option.some.inj (hg.symm.trans hg')
  obtain rfl := Option.some.inj (hty.symm.trans ht')
  unfold Lib.TabIs
  rw [hvar, ← Lib.cells_of_tab ht he hce hct hd]
abbrev laid3 : List (String × DataW Unit) := [("math/bits.deBruijn32tab", Rows.laid_math_bits_deBruijn32tab), ("math/bits.deBruijn64tab", Rows.laid_math_bits_deBruijn64tab), ("internal/strconv.uint64pow10", Rows.laid_internal_strconv_uint64pow10)]
theorem laid_pow10 : (Rows.laid_internal_strconv_uint64pow10 : DataW Unit) = Lib.tabData .u64 Lib.pow10Tab := by kernel_rfl
theorem tab_hp {W : World} (h : Lib.TabIs Tryd.prog W "internal/strconv.uint64pow10" .u64 Lib.pow10Tab) : Tab10 (hpOf W) := by
  intro w hw
  unfold Lib.TabIs World.var? at h ⊢
  cases hg : Tryd.prog.globalNamed "internal/strconv.uint64pow10" with
  | none => rw [hg] at h; cases h
  | some g =>
    rw [hg] at h
    simp only [Option.bind_some] at h ⊢
    cases hh : W.heap[g]? with
    | none => rw [hh] at h; cases h
    | some o => rw [hh] at h; rw [hw g o hh]; exact h
set_option maxRecDepth 100000 in
theorem of_laid3 {W : World} (h : laidMetH Tryd.prog laid3 W) : Tab10 (hpOf W) := by
  rw [MakeChecks.laidMetH_plain _ _ _ (by kernel_rfl)] at h
  unfold laid3 at h
  rw [laid_pow10] at h
  exact tab_hp (laidVars_third (g := 2) (t := 217) (e := 120) (n := 20) (by kernel_rfl) (by kernel_rfl) Tryd.underlying217 Tryd.underlying120 (by kernel_rfl) (by kernel_rfl) h)
theorem door_met3 (os : Os) (args : Array Value) : laidMetH Tryd.prog laid3 ((World.doorLaid Tryd.prog 400 os).forCall (fun _ _ => 0) ⟨#[], args, []⟩).memory :=
  laidMetH_of_parts3 (fuel := 8) (laidMet_of_run' 8 (by kernel_rfl) (by kernel_rfl)) (by kernel_rfl) (by kernel_rfl)
end Go.Proofs.YtkamfnmbidnhdaaDoor
