/- What the arguments of the laws of this seat are. No condition. -/
import Derived.Test.YtkamfnmbidnhdaaSy1T
import Derived.Test.YtkamfnmbidnhdaaSyRowG
namespace Go.Proofs.Ytkamfnmbidnhdaa
open Go.Sy
set_option maxRecDepth 100000
theorem op3 : Opn Try.prog 3 1 (kInt .i64) := opn_int Try.underlying3 (by kernel_rfl)
theorem op2 : Opn Try.prog 2 1 (kInt .i64) := opn_int Try.underlying2 (by kernel_rfl)
theorem op9 : Opn Try.prog 9 1 kStr := opn_str Try.underlying9 (by kernel_rfl)
theorem op26 : Opn Try.prog 26 4 kV := Opn.imp (fun x => (⟨x.1, x.2.1, x.2.2.1, x.2.2.2⟩ : V)) (opn_struct (opn_cons rfl op3 rfl (opn_cons rfl op2 rfl (opn_cons rfl op9 rfl (opn_one rfl op3)))) Try.underlying26 rfl (by kernel_rfl)) (fun _ _ _ h => kV_of h)
theorem op146 : Opn Try.prog 146 8 kP := Opn.imp (fun x => (⟨x.1, x.2⟩ : Pr)) (opn_struct (opn_cons rfl op26 rfl (opn_one rfl op26)) Try.underlying146 rfl (by kernel_rfl)) (fun _ _ _ h => kP_of h)
theorem op115 : Opn Try.prog 115 1 kPs := Opn.imp id (opn_slice Try.underlying115 (by kernel_rfl) (by decide) op146) (fun _ _ _ h => kPs_of h)
theorem op117 : Opn Try.prog 117 1 kPs := opn_struct (opn_one rfl op115) Try.underlying117 rfl (by kernel_rfl)
theorem op41 : Opn Try.prog 41 1 kTs := Opn.imp id (opn_slice Try.underlying41 (by kernel_rfl) (by decide) op117) (fun _ _ _ h => kTs_of h)
theorem op43 : Opn Try.prog 43 5 kG := Opn.imp id (opn_struct (opn_cons rfl op26 rfl (opn_one rfl op41)) Try.underlying43 rfl (by kernel_rfl)) (fun _ _ _ h => kG_of h)
end Go.Proofs.Ytkamfnmbidnhdaa
