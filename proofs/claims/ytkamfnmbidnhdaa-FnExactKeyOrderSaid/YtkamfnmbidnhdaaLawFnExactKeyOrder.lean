/- FnExactKeyOrder: the row over its walk and its pure statement (written by wip/tools/lawrow.py). Every input; no condition. -/
import Derived.Test.YtkamfnmbidnhdaaRows
import Derived.Test.YtkamfnmbidnhdaaOpen
import Derived.Test.YtkamfnmbidnhdaaSayFnExactKeyOrder
import Derived.Test.YtkamfnmbidnhdaaPureFnExactKeyOrder
import Derived.WalkKit
import Derived.ProofKit
import Derived.OpenShut
import Derived.ShutString
import Derived.ChangeOld
import Derived.Below
import Derived.SizedLaws
namespace Go.Proofs.Ytkamfnmbidnhdaa.P
open Go.RowKit Go.Proofs.YtkamfnmbidnhdaaW.PrintWords Go.Proofs.YtkamfnmbidnhdaaW.PrintLast Go.Proofs.YtkamfnmbidnhdaaW.PrintMore
theorem op3 : Opens Try.prog 3 (Kd.int .i64) (fun z => (Lit.int .i64 z).wf = true) := opens_int Try.underlying3 (by kernel_rfl)
theorem op2 : Opens Try.prog 2 (Kd.int .i64) (fun z => (Lit.int .i64 z).wf = true) := opens_int Try.underlying2 (by kernel_rfl)
theorem op9 : Opens Try.prog 9 Kd.string (fun s => s.size ≤ maxLen) := opens_string Try.underlying9 (by kernel_rfl)
set_option maxRecDepth 100000 in
theorem op26 : Opens Try.prog 26 (Kd.pair (Kd.int .i64) (Kd.pair (Kd.int .i64) (Kd.pair Kd.string (Kd.int .i64)))) (fun y => ((Lit.int .i64 y.1).wf = true) ∧ ((Lit.int .i64 y.2.1).wf = true) ∧ (y.2.2.1.size ≤ maxLen) ∧ ((Lit.int .i64 y.2.2.2).wf = true)) := Opens.imp (opens_struct Try.underlying26 (by kernel_rfl) (opens_cons rfl op3 rfl (opens_cons rfl op2 rfl (opens_cons rfl op9 rfl (opens_one rfl op3))))) (fun _ h => h)
end Go.Proofs.Ytkamfnmbidnhdaa.P
namespace Go.Proofs.Ytkamfnmbidnhdaa.fnExactKeyOrder
open Go.ChangeShapes Go.WideShapes Go.ChangeAt Go.RowKit Go.Proofs.Ytkamfnmbidnhdaa.P Go.Proofs.YtkamfnmbidnhdaaW.PrintWords
open Go.ChangeMaps (open_string shut_string)
theorem own : ownKnob Try.prog.godebug = none := by kernel_rfl
theorem laidOut : laidOutB Try.prog = true := by kernel_rfl
set_option maxRecDepth 100000 in
theorem lifted (os : Os) (started : os.Started) (H : Type) (enc : TypeId × Value → H) :
    ReturnsInHanded {} Try.checked os 5 .any (Rows.fnExactKeyOrderSpec.pre6 enc Try.prog Try.f5 Rows.fnExactKeyOrderRow.domain false) (Rows.fnExactKeyOrderSpec.post enc Try.prog Try.f5 false true false false) := by
  refine returnsInHanded_of_change_sized (C := Try.checked) own started (by kernel_rfl) Try.func5
    (ChangeSpec.witness6 (enc := enc) (C := Try.checked) false ⟨#[], #[.agg #[.int .i64 0, .int .i64 0, .string ByteArray.empty, .int .i64 0], .agg #[.int .i64 0, .int .i64 0, .string ByteArray.empty, .int .i64 0]], []⟩ 8 (by kernel_rfl) (by kernel_rfl) (by kernel_rfl) (by kernel_rfl)) ?_
  intro W base args ds gs before hval0 hW hcnd hsz0 _
  have hval : ∀ (j : Nat) t v, Try.f5.params[j]? = some t → args[j]? = some v → Value.okWide Try.prog W .any base t v := hval0
  have hW' := hW
  obtain ⟨p, q, hA0, hV, rfl, hfz, hnd⟩ := hW
  have hA : DataW.TrodAll enc Try.prog W 0 (fun _ => true) true Try.f5.params.toList args.toList ds p := hA0
  rw [Try.params5] at hA hval
  obtain ⟨v0, vs0, d0, ds0, p0, q0, hargs, rfl, rfl, h0, r0⟩ := trodAll_cons hA
  obtain ⟨v1, vs1, d1, ds1, p1, q1, rfl, rfl, rfl, h1, r1⟩ := trodAll_cons r0
  obtain ⟨rfl, rfl, rfl⟩ := trodAll_nil r1
  obtain rfl : args = #[v0, v1] := by cases args; simp_all
  obtain ⟨rfl, rfl⟩ := trodVars_none hV
  have k0 := h0
  have lt0 : ∀ x ∈ p0, x.block < W.heap.size := by obtain ⟨m, hm⟩ := k0; exact DataW.trod_lt m _ _ _ hm
  obtain ⟨cs0, y0, rfl, hK0, hG0⟩ := arg_struct op26 Try.underlying26 (hval 0 26 v0 rfl rfl) h0
  obtain ⟨b0_0, e0_0, rfl, kk0_0, hk0_0⟩ := hK0
  obtain rfl := kk0_0
  obtain ⟨b0_1, e0_1, rfl, kk0_1, hk0_1⟩ := hk0_0
  obtain rfl := kk0_1
  obtain ⟨b0_2, e0_2, rfl, kk0_2, hk0_2⟩ := hk0_1
  obtain rfl := kk0_2
  have kk0_3 := hk0_2
  obtain rfl := kk0_3
  have k1 := h1
  have lt1 : ∀ x ∈ p1, x.block < W.heap.size := by obtain ⟨m, hm⟩ := k1; exact DataW.trod_lt m _ _ _ hm
  obtain ⟨cs1, y1, rfl, hK1, hG1⟩ := arg_struct op26 Try.underlying26 (hval 1 26 v1 rfl rfl) h1
  obtain ⟨b1_0, e1_0, rfl, kk1_0, hk1_0⟩ := hK1
  obtain rfl := kk1_0
  obtain ⟨b1_1, e1_1, rfl, kk1_1, hk1_1⟩ := hk1_0
  obtain rfl := kk1_1
  obtain ⟨b1_2, e1_2, rfl, kk1_2, hk1_2⟩ := hk1_1
  obtain rfl := kk1_2
  have kk1_3 := hk1_2
  obtain rfl := kk1_3
  obtain ⟨k, hp⟩ := Pure.FnExactKeyOrder y0 y1 hG0.1 hG0.2.1 hG0.2.2.1 hG0.2.2.2 hG1.1 hG1.2.1 hG1.2.2.1 hG1.2.2.2
  clear hA0 hval0 hsz0
  refine (laws_FnExactKeyOrder.calls k y0.1 y0.2.1 y0.2.2.1 y0.2.2.2 y1.1 y1.2.1 y1.2.2.1 y1.2.2.2 true W  hp).mono fun e W' ⟨he, bel⟩ => ?_
  subst he
  exact ⟨_, rfl, _, _, _, [], _, [], hW', trodAll_mk1 (shut_bool Try.underlying4 _), (trodAll_cons_mk (Below.trod laidOut (by kernel_rfl) (of_decide_eq_true (by kernel_rfl)) k0 bel lt0) (trodAll_cons_mk (Below.trod laidOut (by kernel_rfl) (of_decide_eq_true (by kernel_rfl)) k1 bel lt1) trodAll_mk0)), rfl, bel.frame _, fun h => by cases h⟩
theorem over : Rows.fnExactKeyOrderRow.holds Try.pinned (OpenSpec.ofChange Rows.fnExactKeyOrderSpec) :=
  OpenClaim.holds_of_wide 5 Try.f5 rfl rfl rfl rfl rfl rfl rfl ⟨rfl, rfl, rfl, rfl, rfl⟩ rfl rfl rfl rfl rfl (by kernel_rfl) Try.func5 (by kernel_rfl)
    (of_decide_eq_true (by kernel_rfl)) (by unfold Func.isWrapper; first | (rw [if_pos (by decide +kernel)]; kernel_rfl) | (rw [if_neg (by decide +kernel)]; exact ⟨rfl, rfl⟩))
    (fun os started H enc _ => lifted os started H enc)
end Go.Proofs.Ytkamfnmbidnhdaa.fnExactKeyOrder
namespace Go.Proofs.Ytkamfnmbidnhdaa
theorem fnExactKeyOrder_holds : Rows.FnExactKeyOrderSaid := fnExactKeyOrder.over
end Go.Proofs.Ytkamfnmbidnhdaa
#print axioms Go.Proofs.Ytkamfnmbidnhdaa.fnExactKeyOrder_holds
