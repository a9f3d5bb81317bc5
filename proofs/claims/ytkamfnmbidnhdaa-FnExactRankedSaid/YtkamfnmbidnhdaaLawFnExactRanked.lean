/- FnExactRanked: the row over its walk and its pure statement (written by wip/tools/lawrow.py). Every input; no condition. -/
import Derived.Test.YtkamfnmbidnhdaaRows
import Derived.Test.YtkamfnmbidnhdaaOpen
import Derived.Test.YtkamfnmbidnhdaaSayFnExactRanked
import Derived.Test.YtkamfnmbidnhdaaPureFnExactRanked
import Derived.WalkKit
import Derived.ProofKit
import Derived.OpenShut
import Derived.ShutString
import Derived.ChangeOld
import Derived.Below
import Derived.SizedLaws
namespace Go.Proofs.Ytkamfnmbidnhdaa.P
open Go.RowKit Go.Proofs.YtkamfnmbidnhdaaW.PrintWords Go.Proofs.YtkamfnmbidnhdaaW.PrintLast Go.Proofs.YtkamfnmbidnhdaaW.PrintMore
theorem op3 : Opens Try.prog 3 (Kd.int .i64) (fun z => (Lit.int .i64 z).wf = true) := opens_int Try.underlying3 (by kernel_rfl)
theorem op67 : Opens Try.prog 67 (Kd.slice 3 (Kd.int .i64)) (fun l => l.length ≤ 9223372036854775807 ∧ ∀ y, y ∈ l → (Lit.int .i64 y).wf = true) := opens_slice Try.underlying67 (by kernel_rfl) op3
theorem op32 : Opens Try.prog 32 (Kd.slice 67 (Kd.slice 3 (Kd.int .i64))) (fun l => l.length ≤ 9223372036854775807 ∧ ∀ y, y ∈ l → (y.length ≤ 9223372036854775807 ∧ ∀ y3, y3 ∈ y → (Lit.int .i64 y3).wf = true)) := opens_slice Try.underlying32 (by kernel_rfl) op67
end Go.Proofs.Ytkamfnmbidnhdaa.P
namespace Go.Proofs.Ytkamfnmbidnhdaa.fnExactRanked
open Go.ChangeShapes Go.WideShapes Go.ChangeAt Go.RowKit Go.Proofs.Ytkamfnmbidnhdaa.P Go.Proofs.YtkamfnmbidnhdaaW.PrintWords
open Go.ChangeMaps (open_string shut_string)
theorem own : ownKnob Try.prog.godebug = none := by kernel_rfl
theorem laidOut : laidOutB Try.prog = true := by kernel_rfl
set_option maxRecDepth 100000 in
theorem lifted (os : Os) (started : os.Started) (H : Type) (enc : TypeId × Value → H) :
    ReturnsInHanded {} Try.checked os 6 .any (Rows.fnExactRankedSpec.pre6 enc Try.prog Try.f6 Rows.fnExactRankedRow.domain false) (Rows.fnExactRankedSpec.post enc Try.prog Try.f6 false true false false) := by
  refine returnsInHanded_of_change_sized (C := Try.checked) own started (by kernel_rfl) Try.func6
    (ChangeSpec.witness6 (enc := enc) (C := Try.checked) false ⟨#[], #[.slice none 0 0], []⟩ 8 (by kernel_rfl) (by kernel_rfl) (by kernel_rfl) (by kernel_rfl)) ?_
  intro W base args ds gs before hval0 hW hcnd hsz0 _
  have hval : ∀ (j : Nat) t v, Try.f6.params[j]? = some t → args[j]? = some v → Value.okWide Try.prog W .any base t v := hval0
  have hW' := hW
  obtain ⟨p, q, hA0, hV, rfl, hfz, hnd⟩ := hW
  have hA : DataW.TrodAll enc Try.prog W 0 (fun _ => true) true Try.f6.params.toList args.toList ds p := hA0
  rw [Try.params6] at hA hval
  obtain ⟨v0, vs0, d0, ds0, p0, q0, hargs, rfl, rfl, h0, r0⟩ := trodAll_cons hA
  obtain ⟨rfl, rfl, rfl⟩ := trodAll_nil r0
  obtain rfl : args = #[v0] := by cases args; simp_all
  obtain ⟨rfl, rfl⟩ := trodVars_none hV
  have k0 := h0
  have lt0 : ∀ x ∈ p0, x.block < W.heap.size := by obtain ⟨m, hm⟩ := k0; exact DataW.trod_lt m _ _ _ hm
  obtain ⟨A0, c0, l0, rfl, hl0, hC0, hG0⟩ := arg_slice op32 Try.underlying32 (hval 0 32 v0 rfl rfl) h0
  obtain ⟨k, hp⟩ := Pure.FnExactRanked l0 hG0
  clear hA0 hval0 hsz0
  refine (laws_FnExactRanked.calls k A0 c0 l0 true W hC0 hl0 hp).mono fun e W' ⟨he, bel⟩ => ?_
  subst he
  exact ⟨_, rfl, _, _, _, [], _, [], hW', trodAll_mk1 (shut_bool Try.underlying4 _), (trodAll_cons_mk (Below.trod laidOut (by kernel_rfl) (of_decide_eq_true (by kernel_rfl)) k0 bel lt0) trodAll_mk0), rfl, bel.frame _, fun h => by cases h⟩
theorem over : Rows.fnExactRankedRow.holds Try.pinned (OpenSpec.ofChange Rows.fnExactRankedSpec) :=
  OpenClaim.holds_of_wide 6 Try.f6 rfl rfl rfl rfl rfl rfl rfl ⟨rfl, rfl, rfl, rfl, rfl⟩ rfl rfl rfl rfl rfl (by kernel_rfl) Try.func6 (by kernel_rfl)
    (of_decide_eq_true (by kernel_rfl)) (by unfold Func.isWrapper; first | (rw [if_pos (by decide +kernel)]; kernel_rfl) | (rw [if_neg (by decide +kernel)]; exact ⟨rfl, rfl⟩))
    (fun os started H enc _ => lifted os started H enc)
end Go.Proofs.Ytkamfnmbidnhdaa.fnExactRanked
namespace Go.Proofs.Ytkamfnmbidnhdaa
theorem fnExactRanked_holds : Rows.FnExactRankedSaid := fnExactRanked.over
end Go.Proofs.Ytkamfnmbidnhdaa
#print axioms Go.Proofs.Ytkamfnmbidnhdaa.fnExactRanked_holds
