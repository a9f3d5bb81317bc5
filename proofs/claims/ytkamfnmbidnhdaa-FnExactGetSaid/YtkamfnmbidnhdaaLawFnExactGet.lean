/- FnExactGet: the row over its walk and its pure statement (written by wip/tools/lawrow.py). Every input; no condition. -/
import Derived.Test.YtkamfnmbidnhdaaRows
import Derived.Test.YtkamfnmbidnhdaaOpen
import Derived.Test.YtkamfnmbidnhdaaSayFnExactGet
import Derived.Test.YtkamfnmbidnhdaaPureFnExactGet
import Derived.WalkKit
import Derived.ProofKit
import Derived.OpenShut
import Derived.ShutString
import Derived.ChangeOld
import Derived.Below
import Derived.SizedLaws
namespace Go.Proofs.Ytkamfnmbidnhdaa.P
open Go.RowKit Go.Proofs.YtkamfnmbidnhdaaW.PrintWords Go.Proofs.YtkamfnmbidnhdaaW.PrintLast Go.Proofs.YtkamfnmbidnhdaaW.PrintMore
theorem op3 : Opens Try.prog 3 (Kd.int .i64) (fun z => (Lit.int .i64 z).wf = true) := opens_int Try.underlying3 (by kernel_rfl)
theorem op2 : Opens Try.prog 2 (Kd.int .i64) (fun z => (Lit.int .i64 z).wf = true) := opens_int Try.underlying2 (by kernel_rfl)
theorem op9 : Opens Try.prog 9 Kd.string (fun s => s.size ≤ maxLen) := opens_string Try.underlying9 (by kernel_rfl)
set_option maxRecDepth 100000 in
theorem op26 : Opens Try.prog 26 k26 g26 := by
  refine Opens.imp (opens_iso (fun x : S26 => (x.f0, x.f1, x.f2, x.f3)) (fun p => ⟨p.1, p.2.1, p.2.2.1, p.2.2.2⟩) (fun _ => rfl) (opens_struct Try.underlying26 (by kernel_rfl) (opens_cons rfl op3 rfl (opens_cons rfl op2 rfl (opens_cons rfl op9 rfl (opens_one rfl op3)))))) ?_
  exact fun _ h => h
set_option maxRecDepth 100000 in
theorem op146 : Opens Try.prog 146 k146 g146 := by
  refine Opens.imp (opens_iso (fun x : S146 => (x.f0, x.f1)) (fun p => ⟨p.1, p.2⟩) (fun _ => rfl) (opens_struct Try.underlying146 (by kernel_rfl) (opens_cons rfl op26 rfl (opens_one rfl op26)))) ?_
  exact fun _ h => h
theorem op115 : Opens Try.prog 115 (Kd.slice 146 k146) (fun l => l.length ≤ 9223372036854775807 ∧ ∀ y, y ∈ l → g146 y) := opens_slice Try.underlying115 (by kernel_rfl) op146
set_option maxRecDepth 100000 in
theorem op117 : Opens Try.prog 117 k117 g117 := by
  refine Opens.imp (opens_iso (fun x : S117 => (x.f0)) (fun p => ⟨p⟩) (fun _ => rfl) (opens_struct Try.underlying117 (by kernel_rfl) (opens_one rfl op115))) ?_
  exact fun _ h => h
theorem op41 : Opens Try.prog 41 (Kd.slice 117 k117) (fun l => l.length ≤ 9223372036854775807 ∧ ∀ y, y ∈ l → g117 y) := opens_slice Try.underlying41 (by kernel_rfl) op117
set_option maxRecDepth 100000 in
theorem op43 : Opens Try.prog 43 (Kd.pair k26 (Kd.slice 117 k117)) (fun y => (g26 y.1) ∧ ((y.2.length ≤ 9223372036854775807 ∧ ∀ y117, y117 ∈ y.2 → g117 y117))) := by
  refine Opens.imp (opens_struct Try.underlying43 (by kernel_rfl) (opens_cons rfl op26 rfl (opens_one rfl op41))) ?_
  exact fun _ h => h
theorem op52 : Opens Try.prog 52 (Kd.slice 26 k26) (fun l => l.length ≤ 9223372036854775807 ∧ ∀ y, y ∈ l → g26 y) := opens_slice Try.underlying52 (by kernel_rfl) op26
end Go.Proofs.Ytkamfnmbidnhdaa.P
namespace Go.Proofs.Ytkamfnmbidnhdaa.fnExactGet
open Go.ChangeShapes Go.WideShapes Go.ChangeAt Go.RowKit Go.Proofs.Ytkamfnmbidnhdaa.P Go.Proofs.YtkamfnmbidnhdaaW.PrintWords
open Go.ChangeMaps (open_string shut_string)
theorem own : ownKnob Try.prog.godebug = none := by kernel_rfl
theorem laidOut : laidOutB Try.prog = true := by kernel_rfl
set_option maxRecDepth 100000 in
theorem lifted (os : Os) (started : os.Started) (H : Type) (enc : TypeId × Value → H) :
    ReturnsInHanded {} Try.checked os 9 .any (Rows.fnExactGetSpec.pre6 enc Try.prog Try.f9 Rows.fnExactGetRow.domain false) (Rows.fnExactGetSpec.post enc Try.prog Try.f9 false true false false) := by
  refine returnsInHanded_of_change_sized (C := Try.checked) own started (by kernel_rfl) Try.func9
    (ChangeSpec.witness6 (enc := enc) (C := Try.checked) false ⟨#[], #[.agg #[.int .i64 0, .int .i64 0, .string ByteArray.empty, .int .i64 0, .slice none 0 0], .slice none 0 0], []⟩ 8 (by kernel_rfl) (by kernel_rfl) (by kernel_rfl) (by kernel_rfl)) ?_
  intro W base args ds gs before hval0 hW hcnd hsz0 _
  have hval : ∀ (j : Nat) t v, Try.f9.params[j]? = some t → args[j]? = some v → Value.okWide Try.prog W .any base t v := hval0
  have hW' := hW
  obtain ⟨p, q, hA0, hV, rfl, hfz, hnd⟩ := hW
  have hA : DataW.TrodAll enc Try.prog W 0 (fun _ => true) true Try.f9.params.toList args.toList ds p := hA0
  rw [Try.params9] at hA hval
  obtain ⟨v0, vs0, d0, ds0, p0, q0, hargs, rfl, rfl, h0, r0⟩ := trodAll_cons hA
  obtain ⟨v1, vs1, d1, ds1, p1, q1, rfl, rfl, rfl, h1, r1⟩ := trodAll_cons r0
  obtain ⟨rfl, rfl, rfl⟩ := trodAll_nil r1
  obtain rfl : args = #[v0, v1] := by cases args; simp_all
  obtain ⟨rfl, rfl⟩ := trodVars_none hV
  have k0 := h0
  have lt0 : ∀ x ∈ p0, x.block < W.heap.size := by obtain ⟨m, hm⟩ := k0; exact DataW.trod_lt m _ _ _ hm
  obtain ⟨cs0, y0, rfl, hK0, hG0⟩ := arg_struct op43 Try.underlying43 (hval 0 43 v0 rfl rfl) h0
  obtain ⟨b0_0, e0_0, rfl, kk0_0, hk0_0⟩ := hK0
  obtain rfl := k26_open kk0_0
  have kk0_1 := hk0_0
  obtain ⟨A0_1, c0_1, rfl, hl0_1, hC0_1⟩ := kk0_1
  have k1 := h1
  have lt1 : ∀ x ∈ p1, x.block < W.heap.size := by obtain ⟨m, hm⟩ := k1; exact DataW.trod_lt m _ _ _ hm
  obtain ⟨A1, c1, l1, rfl, hl1, hC1, hG1⟩ := arg_slice op52 Try.underlying52 (hval 1 52 v1 rfl rfl) h1
  obtain ⟨k, hp⟩ := Pure.FnExactGet y0 l1 hG0.1 hG0.2 hG1
  clear hA0 hval0 hsz0
  refine (laws_FnExactGet.calls k y0.1.f0 y0.1.f1 y0.1.f2 y0.1.f3 A0_1 c0_1 y0.2 A1 c1 l1 true W hC0_1 hl0_1 hC1 hl1 hp).mono fun e W' ⟨he, bel⟩ => ?_
  subst he
  exact ⟨_, rfl, _, _, _, [], _, [], hW', trodAll_mk1 (shut_bool Try.underlying4 _), (trodAll_cons_mk (Below.trod laidOut (by kernel_rfl) (of_decide_eq_true (by kernel_rfl)) k0 bel lt0) (trodAll_cons_mk (Below.trod laidOut (by kernel_rfl) (of_decide_eq_true (by kernel_rfl)) k1 bel lt1) trodAll_mk0)), rfl, bel.frame _, fun h => by cases h⟩
theorem over : Rows.fnExactGetRow.holds Try.pinned (OpenSpec.ofChange Rows.fnExactGetSpec) :=
  OpenClaim.holds_of_wide 9 Try.f9 rfl rfl rfl rfl rfl rfl rfl ⟨rfl, rfl, rfl, rfl, rfl⟩ rfl rfl rfl rfl rfl (by kernel_rfl) Try.func9 (by kernel_rfl)
    (of_decide_eq_true (by kernel_rfl)) (by unfold Func.isWrapper; first | (rw [if_pos (by decide +kernel)]; kernel_rfl) | (rw [if_neg (by decide +kernel)]; exact ⟨rfl, rfl⟩))
    (fun os started H enc _ => lifted os started H enc)
end Go.Proofs.Ytkamfnmbidnhdaa.fnExactGet
namespace Go.Proofs.Ytkamfnmbidnhdaa
theorem fnExactGet_holds : Rows.FnExactGetSaid := fnExactGet.over
end Go.Proofs.Ytkamfnmbidnhdaa
#print axioms Go.Proofs.Ytkamfnmbidnhdaa.fnExactGet_holds
